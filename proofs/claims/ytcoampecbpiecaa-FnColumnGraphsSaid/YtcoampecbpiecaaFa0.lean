/- Texts of the clean machine, joined. No claim is stated here. -/
import GoSem.Core.Code
import GoSem.Core.View
import Derived.Control
import Derived.WalkKit
import Derived.Below
import Derived.Laws.IdiomCopy
import Derived.Laws.Cells
import Derived.Laws.NewBlocks
import Derived.Calls
import Derived.Laws.StructEq
set_option linter.unusedVariables false
namespace Go.Proofs.Ytcoampecbpiecaa.Cl
open Go
structure Sl where
 o : Option Nat
 n : Nat
 off : Nat
 len : Nat
 sz : Nat
structure Pt where
 o : Option Nat
 n : Nat
 off : Nat
def Sl.nil : Sl := ⟨none, 0, 0, 0, 0⟩
def Pt.nil : Pt := ⟨none, 0, 0⟩
inductive AVal where
 | undef
 | gone
 | bool (b : Bool)
 | int (k : IntKind) (n : Int)
 | str (s : ByteArray)
 | ptr (p : Pt)
 | sl (s : Sl)
 | func (f : Nat) (cap : List AVal)
 | nilFunc
 | map (r : Option Nat)
 | agg (cs : List AVal)
 | tuple (vs : List AVal)
inductive AObj where
 | own (cs : List AVal)
 | ro (cs : List AVal)
 | mp (es : List (AVal × AVal))
 | dead
 | lost (n : Nat)
abbrev H := List AObj
abbrev Frame := List AVal
abbrev i64 (n : Int) : AVal := .int .i64 n
def w64 (n : Int) : Int := IntKind.i64.wrap n
inductive TD where
 | int (k : IntKind) | bool | str | ptr | sl (e : Nat) | arr (n e : Nat) | struct (fs : List (Nat × Nat)) | func | map (k e : Nat) | tuple (ts : List Nat) | other
structure TInfo where
 d : TD
 size : Nat
 bytes : Nat
 zero : List AVal
def TInfo.none : TInfo := ⟨.other, 0, 0, []⟩
abbrev Tab := List TInfo
def tget (T : Tab) (t : Nat) : TInfo := T.getD t TInfo.none
def cells (h : H) (o n : Nat) : Option (List AVal) :=
 match h[o]? with
 | some (.own cs) => if cs.length = n then some cs else none
 | some (.ro cs) => if cs.length = n then some cs else none
 | _ => none
def owned (h : H) (o n : Nat) : Option (List AVal) :=
 match h[o]? with
 | some (.own cs) => if cs.length = n then some cs else none
 | _ => none
def range (h : H) (o : Option Nat) (n off k : Nat) : Option (List AVal) :=
 match o with
 | some o => (cells h o n).bind fun cs => if off + k ≤ cs.length then some ((cs.drop off).take k) else none
 | none => none
def cell (h : H) (p : Pt) : Option AVal :=
 match p.o with
 | some o => (cells h o p.n).bind fun cs => cs[p.off]?
 | none => none
def splice (cs : List AVal) (off : Nat) (vs : List AVal) : List AVal := cs.take off ++ vs ++ cs.drop (off + vs.length)
def put1 (h : H) (p : Pt) (v : AVal) : Option H :=
 match p.o with
 | some o => (owned h o p.n).bind fun cs => if p.off < cs.length then some (h.set o (.own (cs.set p.off v))) else none
 | none => none
def putN (h : H) (o : Option Nat) (n off : Nat) (vs : List AVal) : Option H :=
 match o with
 | some o => (owned h o n).bind fun cs => if off + vs.length ≤ cs.length then some (h.set o (.own (splice cs off vs))) else none
 | none => none
def sread (h : H) (s : Sl) : Option (List AVal) :=
 if s.len * s.sz = 0 then some [] else range h s.o s.n s.off (s.len * s.sz)
def ldI (k : IntKind) (p : Pt) (h : H) (K : Int → Prop) : Prop := ∃ n, cell h p = some (.int k n) ∧ K n
def ldB (p : Pt) (h : H) (K : Bool → Prop) : Prop := ∃ b, cell h p = some (.bool b) ∧ K b
def ldS (p : Pt) (h : H) (K : Sl → Prop) : Prop := ∃ s, cell h p = some (.sl s) ∧ K s
def ldP (p : Pt) (h : H) (K : Pt → Prop) : Prop := ∃ q, cell h p = some (.ptr q) ∧ K q
def ldV (p : Pt) (h : H) (K : AVal → Prop) : Prop := ∃ v, cell h p = some v ∧ K v
def ldA (p : Pt) (k : Nat) (h : H) (K : List AVal → Prop) : Prop := ∃ cs, range h p.o p.n p.off k = some cs ∧ K cs
def st1 (p : Pt) (v : AVal) (h : H) (K : H → Prop) : Prop := ∃ h', put1 h p v = some h' ∧ K h'
def stN (p : Pt) (k : Nat) (vs : List AVal) (h : H) (K : H → Prop) : Prop := ∃ h', vs.length = k ∧ putN h p.o p.n p.off vs = some h' ∧ K h'
def newO (cs : List AVal) (h : H) (K : Pt → H → Prop) : Prop := K ⟨some h.length, cs.length, 0⟩ (h ++ [.own cs])
def newK (k : Nat) (cs : List AVal) (h : H) (K : Pt → H → Prop) : Prop := cs.length = k ∧ K ⟨some h.length, k, 0⟩ (h ++ [.own cs])
def newS (len sz : Nat) (cs : List AVal) (h : H) (K : Sl → H → Prop) : Prop :=
 K ⟨some h.length, len * sz, 0, len, sz⟩ (h ++ [.own cs])
def lim : Int := 1073741824
def mkS (n : Int) (z : List AVal) (h : H) (K : Sl → H → Prop) : Prop :=
 (0 ≤ n ∧ n ≤ lim) ∧ K ⟨some h.length, n.toNat * z.length, 0, n.toNat, z.length⟩ (h ++ [.own (List.replicate n.toNat z).flatten])
def isPt (p : Pt) (K : Prop) : Prop := p.o.isSome = true ∧ K
def AVal.nonNil : AVal → Bool
 | .ptr p => p.o.isSome
 | .func _ _ => true
 | _ => false
def nilC (v : AVal) (K : Prop) : Prop := v.nonNil = true ∧ K
def AVal.isCell : AVal → Bool
 | .agg _ => false
 | .tuple _ => false
 | .undef => false
 | .gone => false
 | _ => true
def Pt.add (p : Pt) (k : Nat) : Pt := ⟨p.o, p.n, p.off + k⟩
def ixS (s : Sl) (z : Nat) (i : Int) (K : Pt → Prop) : Prop := (0 ≤ i ∧ i < s.len) ∧ s.sz = z ∧ s.o.isSome = true ∧ K ⟨s.o, s.n, s.off + i.toNat * z⟩
def ixA (p : Pt) (len z : Nat) (i : Int) (K : Pt → Prop) : Prop := (0 ≤ i ∧ i < len) ∧ p.o.isSome = true ∧ K (p.add (i.toNat * z))
def okS (h : H) (s : Sl) : Prop :=
 match s.o with
 | none => True
 | some o => (cells h o s.n).isSome = true
def cut (s : Sl) (z : Nat) (lo hi : Int) (h : H) (K : Sl → Prop) : Prop :=
 (0 ≤ lo ∧ lo ≤ hi) ∧ okS h s ∧ (s.o = none → hi = 0) ∧ (s.o ≠ none → s.sz = z ∧ s.off + hi.toNat * z ≤ s.n) ∧ K ⟨s.o, s.n, s.off + lo.toNat * z, (hi - lo).toNat, z⟩
def cutA (p : Pt) (len z : Nat) (lo hi : Int) (K : Sl → Prop) : Prop :=
 (0 ≤ lo ∧ lo ≤ hi ∧ hi ≤ len) ∧ p.o.isSome = true ∧ p.off + len * z = p.n ∧ K ⟨p.o, p.n, p.off + lo.toNat * z, (hi - lo).toNat, z⟩
inductive App (z : Nat) (s : Sl) (m : Nat) (xs : List AVal) (h : H) : Sl → H → Prop where
 | zero : m = 0 → App z s m xs h s h
 | fresh : s.o = none → 0 < m → App z s m xs h ⟨some h.length, m * z, 0, m, z⟩ (h ++ [.own xs])
 | fits {o : Nat} {h' : H} : 0 < m → s.sz = z → s.o = some o → s.off + (s.len + m) * z ≤ s.n → putN h (some o) s.n (s.off + s.len * z) xs = some h' → App z s m xs h ⟨some o, s.n, s.off, s.len + m, z⟩ h'
 | grows {o : Nat} {cs : List AVal} : 0 < m → s.sz = z → s.o = some o → s.off = 0 → s.len * z = s.n → owned h o s.n = some cs → App z s m xs h ⟨some o, s.n + m * z, 0, s.len + m, z⟩ (h.set o (.own (cs ++ xs)))
 | moves {o : Nat} {cs : List AVal} : 0 < m → s.sz = z → s.o = some o → s.off + s.len * z = s.n → owned h o s.n = some cs → App z s m xs h ⟨some h.length, (s.len + m) * z, 0, s.len + m, z⟩ (h.set o (.lost (s.n + 1)) ++ [.own (cs.drop s.off ++ xs)])
def app (s x : Sl) (z : Nat) (h : H) (K : Sl → H → Prop) : Prop :=
 ∃ xs s' h', sread h x = some xs ∧ (x.len ≠ 0 → x.sz = z) ∧ ((s.len + x.len : Nat) : Int) ≤ lim ∧ App z s x.len xs h s' h' ∧ K s' h'
def copyS (s x : Sl) (z : Nat) (h : H) (K : Int → H → Prop) : Prop :=
 ∃ xs h', range h x.o x.n x.off (min x.len s.len * z) = some xs ∧ s.sz = z ∧ x.sz = z ∧ putN h s.o s.n s.off xs = some h' ∧ K (min x.len s.len : Nat) h'
def clearS (s : Sl) (z : List AVal) (h : H) (K : H → Prop) : Prop :=
 if s.len = 0 then K h else ∃ h', s.sz = z.length ∧ putN h s.o s.n s.off (List.replicate s.len z).flatten = some h' ∧ K h'
def intsOf : List AVal → Option (List Int)
 | [] => some []
 | .int .i64 n :: l => (intsOf l).map (n :: ·)
 | _ => none
def keyIs (k k' : AVal) : Option Bool :=
 match k with
 | .int j a => match k' with | .int j' b => if j = j' then some (a == b) else none | _ => none
 | .agg a => match k' with
  | .agg b => match intsOf a, intsOf b with
   | some x, some y => if x.length = y.length then some (x == y) else none
   | _, _ => none
  | _ => none
 | _ => none
def mpFind (k : AVal) : List (AVal × AVal) → Option (Option AVal)
 | [] => some none
 | e :: es => match keyIs k e.1 with
  | some true => some (some e.2)
  | some false => mpFind k es
  | none => none
def mpPut (k v : AVal) : List (AVal × AVal) → Option (List (AVal × AVal))
 | [] => some [(k, v)]
 | e :: es => match keyIs k e.1 with
  | some true => some ((k, v) :: es)
  | some false => (mpPut k v es).map (e :: ·)
  | none => none
def mapAt (h : H) (r : Option Nat) : Option (List (AVal × AVal)) :=
 match r with
 | none => some []
 | some o => match h[o]? with | some (.mp es) => some es | _ => none
def newM (h : H) (K : AVal → H → Prop) : Prop := K (.map (some h.length)) (h ++ [.mp []])
def mput (m k x : AVal) (h : H) (K : H → Prop) : Prop := ∃ o es es', m = .map (some o) ∧ h[o]? = some (.mp es) ∧ mpPut k x es = some es' ∧ K (h.set o (.mp es'))
def mgetI (j : IntKind) (m k : AVal) (h : H) (K : Int → Prop) : Prop := ∃ r es f n, m = .map r ∧ mapAt h r = some es ∧ mpFind k es = some f ∧ ((f = none ∧ n = 0) ∨ f = some (.int j n)) ∧ K n
def mgetB (m k : AVal) (h : H) (K : Bool → Prop) : Prop := ∃ r es f b, m = .map r ∧ mapAt h r = some es ∧ mpFind k es = some f ∧ ((f = none ∧ b = false) ∨ f = some (.bool b)) ∧ K b
def mlen (m : AVal) (h : H) (K : Int → Prop) : Prop := ∃ r es, m = .map r ∧ mapAt h r = some es ∧ K (es.length : Nat)
def keyA (n : Nat) (cs : List AVal) (K : Prop) : Prop := (∃ l, intsOf cs = some l ∧ l.length = n) ∧ K
def sameM (m : AVal) (h h' : H) : Prop := ∀ r, m = .map r → mapAt h' r = mapAt h r
def ixStr (s : ByteArray) (i : Int) (K : Int → Prop) : Prop := ∃ b : UInt8, 0 ≤ i ∧ s[i.toNat]? = some b ∧ K (b.toNat : Nat)
def cutStr (s : ByteArray) (a b : Int) (K : ByteArray → Prop) : Prop := (0 ≤ a ∧ a ≤ b ∧ b ≤ s.size) ∧ K (s.extract a.toNat b.toNat)
def viaStr (v : AVal) (K : ByteArray → Prop) : Prop := ∃ s, v = .str s ∧ K s
def strEq (x y : AVal) (K : Bool → Prop) : Prop := viaStr x fun a => viaStr y fun b => K (a == b)
def binStr (op : BinOp) (x y : AVal) (K : AVal → Prop) : Prop := match op with
 | .eql => strEq x y fun r => K (.bool r)
 | .neq => strEq x y fun r => K (.bool (!r))
 | _ => False
def nz (b : Int) (K : Prop) : Prop := b ≠ 0 ∧ K
def nn (b : Int) (K : Prop) : Prop := 0 ≤ b ∧ K
def lenA (cs : List AVal) (k : Nat) (K : Prop) : Prop := cs.length = k ∧ K
def partI (k : IntKind) (cs : List AVal) (i : Int) (K : Int → Prop) : Prop := ∃ n, 0 ≤ i ∧ cs[i.toNat]? = some (.int k n) ∧ K n
def partB (cs : List AVal) (i : Int) (K : Bool → Prop) : Prop := ∃ n, 0 ≤ i ∧ cs[i.toNat]? = some (.bool n) ∧ K n
def partS (cs : List AVal) (i : Int) (K : Sl → Prop) : Prop := ∃ n, 0 ≤ i ∧ cs[i.toNat]? = some (.sl n) ∧ K n
def partP (cs : List AVal) (i : Int) (K : Pt → Prop) : Prop := ∃ n, 0 ≤ i ∧ cs[i.toNat]? = some (.ptr n) ∧ K n
def partV (cs : List AVal) (i : Int) (K : AVal → Prop) : Prop := ∃ n, 0 ≤ i ∧ cs[i.toNat]? = some n ∧ K n
def partA (cs : List AVal) (i : Int) (k : Nat) (K : List AVal → Prop) : Prop := (0 ≤ i ∧ i.toNat + k ≤ cs.length) ∧ K ((cs.drop i.toNat).take k)
def ints (k : IntKind) : List AVal → Option (List Int)
 | [] => some []
 | .int k' n :: l => if k' = k then (ints k l).map (n :: ·) else none
 | _ => none
def eqA (k : IntKind) (m : Nat) (xs ys : List AVal) (K : Bool → Prop) : Prop :=
 ∃ a b, ints k xs = some a ∧ ints k ys = some b ∧ a.length = m ∧ b.length = m ∧ K (a == b)
def bitsOp (op : BinOp) (k : IntKind) (x y : Int) : Int :=
 let a := BitVec.ofInt k.bits x
 let b := BitVec.ofInt k.bits y
 k.wrap (match op with | .and => (a &&& b).toNat | .or => (a ||| b).toNat | .xor => (a ^^^ b).toNat | _ => (a &&& ~~~b).toNat)
def shlI (k : IntKind) (x y : Int) : Int := k.wrap (x * 2 ^ (min y.toNat k.bits))
def shrI (k : IntKind) (x y : Int) : Int := x.fdiv (2 ^ (min y.toNat k.bits))
abbrev SatT := Nat → List AVal → H → AVal → H → Prop
def callV (S : SatT) (f : Nat) (args : List AVal) (h : H) (K : AVal → H → Prop) : Prop := ∃ v h', S f args h v h' ∧ K v h'
def callI (S : SatT) (k : IntKind) (f : Nat) (args : List AVal) (h : H) (K : Int → H → Prop) : Prop := ∃ v h', S f args h (.int k v) h' ∧ K v h'
def callB (S : SatT) (f : Nat) (args : List AVal) (h : H) (K : Bool → H → Prop) : Prop := ∃ v h', S f args h (.bool v) h' ∧ K v h'
def callS (S : SatT) (f : Nat) (args : List AVal) (h : H) (K : Sl → H → Prop) : Prop := ∃ v h', S f args h (.sl v) h' ∧ K v h'
def callP (S : SatT) (f : Nat) (args : List AVal) (h : H) (K : Pt → H → Prop) : Prop := ∃ v h', S f args h (.ptr v) h' ∧ K v h'
def callA (S : SatT) (f : Nat) (args : List AVal) (h : H) (K : List AVal → H → Prop) : Prop := ∃ v h', S f args h (.agg v) h' ∧ K v h'
def callT (S : SatT) (f : Nat) (args : List AVal) (h : H) (K : List AVal → H → Prop) : Prop := ∃ v h', S f args h (.tuple v) h' ∧ K v h'
def viaF (g : AVal) (args : List AVal) (K : Nat → List AVal → Prop) : Prop := ∃ f cap, g = .func f cap ∧ K f (args ++ cap)
def viaT (v : AVal) (K : List AVal → Prop) : Prop := ∃ vs, v = .tuple vs ∧ K vs
def exI (k : IntKind) (vs : List AVal) (i : Nat) (K : Int → Prop) : Prop := ∃ n, vs[i]? = some (.int k n) ∧ K n
def exB (vs : List AVal) (i : Nat) (K : Bool → Prop) : Prop := ∃ n, vs[i]? = some (.bool n) ∧ K n
def exS (vs : List AVal) (i : Nat) (K : Sl → Prop) : Prop := ∃ n, vs[i]? = some (.sl n) ∧ K n
def exP (vs : List AVal) (i : Nat) (K : Pt → Prop) : Prop := ∃ n, vs[i]? = some (.ptr n) ∧ K n
def exA (vs : List AVal) (i : Nat) (K : List AVal → Prop) : Prop := ∃ n, vs[i]? = some (.agg n) ∧ K n
def exV (vs : List AVal) (i : Nat) (K : AVal → Prop) : Prop := ∃ n, vs[i]? = some n ∧ K n
def cv : Value → AVal
 | .bool b => .bool b
 | .int k n => .int k n
 | .string s => .str s
 | .pointer a => match a with | none => .ptr Pt.nil | some _ => .undef
 | .slice a n c => match a, n, c with | none, 0, 0 => .sl Sl.nil | _, _, _ => .undef
 | .nilFunc => .nilFunc
 | .map r => match r with | none => .map none | some _ => .undef
 | _ => .undef
def ev (fr : Frame) : Operand → AVal
 | .tmp t => fr.getD t .undef
 | .const v => cv v
 | .func f => .func f []
 | .global _ => .undef
def put (fr : Frame) (d : Option Nat) (v : AVal) : Frame := match d with | some d => fr.set d v | none => fr
def AVal.cells : AVal → List AVal
 | .agg cs => cs
 | v => [v]
def ldT (T : Tab) (t : Nat) (p : Pt) (h : H) (K : AVal → Prop) : Prop :=
 match (tget T t).d with
 | .int k => ldI k p h fun n => K (.int k n)
 | .bool => ldB p h fun b => K (.bool b)
 | .sl _ => ldS p h fun s => K (.sl s)
 | .ptr => ldP p h fun q => K (.ptr q)
 | .arr _ _ => ldA p (tget T t).size h fun cs => K (.agg cs)
 | .struct _ => ldA p (tget T t).size h fun cs => K (.agg cs)
 | .str => ldV p h K
 | .func => ldV p h K
 | .map _ _ => ldV p h K
 | _ => False
def isAggT (T : Tab) (t : Nat) : Bool := match (tget T t).d with | .arr _ _ => true | .struct _ => true | _ => false
def stT (T : Tab) (t : Nat) (p : Pt) (v : AVal) (h : H) (K : H → Prop) : Prop :=
 bif isAggT T t then
  match v with
  | .agg cs => stN p (tget T t).size cs h K
  | _ => False
 else bif v.isCell && (tget T t).size == 1 then st1 p v h K else False
def callK (S : SatT) (T : Tab) (t : Nat) (f : Nat) (args : List AVal) (h : H) (K : AVal → H → Prop) : Prop :=
 match (tget T t).d with
 | .int k => callI S k f args h fun n => K (.int k n)
 | .bool => callB S f args h fun b => K (.bool b)
 | .sl _ => callS S f args h fun s => K (.sl s)
 | .ptr => callP S f args h fun q => K (.ptr q)
 | .arr _ _ => callA S f args h fun cs => K (.agg cs)
 | .struct _ => callA S f args h fun cs => K (.agg cs)
 | .tuple _ => callT S f args h fun vs => K (.tuple vs)
 | _ => callV S f args h K
def exT (T : Tab) (t : Nat) (vs : List AVal) (i : Nat) (K : AVal → Prop) : Prop :=
 match (tget T t).d with
 | .int k => exI k vs i fun n => K (.int k n)
 | .bool => exB vs i fun b => K (.bool b)
 | .sl _ => exS vs i fun s => K (.sl s)
 | .ptr => exP vs i fun q => K (.ptr q)
 | .arr _ _ => exA vs i fun cs => K (.agg cs)
 | .struct _ => exA vs i fun cs => K (.agg cs)
 | _ => exV vs i K
def partT (T : Tab) (t : Nat) (cs : List AVal) (i : Int) (K : AVal → Prop) : Prop :=
 match (tget T t).d with
 | .int k => partI k cs i fun n => K (.int k n)
 | .bool => partB cs i fun b => K (.bool b)
 | .sl _ => partS cs i fun s => K (.sl s)
 | .ptr => partP cs i fun q => K (.ptr q)
 | .arr _ _ => partA cs i (tget T t).size fun cs => K (.agg cs)
 | .struct _ => partA cs i (tget T t).size fun cs => K (.agg cs)
 | .str => partV cs i K
 | .func => partV cs i K
 | .map _ _ => partV cs i K
 | _ => False
def spl (Z : List AVal) (off k : Nat) (vs : List AVal) : List AVal := Z.take off ++ vs ++ Z.drop (off + k)
def fillK (T : Tab) (pl : Nat → Option (Nat × Nat)) (n : Nat) : List (Nat × AVal) → List AVal → (List AVal → Prop) → Prop
 | [], Z, K => K Z
 |(i, v) :: ps, Z, K =>
  match pl i with
  | none => False
  | some (off, t) =>
   bif decide (off + (tget T t).size ≤ n) then
    bif isAggT T t then
     match v with
     | .agg cs => lenA cs (tget T t).size (fillK T pl n ps (spl Z off (tget T t).size cs) K)
     | _ => False
    else bif v.isCell && (tget T t).size == 1 then fillK T pl n ps (spl Z off 1 [v]) K else False
   else False
def parts (ps : Array (Nat × Operand)) (fr : Frame) : List (Nat × AVal) := ps.toList.map fun p => (p.1, ev fr p.2)
def binI (op : BinOp) (k : IntKind) (a b : Int) (K : AVal → Prop) : Prop :=
 match op with
 | .add => K (.int k (k.wrap (a + b)))
 | .sub => K (.int k (k.wrap (a - b)))
 | .mul => K (.int k (k.wrap (a * b)))
 | .quo => nz b (K (.int k (k.wrap (a.tdiv b))))
 | .rem => nz b (K (.int k (a.tmod b)))
 | .and => K (.int k (bitsOp .and k a b))
 | .or => K (.int k (bitsOp .or k a b))
 | .xor => K (.int k (bitsOp .xor k a b))
 | .andNot => K (.int k (bitsOp .andNot k a b))
 | .shl => nn b (K (.int k (shlI k a b)))
 | .shr => nn b (K (.int k (shrI k a b)))
 | .eql => K (.bool (a == b))
 | .neq => K (.bool (a != b))
 | .lss => K (.bool (decide (a < b)))
 | .leq => K (.bool (decide (a ≤ b)))
 | .gtr => K (.bool (decide (a > b)))
 | .geq => K (.bool (decide (a ≥ b)))
def sameK (a b : IntKind) : Bool := match a, b with
 | .i8, .i8 => true | .i16, .i16 => true | .i32, .i32 => true | .i64, .i64 => true | .u8, .u8 => true | .u16, .u16 => true | .u32, .u32 => true | .u64, .u64 => true | _, _ => false
def isShift (op : BinOp) : Bool := match op with | .shl => true | .shr => true | _ => false
def intArr (T : Tab) (t : Nat) : Option (IntKind × Nat) :=
 match (tget T t).d with
 | .arr n e => match (tget T e).d with | .int k => bif (tget T e).size == 1 then some (k, n) else none | _ => none
 | _ => none
def isNilS (s : Sl) : Bool := s.o.isNone
def isNilP (s : Pt) : Bool := s.o.isNone
def binK (T : Tab) (op : BinOp) (t : Nat) (x y : AVal) (yc : Bool) (K : AVal → Prop) : Prop :=
 match x, y with
 | .int k a, .int k' b => bif sameK k k' || isShift op then binI op k a b K else False
 | .bool a, .bool b => match (tget T t).d, op with | .bool, .eql => K (.bool (a == b)) | .bool, .neq => K (.bool (a != b)) | _, _ => False
 | .str a, .str b => match op with | .eql => K (.bool (a == b)) | .neq => K (.bool (a != b)) | _ => False
 | .sl a, .sl b => bif yc && b.o.isNone then (match (tget T t).d, op with | .sl _, .eql => K (.bool (isNilS a)) | .sl _, .neq => K (.bool (!isNilS a)) | _, _ => False) else False
 | .ptr a, .ptr b => bif yc && b.o.isNone then (match (tget T t).d, op with | .ptr, .eql => K (.bool (isNilP a)) | .ptr, .neq => K (.bool (!isNilP a)) | _, _ => False) else False
 | .agg a, .agg b => match intArr T t, op with | some (k, n), .eql => eqA k n a b fun r => K (.bool r) | some (k, n), .neq => eqA k n a b fun r => K (.bool (!r)) | _, _ => False
 | _, _ => False
def isStrT (T : Tab) (t : Nat) : Bool := match (tget T t).d with | .str => true | _ => false
def isConst : Operand → Bool | .const _ => true | _ => false
def pickK (c a b : AVal) (K : AVal → Prop) : Prop :=
 match c with
 | .bool c => match a, b with
  | .bool x, .bool y => K (.bool (bif c then x else y))
  | a, b => bif c then K a else K b
 | _ => False
def mxI (a b : Int) : Int := if b > a then b else a
def mnI (a b : Int) : Int := if b < a then b else a
def foldI (f : Int → Int → Int) (k : IntKind) (a : Int) : List AVal → (AVal → Prop) → Prop
 | [], K => K (.int k a)
 | .int k' b :: l, K => bif sameK k' k then foldI f k (f a b) l K else False
 | _, _ => False
def keyK (T : Tab) (t : Nat) (k : AVal) (K : AVal → Prop) : Prop :=
 match (tget T t).d with
 | .int _ => match k with | .int j n => K (.int j n) | _ => False
 | .arr n e => match (tget T e).d with
  | .int .i64 => bif (tget T e).size == 1 then (match k with | .agg cs => keyA n cs (K (.agg cs)) | _ => False) else False
  | _ => False
 | _ => False
def opK (S : SatT) (T : Tab) (o : Oper) (fr : Frame) (h : H) (K : AVal → H → Prop) : Prop :=
 match o.op with
 | .move x => K (ev fr x) h
 | .assign x => K (ev fr x) h
 | .pick c a b => pickK (ev fr c) (ev fr a) (ev fr b) fun v => K v h
 | .alloc t => bif decide (0 < (tget T t).size) then newO (tget T t).zero h fun p h => K (.ptr p) h else False
 | .box t x =>
  bif isAggT T t then
   match ev fr x with
   | .agg cs => newK (tget T t).size cs h fun p h => K (.ptr p) h
   | _ => False
  else bif (ev fr x).isCell && (tget T t).size == 1 then newO [ev fr x] h fun p h => K (.ptr p) h else False
 | .build t ps =>
  match (tget T t).d with
  | .struct fs => fillK T (fun i => fs[i]?) (tget T t).size (parts ps fr) (tget T t).zero fun cs => K (.agg cs) h
  | .arr _ e => bif decide (0 < (tget T e).size) then fillK T (fun i => some (i * (tget T e).size, e)) (tget T t).size (parts ps fr) (tget T t).zero fun cs => K (.agg cs) h else False
  | _ => False
 | .buildSlice t n ps =>
  match (tget T t).d with
  | .sl e => bif decide (0 < (tget T e).size) && decide (n * (tget T e).size ≤ 10000) then fillK T (fun i => some (i * (tget T e).size, e)) (n * (tget T e).size) (parts ps fr) (List.replicate n (tget T e).zero).flatten fun cs => newS n (tget T e).size cs h fun s h => K (.sl s) h else False
  | _ => False
 | .load t a => match ev fr a with
  | .ptr p => ldT T t p h fun v => K v h
  | _ => False
 | .store t a x => match ev fr a with
  | .ptr p => stT T t p (ev fr x) h fun h => K .gone h
  | _ => False
 | .nilCheck x => nilC (ev fr x) (K (ev fr x) h)
 | .binOp op t x y _ => bif isStrT T t then binStr op (ev fr x) (ev fr y) fun v => K v h else binK T op t (ev fr x) (ev fr y) (isConst y) fun v => K v h
 | .unOp op _ x => match op, ev fr x with
  | .not, .bool b => K (.bool (!b)) h
  | .neg, .int k n => K (.int k (k.wrap (0 - n))) h
  | _, _ => False
 | .convert s d x => match (tget T s).d, (tget T d).d, ev fr x with
  | .int _, .int k, .int _ n => K (.int k (k.wrap n)) h
  | _, _, _ => False
 | .makeFunc fn first cap => match fn with
  | .func f => bif first.isEmpty then K (.func f (cap.toList.map (ev fr))) h else False
  | _ => False
 | .makeSlice t n c => match (tget T t).d, ev fr n, ev fr c with
  | .sl e, .int k a, .int k' b => bif decide ((tget T e).bytes ≤ 256) && decide (0 < (tget T e).size) && (match n, c with | .tmp i, .tmp j => i == j | .const (.int _ i), .const (.int _ j) => i == j | _, _ => false) then mkS a (tget T e).zero h fun s h => K (.sl s) h else False
  | _, _, _ => False
 | .slice t x lo hi mx => match (tget T t).d, ev fr x, mx with
  | .sl e, .sl s, none => match (lo.map (ev fr)).getD (i64 0), (hi.map (ev fr)).getD (i64 s.len) with
   | .int _ a, .int _ b => bif decide (0 < (tget T e).size) then cut s (tget T e).size a b h fun s => K (.sl s) h else False
   | _, _ => False
  | .arr n e, .ptr p, none => match (lo.map (ev fr)).getD (i64 0), (hi.map (ev fr)).getD (i64 n) with
   | .int _ a, .int _ b => bif decide (0 < (tget T e).size) then cutA p n (tget T e).size a b fun s => K (.sl s) h else False
   | _, _ => False
  | .str, v, none => viaStr v fun s => match (lo.map (ev fr)).getD (i64 0), (hi.map (ev fr)).getD (i64 s.size) with
   | .int _ a, .int _ b => cutStr s a b fun s => K (.str s) h
   | _, _ => False
  | _, _, _ => False
 | .fieldAddr t x f => match (tget T t).d, ev fr x with
  | .struct fs, .ptr p => match fs[f]? with
   | some (off, _) => isPt p (K (.ptr (p.add off)) h)
   | none => False
  | _, _ => False
 | .field t x f => match (tget T t).d, ev fr x with
  | .struct fs, .agg cs => match fs[f]? with
   | some (off, u) => partT T u cs (off : Nat) fun v => K v h
   | none => False
  | _, _ => False
 | .indexAddr t x i => match (tget T t).d, ev fr x, ev fr i with
  | .sl e, .sl s, .int _ n => ixS s (tget T e).size n fun p => K (.ptr p) h
  | .arr len e, .ptr p, .int _ n => bif decide (0 < (tget T e).size) then ixA p len (tget T e).size n (fun p => K (.ptr p) h) else False
  | _, _, _ => False
 | .index t x i => match (tget T t).d, ev fr x, ev fr i with
  | .arr len e, .agg cs, .int _ n => bif (tget T e).size == 1 then lenA cs len (partT T e cs n fun v => K v h) else False
  | .str, v, .int _ n => viaStr v fun s => ixStr s n fun b => K (.int .u8 b) h
  | _, _, _ => False
 | .extract x i => viaT (ev fr x) fun vs => exT T o.type vs i fun v => K v h
 | .makeMap t hint => match (tget T t).d, hint with
  | .map _ _, none => newM h K
  | _, _ => False
 | .mapUpdate t m k x => match (tget T t).d with
  | .map kt _ => keyK T kt (ev fr k) fun key => mput (ev fr m) key (ev fr x) h fun h => K .gone h
  | _ => False
 | .lookup t m k ok => match (tget T t).d, ok with
  | .map kt e, false => keyK T kt (ev fr k) fun key => match (tget T e).d with
   | .int j => mgetI j (ev fr m) key h fun n => K (.int j n) h
   | .bool => mgetB (ev fr m) key h fun b => K (.bool b) h
   | _ => False
  | _, _ => False
 | .call c => match c.callee with
  | .value (.func g) => callK S T o.type g (c.args.toList.map (ev fr)) h K
  | .value f => viaF (ev fr f) (c.args.toList.map (ev fr)) fun f args => callK S T o.type f args h K
  | .builtin .len => match (c.argTypes.toList.map (tget T · |>.d)) with
   | [.sl _] => match (c.args.toList.map (ev fr)) with | [.sl s] => K (.int .i64 s.len) h | _ => False
   | [.arr n _] => match (c.args.toList.map (ev fr)) with | [_] => K (.int .i64 n) h | _ => False
   | [.map _ _] => match (c.args.toList.map (ev fr)) with | [m] => mlen m h fun n => K (.int .i64 n) h | _ => False
   | [.str] => match (c.args.toList.map (ev fr)) with | [v] => viaStr v fun s => K (.int .i64 s.size) h | _ => False
   | _ => False
  | .builtin .append => match (c.args.toList.map (ev fr)), (c.argTypes.toList.map (tget T · |>.d)) with
   | [.sl s, .sl x], [.sl e, .sl _] => bif decide ((tget T e).bytes ≤ 256) && decide (0 < (tget T e).size) && decide (0 < (tget T e).bytes) then app s x (tget T e).size h fun s h => K (.sl s) h else False
   | _, _ => False
  | .builtin .copy => match (c.args.toList.map (ev fr)), (c.argTypes.toList.map (tget T · |>.d)) with
   | [.sl s, .sl x], [.sl e, .sl _] => bif decide (0 < (tget T e).size) then copyS s x (tget T e).size h fun n h => K (.int .i64 n) h else False
   | _, _ => False
  | .builtin .clear => match (c.args.toList.map (ev fr)), (c.argTypes.toList.map (tget T · |>.d)) with
   | [.sl s], [.sl e] => bif decide (0 < (tget T e).size) then clearS s (tget T e).zero h fun h => K .gone h else False
   | _, _ => False
  | .builtin .max => match (c.args.toList.map (ev fr)) with
   | .int k a :: l => foldI mxI k a l fun v => K v h
   | _ => False
  | .builtin .min => match (c.args.toList.map (ev fr)) with
   | .int k a :: l => foldI mnI k a l fun v => K v h
   | _ => False
  | _ => False
 | _ => False
def dstOf (ops : List Oper) (j : Nat) : Option Nat := (ops[j]?).bind (·.dst)
def runOps (S : SatT) (T : Tab) (ops : List Oper) : List Oper → (Frame → H → Prop) → Frame → H → Prop
 | [], k, fr, h => k fr h
 | o :: os, k, fr, h =>
  match o.guard with
  | none => opK S T o fr h fun v h => runOps S T ops os k (put fr o.dst v) h
  | some (j, want) =>
   match dstOf ops j with
   | none => False
   | some d => match fr.getD d .undef with
    | .bool b => bif b
     then (bif want then opK S T o (fr.set d (.bool true)) h fun v h => runOps S T ops os k (put (fr.set d (.bool true)) o.dst v) h else runOps S T ops os k (put (fr.set d (.bool true)) o.dst .gone) h)
     else (bif want then runOps S T ops os k (put (fr.set d (.bool false)) o.dst .gone) h else opK S T o (fr.set d (.bool false)) h fun v h => runOps S T ops os k (put (fr.set d (.bool false)) o.dst v) h)
    | .gone => runOps S T ops os k (put fr o.dst .gone) h
    | _ => False
def isMut : Op → Bool
 | .alloc _ => true | .box _ _ => true | .buildSlice _ _ _ => true | .makeSlice _ _ _ => true | .store _ _ _ => true
 | .makeMap _ _ => true | .mapUpdate _ _ _ _ => true
 | .call c => match c.callee with
  | .builtin .len => false | .builtin .min => false | .builtin .max => false | _ => true
 | _ => false
def isRead : Op → Bool
 | .load _ _ => true
 | .slice _ _ _ _ _ => true
 | .lookup _ _ _ _ => true
 | .call c => match c.callee with | .builtin .len => true | _ => false
 | _ => false
def chkK (T : Tab) (o : Oper) (fr : Frame) (h h' : H) (K : Prop) : Prop :=
 match o.op with
 | .load t a => match ev fr a with
  | .ptr p => bif isAggT T t then range h' p.o p.n p.off (tget T t).size = range h p.o p.n p.off (tget T t).size ∧ K else cell h' p = cell h p ∧ K
  | _ => K
 | .slice t x _ _ _ => match (tget T t).d, ev fr x with
  | .sl _, .sl s => okS h' s ∧ K
  | _, _ => K
 | .lookup _ m _ _ => sameM (ev fr m) h h' ∧ K
 | .call c => match c.callee with
  | .builtin .len => match (c.argTypes.toList.map (tget T · |>.d)) with
   | [.map _ _] => match (c.args.toList.map (ev fr)) with | [m] => sameM m h h' ∧ K | _ => K
   | _ => K
  | _ => K
 | _ => K
def deps (o : Oper) : List Nat := (o.after.toList.filter (Region.binds .any)).map (·.on)
def befs : List Oper → List Nat → List Nat
 | [], acc => acc
 | o :: os, acc => befs os (acc ++ [(deps o).foldl (fun s j => s ||| 2 ^ j ||| acc.getD j 0) 0])
def bef (b : List Nat) (j i : Nat) : Bool := (b.getD j 0).testBit i
def unord (b : List Nat) (i j : Nat) : Bool := !bef b i j && !bef b j i
def tmpsOf (l : List Operand) : List Nat := l.filterMap fun | .tmp t => some t | _ => none
def readsOf (ops : List Oper) (o : Oper) : List Nat := tmpsOf o.op.operands.toList ++ (match o.guard with | some (j, _) => (dstOf ops j).toList | none => [])
def pairOK (ops : List Oper) (b : List Nat) (i j : Nat) (x y : Oper) : Bool :=
 bef b j i || (!(isMut x.op && isMut y.op) && (match x.dst with | some d => !(readsOf ops y).contains d | none => true) && (match y.dst with | some d => !(readsOf ops x).contains d | none => true))
def dstApart (x y : Oper) : Bool := match x.dst, y.dst with | some d, some e => !(d == e) | _, _ => true
def okPairs (ops : List Oper) (b : List Nat) : List (Oper × Nat) → Bool
 | [] => true
 |(x, i) :: l => (l.all fun p => pairOK ops b i p.2 x p.1 && dstApart x p.1) && okPairs ops b l
def okD (ops : List Oper) (b : List Nat) : Bool := (ops.zipIdx.all fun p => (deps p.1).all fun j => decide (j < p.2)) && okPairs ops b ops.zipIdx
def chkPast (T : Tab) (b : List Nat) (i : Nat) (o : Oper) (fr : Frame) (h : H) : List (Nat × H) → Prop → Prop
 | [], K => K
 |(k, h0) :: l, K => bif unord b i k then chkK T o fr h h0 (chkPast T b i o fr h l K) else chkPast T b i o fr h l K
def chkPend (T : Tab) (b : List Nat) (k : Nat) (h' : H) : List (Nat × Oper × Frame × H) → Prop → Prop
 | [], K => K
 |(i, o, fr, h) :: l, K => bif unord b i k then chkK T o fr h h' (chkPend T b k h' l K) else chkPend T b k h' l K
def stepDraw (S : SatT) (T : Tab) (b : List Nat) (i : Nat) (o : Oper) (past : List (Nat × H)) (pend : List (Nat × Oper × Frame × H)) (fr : Frame) (h : H)
  (K : List (Nat × H) → List (Nat × Oper × Frame × H) → AVal → H → Prop) : Prop :=
 bif isMut o.op then opK S T o fr h fun v h' => chkPend T b i h' pend (K ((i, h) :: past) pend v h')
 else bif isRead o.op then opK S T o fr h fun v h' => chkPast T b i o fr h past (K past ((i, o, fr, h) :: pend) v h')
 else opK S T o fr h fun v h' => K past pend v h'
def runDraw (S : SatT) (T : Tab) (ops : List Oper) (b : List Nat) : List (Oper × Nat) → List (Nat × H) → List (Nat × Oper × Frame × H) → (Frame → H → Prop) → Frame → H → Prop
 | [], _, _, k, fr, h => k fr h
 |(o, i) :: os, past, pend, k, fr, h =>
  match o.guard with
  | none => stepDraw S T b i o past pend fr h fun past pend v h => runDraw S T ops b os past pend k (put fr o.dst v) h
  | some (j, want) =>
   match dstOf ops j with
   | none => False
   | some d => match fr.getD d .undef with
    | .bool c => bif c
     then (bif want then stepDraw S T b i o past pend (fr.set d (.bool true)) h fun past pend v h => runDraw S T ops b os past pend k (put (fr.set d (.bool true)) o.dst v) h else runDraw S T ops b os past pend k (put (fr.set d (.bool true)) o.dst .gone) h)
     else (bif want then runDraw S T ops b os past pend k (put (fr.set d (.bool false)) o.dst .gone) h else stepDraw S T b i o past pend (fr.set d (.bool false)) h fun past pend v h => runDraw S T ops b os past pend k (put (fr.set d (.bool false)) o.dst v) h)
    | .gone => runDraw S T ops b os past pend k (put fr o.dst .gone) h
    | _ => False
def isAlloc : Op → Bool
 | .alloc _ => true | .box _ _ => true | .buildSlice _ _ _ => true | .makeSlice _ _ _ => true
 | _ => false
def AVal.at_ (n : Nat) : AVal → AVal
 | .ptr p => .ptr ⟨some n, p.n, p.off⟩
 | .sl s => .sl ⟨some n, s.n, s.off, s.len, s.sz⟩
 | v => v
def opA (S : SatT) (T : Tab) (o : Oper) (fr : Frame) (h : H) (n : Nat) (K : AVal → H → Prop) : Prop :=
 opK S T o fr [] fun v h1 => match h1 with
  | [x] => K (v.at_ n) (h.set n x)
  | _ => False
def lateGo (ops : List Oper) : Nat → List Nat → List (Oper × Nat)
 | 0, _ => []
 | fuel + 1, dn =>
  match ops.zipIdx.find? (fun p => !dn.contains p.2 && (deps p.1).all dn.contains && !isAlloc p.1.op) with
  | some p => p :: lateGo ops fuel (p.2 :: dn)
  | none => match ops.zipIdx.find? (fun p => !dn.contains p.2 && (deps p.1).all dn.contains) with
   | some p => p :: lateGo ops fuel (p.2 :: dn)
   | none => []
def late (ops : List Oper) : List (Oper × Nat) := lateGo ops ops.length []
def late2Go (ops : List Oper) (b : List Nat) : Nat → List Nat → List (Oper × Nat)
 | 0, _ => []
 | fuel + 1, dn =>
  match ops.zipIdx.find? (fun p => !dn.contains p.2 && (deps p.1).all dn.contains && !isAlloc p.1.op) with
  | some p => p :: late2Go ops b fuel (p.2 :: dn)
  | none => match ops.zipIdx.find? (fun p => !dn.contains p.2 && !isAlloc p.1.op) with
   | some q => (match ops.zipIdx.find? (fun p => !dn.contains p.2 && (deps p.1).all dn.contains && bef b q.2 p.2) with
    | some p => p :: late2Go ops b fuel (p.2 :: dn)
    | none => [])
   | none => match ops.zipIdx.find? (fun p => !dn.contains p.2 && (deps p.1).all dn.contains) with
    | some p => p :: late2Go ops b fuel (p.2 :: dn)
    | none => []
def late2 (ops : List Oper) (b : List Nat) : List (Oper × Nat) := late2Go ops b ops.length []
def pairE (ops : List Oper) (b : List Nat) (x y : Oper × Nat) : Bool :=
 !(x.2 == y.2) && !bef b x.2 y.2 && dstApart x.1 y.1 &&
 (bef b y.2 x.2 || ((!(isMut x.1.op && isMut y.1.op) || isAlloc y.1.op) && (match x.1.dst with | some d => !(readsOf ops y.1).contains d | none => true) && (match y.1.dst with | some d => !(readsOf ops x.1).contains d | none => true)))
def okPairsE (ops : List Oper) (b : List Nat) : List (Oper × Nat) → Bool
 | [] => true
 | p :: l => (l.all fun q => pairE ops b p q) && okPairsE ops b l
def okE (ops : List Oper) (b : List Nat) (l : List (Oper × Nat)) : Bool :=
 (ops.zipIdx.all fun p => (deps p.1).all fun j => decide (j < p.2)) && (l.length == ops.length) && ((List.range ops.length).all fun i => l.any fun p => p.2 == i) && okPairsE ops b l
def lastDep (b : List Nat) (past : List (Nat × H)) (i : Nat) : Bool := match past with | (z, _) :: _ => bef b z i | [] => false
def chkPendE (T : Tab) (b : List Nat) (k : Nat) (past : List (Nat × H)) (h' : H) : List (Nat × Oper × Frame × H) → Prop → Prop
 | [], K => K
 |(i, o, fr, h) :: l, K => bif unord b i k && lastDep b past i then chkK T o fr h h' (chkPendE T b k past h' l K) else chkPendE T b k past h' l K
def chkPastE (T : Tab) (b : List Nat) (i : Nat) (o : Oper) (fr : Frame) (h : H) : Option H → List (Nat × H) → Prop → Prop
 | _, [], K => K
 | nx, (k, h0) :: l, K => bif unord b i k then (match nx with
   | some h1 => chkK T o fr h h1 (chkK T o fr h h0 (chkPastE T b i o fr h none l K))
   | none => chkK T o fr h h0 (chkPastE T b i o fr h none l K))
  else chkPastE T b i o fr h (some h0) l K
def stepSlot (S : SatT) (T : Tab) (b : List Nat) (n i : Nat) (o : Oper) (past : List (Nat × H)) (pend : List (Nat × Oper × Frame × H)) (fr : Frame) (h : H)
  (K : List (Nat × H) → List (Nat × Oper × Frame × H) → AVal → H → Prop) : Prop :=
 bif isAlloc o.op then opA S T o fr h (n + i) fun v h' => chkPendE T b i past h pend (chkPend T b i h' pend (K ((i, h) :: past) pend v h'))
 else bif isMut o.op then opK S T o fr h fun v h' => chkPendE T b i past h pend (chkPend T b i h' pend (K ((i, h) :: past) pend v h'))
 else bif isRead o.op then opK S T o fr h fun v h' => chkPastE T b i o fr h none past (K past ((i, o, fr, h) :: pend) v h')
 else opK S T o fr h fun v h' => K past pend v h'
def runSlot (S : SatT) (T : Tab) (ops : List Oper) (b : List Nat) (n : Nat) : List (Oper × Nat) → List (Nat × H) → List (Nat × Oper × Frame × H) → (Frame → H → Prop) → Frame → H → Prop
 | [], _, _, k, fr, h => k fr h
 |(o, i) :: os, past, pend, k, fr, h =>
  match o.guard with
  | none => stepSlot S T b n i o past pend fr h fun past pend v h => runSlot S T ops b n os past pend k (put fr o.dst v) h
  | some (j, want) =>
   match dstOf ops j with
   | none => False
   | some d => match fr.getD d .undef with
    | .bool c => bif c
     then (bif want then stepSlot S T b n i o past pend (fr.set d (.bool true)) h fun past pend v h => runSlot S T ops b n os past pend k (put (fr.set d (.bool true)) o.dst v) h else runSlot S T ops b n os past pend k (put (fr.set d (.bool true)) o.dst .gone) h)
     else (bif want then runSlot S T ops b n os past pend k (put (fr.set d (.bool false)) o.dst .gone) h else stepSlot S T b n i o past pend (fr.set d (.bool false)) h fun past pend v h => runSlot S T ops b n os past pend k (put (fr.set d (.bool false)) o.dst v) h)
    | .gone => runSlot S T ops b n os past pend k (put fr o.dst .gone) h
    | _ => False
def newSat (len sz : Nat) (cs : List AVal) (h : H) (n : Nat) (K : Sl → H → Prop) : Prop := K ⟨some n, len * sz, 0, len, sz⟩ (h.set n (.own cs))
def mkSat (m : Int) (z : List AVal) (h : H) (n : Nat) (K : Sl → H → Prop) : Prop :=
 (0 ≤ m ∧ m ≤ lim) ∧ K ⟨some n, m.toNat * z.length, 0, m.toNat, z.length⟩ (h.set n (.own (List.replicate m.toNat z).flatten))
def slotK (k : Nat) (h : H) (K : H → Prop) : Prop := K (h ++ List.replicate k .dead)
def drawK (S : SatT) (T : Tab) (ops : List Oper) (k : Frame → H → Prop) (fr : Frame) (h : H) : Prop :=
 bif okD ops (befs ops []) then runDraw S T ops (befs ops []) ops.zipIdx [] [] k fr h
 else bif okE ops (befs ops []) (late ops) then slotK ops.length h fun h1 => runSlot S T ops (befs ops []) h.length (late ops) [] [] k fr h1
 else bif okE ops (befs ops []) (late2 ops (befs ops [])) then slotK ops.length h fun h1 => runSlot S T ops (befs ops []) h.length (late2 ops (befs ops [])) [] [] k fr h1 else False
def befsChk (b : List Nat) : List Oper → Nat → Bool
 | [], i => b.length == i
 | o :: os, i => (b.getD i 0 == (deps o).foldl (fun s j => s ||| 2 ^ j ||| (bif decide (j < i) then b.getD j 0 else 0)) 0) && befsChk b os (i + 1)
theorem befsChk_len (b : List Nat) : ∀ (os : List Oper) (i : Nat), befsChk b os i = true → b.length = i + os.length
 | [], i, h => by simpa [befsChk] using h
 | o :: os, i, h => by
  unfold befsChk at h
  rw [Bool.and_eq_true] at h
  have := befsChk_len b os (i + 1) h.2
  simp only [List.length_cons]; omega
theorem befsChk_ok (b : List Nat) : ∀ (os : List Oper) (i : Nat), befsChk b os i = true → befs os (b.take i) = b
 | [], i, h => by
  have := befsChk_len b [] i h
  unfold befs
  exact List.take_of_length_le (by simp at this; omega)
 | o :: os, i, h => by
  have hl := befsChk_len b (o :: os) i h
  unfold befsChk at h
  rw [Bool.and_eq_true] at h
  have hi : i < b.length := by simp only [List.length_cons] at hl; omega
  have e := eq_of_beq h.1
  have e2 : b.getD i 0 = b[i] := by simp [List.getD_eq_getElem?_getD, hi]
  rw [e2] at e
  have f : (fun (s j : Nat) => s ||| 2 ^ j ||| (b.take i).getD j 0) = fun s j => s ||| 2 ^ j ||| (bif decide (j < i) then b.getD j 0 else 0) := by
   funext s j
   congr 1
   by_cases hj : j < i
   ·simp [List.getD_eq_getElem?_getD, hj]
   ·simp [List.getD_eq_getElem?_getD, List.getElem?_take, hj]
  have key : b.take i ++ [(deps o).foldl (fun s j => s ||| 2 ^ j ||| (b.take i).getD j 0) 0] = b.take (i + 1) := by
   rw [f, ← e, List.take_add_one, List.getElem?_eq_getElem hi]; rfl
  unfold befs
  rw [key]
  exact befsChk_ok b os (i + 1) h.2
def drawH (S : SatT) (T : Tab) (b : List Nat) (ops : List Oper) (k : Frame → H → Prop) (fr : Frame) (h : H) : Prop :=
 bif b.length == ops.length && befsChk b ops 0 then
  bif okD ops b then runDraw S T ops b ops.zipIdx [] [] k fr h
  else bif okE ops b (late ops) then slotK ops.length h fun h1 => runSlot S T ops b h.length (late ops) [] [] k fr h1
  else bif okE ops b (late2 ops b) then slotK ops.length h fun h1 => runSlot S T ops b h.length (late2 ops b) [] [] k fr h1 else False
 else drawK S T ops k fr h
theorem drawH_eq (S : SatT) (T : Tab) (b : List Nat) (ops : List Oper) (k : Frame → H → Prop) (fr : Frame) (h : H) : drawH S T b ops k fr h = drawK S T ops k fr h := by
 unfold drawH
 cases e : (b.length == ops.length && befsChk b ops 0) with
 | false => rfl
 | true =>
  have : befs ops [] = b := befsChk_ok b ops 0 (by rw [Bool.and_eq_true] at e; exact e.2)
  simp only [cond_true]
  unfold drawK
  rw [this]
inductive Ex where
 | normal | exit (id : Nat) | ret
abbrev Kont := Ex → Frame → H → Prop
def kSeq (n : Frame → H → Prop) (k : Kont) : Kont := fun e fr h => match e with | .normal => n fr h | .exit i => k (.exit i) fr h | .ret => k .ret fr h
def kBlk (id : Nat) (k : Kont) : Kont := fun e fr h => match e with | .exit j => bif j == id then k .normal fr h else k (.exit j) fr h | .normal => k .normal fr h | .ret => k .ret fr h
def mask (m : List Nat) (fr : Frame) : Frame := (fr.zipIdx).map fun (v, i) => bif m.contains i then v else .undef
def maskR (m : List Nat) (fr : Frame) : Frame := match m with | [] => fr | a :: l => mask (a :: l) fr
def iter {α : Type} (F : (α → H → Prop) → α → H → Prop) : Nat → α → H → Prop
 | 0, _, _ => False
 | n + 1, fr, h => F (iter F n) fr h
def loopK (F : (Frame → H → Prop) → Frame → H → Prop) (fr : Frame) (h : H) : Prop := ∃ n, iter F n fr h
structure RngP where
 x : Operand
 d0 : Nat
 ty : Nat
 d1 : Nat
 d2 : Nat
 d3 : Nat
 d4 : Nat
 d5 : Nat
 d6 : Nat
 bid : Nat
 ops : Array Oper
 mm : List Nat
def isRange : Op → Bool | .range _ _ => true | _ => false
def isRng : Code → Bool
 | .region _ ops false => match ops.toList with | [_, o] => isRange o.op | _ => false
 | _ => false
def regId : Code → Nat | .region id _ _ => id | _ => 0
def plainO (o : Oper) : Option (Op × Nat) := match o.guard, o.dst with | none, some d => some (o.op, d) | _, _ => none
def RngOK (T : Tab) (p : RngP) (a b : Code) : Prop :=
 (match (tget T p.ty).d with | .map _ _ => True | _ => False) ∧ [p.d0, p.d1, p.d2, p.d3, p.d4, p.d5, p.d6].Nodup ∧
 ∃ i1 i2 i3 i4 ib o1 o2 o3, a = .region i1 o1 false ∧
  b = .block p.bid (.loop (.seq (.region i2 o2 false) (.seq (.cond (.tmp p.d3) .skip (.exit p.bid)) (.block ib (.seq (.region i3 o3 false) (.region i4 p.ops false)))))) ∧
  o1.toList.map plainO = [some (.move p.x, p.d0), some (.range p.ty (.tmp p.d0), p.d1)] ∧
  o2.toList.map plainO = [some (.next (.tmp p.d1) false, p.d2), some (.extract (.tmp p.d2) 0, p.d3)] ∧
  o3.toList.map plainO = [some (.entry (.tmp p.d1), p.d4), some (.extract (.tmp p.d4) 1, p.d5), some (.assign (.tmp p.d5), p.d6)] ∧
  (∀ o ∈ p.ops.toList, ∀ d ∈ [p.d0, p.d1, p.d2, p.d3, p.d4, p.d5, p.d6], o.dst ≠ some d)
def clr (l : List Nat) (fr : Frame) : Frame := l.foldl (fun fr d => fr.set d .undef) fr
def rngGo (S : SatT) (T : Tab) (p : RngP) (es : List (AVal × AVal)) (F : Frame → Prop) (h : H) : Nat → List Nat → Frame → Prop
 | 0, _, _ => False
 | n + 1, seen, fr => ((∀ i, i < es.length → i ∈ seen) → F (clr [p.d2, p.d3] (mask p.mm fr))) ∧
  ∀ i k v, es[i]? = some (k, v) → i ∉ seen → runOps S T p.ops.toList p.ops.toList (fun fr h' => h' = h ∧ rngGo S T p es F h n (i :: seen) fr) ((clr [p.d2, p.d3, p.d4, p.d5] (mask p.mm fr)).set p.d6 v) h
def rangeK (S : SatT) (T : Tab) (L : List Nat) (a b : Code) (K : Int → H → Prop) (fr : Frame) (h : H) : Prop :=
 ∃ p r es n, RngOK T p a b ∧ (∀ d ∈ [p.d0, p.d1, p.d2, p.d3, p.d4, p.d5, p.d6], d < fr.length) ∧ ev fr p.x = .map (some r) ∧ h[r]? = some (.mp es) ∧
  (∃ N, rngGo S T p es (fun fr2 => mask L.tail fr2 = mask L.tail (fr.set (L.headD 0) (.int .i64 n))) h N [] (clr [p.d0, p.d1] fr)) ∧ K n h
section
variable (S : SatT) (T : Tab) (M : Nat → List Nat)
def cwp : List Nat → Code → Kont → Frame → H → Prop
 | _, .skip, k, fr, h => k .normal fr h
 | _, .region id ops d, k, fr, h => bif d then drawH S T (M (2000 + id)) ops.toList (fun fr h => k .normal (maskR (M (1000 + id)) fr) h) fr h else runOps S T ops.toList ops.toList (fun fr h => k .normal (maskR (M (1000 + id)) fr) h) fr h
 | m, .seq a b, k, fr, h => bif isRng a then rangeK S T (M (3000 + regId a)) a b (fun n h => k .normal (mask (M (3000 + regId a)).tail ((mask (M (4000 + regId a)) fr).set ((M (3000 + regId a)).headD 0) (.int .i64 n))) h) (mask (M (4000 + regId a)) fr) h else cwp m a (kSeq (cwp m b k) k) fr h
 | m, .cond c a b, k, fr, h => match ev fr c with
  | .bool t => bif t then cwp m a k fr h else cwp m b k fr h
  | _ => False
 | _, .block id a, k, fr, h => cwp (M id) a (kBlk id k) fr h
 | m, .loop a, k, fr, h => loopK (fun X fr h => cwp m a (kSeq (fun fr h => X (mask m fr) h) k) fr h) (mask m fr) h
 | _, .exit id, k, fr, h => k (.exit id) fr h
 | _, .ret, k, fr, h => k .ret fr h
 | _, _, _, _, _ => False
end
def resK (T : Tab) (rs : List ResultVar) (fr : Frame) (h : H) (K : List AVal → Prop) : Prop :=
 match rs with
 | [] => K []
 | .tmp t :: l => resK T l fr h fun vs => K (fr.getD t .undef :: vs)
 | .cell a t :: l => match fr.getD a .undef with
  | .ptr p => ldT T t p h fun v => resK T l fr h fun vs => K (v :: vs)
  | _ => False
def one : List AVal → AVal
 | [v] => v
 | vs => .tuple vs
def kFun (T : Tab) (rs : List ResultVar) (K : AVal → H → Prop) : Kont := fun e fr h =>
 match e with
 | .normal => resK T rs fr h fun vs => K (one vs) h
 | .ret => resK T rs fr h fun vs => K (one vs) h
 | .exit _ => False
def fr0 (fn : Func) (args : List AVal) : Frame := args ++ List.replicate (fn.ntmps - args.length) .gone
def sub : List Nat → Code → Code
 | 0 :: p, .seq a _ => sub p a
 | 1 :: p, .seq _ b => sub p b
 | 0 :: p, .cond _ a _ => sub p a
 | 1 :: p, .cond _ _ b => sub p b
 | _ :: p, .block _ b => sub p b
 | _ :: p, .loop b => sub p b
 | _, c => c
def bodyOf (fn : Func) : Code := fn.body.getD .skip
end Go.Proofs.Ytcoampecbpiecaa.Cl
set_option linter.unusedVariables false
set_option linter.unusedSimpArgs false
namespace Go.Proofs.Ytcoampecbpiecaa.Cl
open Go
structure Loc where
 b : Nat
 off : Nat
 size : Nat
abbrev Mu := Nat → Loc
def place (l : Loc) (i : Nat) : Addr := ⟨l.b, l.off + i, none⟩
def inf (h : H) (o : Nat) : Option (Nat × Nat) :=
 match h[o]? with
 | some (.own cs) => some (0, cs.length)
 | some (.ro cs) => some (1, cs.length)
 | some (.mp _) => some (2, 0)
 | some (.lost n) => some (3, n)
 | _ => none
def PR (μ : Mu) (h : H) (p : Pt) (v : Value) : Prop :=
 match p.o with
 | none => v = .pointer none
 | some o => (inf h o).isSome = true ∧ ∃ a, v = .pointer (some a) ∧ ∀ t m, inf h o = some (t, m) → p.n ≤ m ∧ (m = p.n → a = place (μ o) p.off)
def SR (μ : Mu) (h : H) (s : Sl) (v : Value) : Prop :=
 match s.o with
 | none => s.len = 0 ∧ v = .slice none 0 0
 | some o => (inf h o).isSome = true ∧ 0 < s.sz ∧ ∃ a cap, v = .slice (some a) s.len cap ∧ s.len ≤ cap ∧ ∀ t m, inf h o = some (t, m) → s.n ≤ m ∧ (m = s.n →
   s.n ≤ s.off + cap * s.sz ∧ s.off + s.len * s.sz ≤ s.n ∧ ((s.n = 0 ∧ t = 1) ∨ cap = 0 ∨ a = place (μ o) s.off) ∧ (t = 0 → (μ o).off + s.off + cap * s.sz ≤ (μ o).size))
def MR (μ : Mu) (h : H) (r : Option Nat) (v : Value) : Prop :=
 match r with
 | none => v = .map none
 | some o => (inf h o).isSome = true ∧ ∃ q, v = .map (some q) ∧ ∀ m, inf h o = some (2, m) → q = (μ o).b
mutual
def VR (μ : Mu) (h : H) : AVal → Value → Prop
 | .undef, _ => True
 | .gone, v => v = .tuple #[]
 | .bool b, v => v = .bool b
 | .int k n, v => v = .int k n
 | .str s, v => v = .string s
 | .ptr p, v => PR μ h p v
 | .sl s, v => SR μ h s v
 | .func f cap, v => ∃ ds : Array Value, v = .func (.func f) #[] ds ∧ VRs μ h cap ds.toList
 | .nilFunc, v => v = .nilFunc
 | .map r, v => MR μ h r v
 | .agg cs, v => ∃ ds : Array Value, v = .agg ds ∧ VRs μ h cs ds.toList ∧ cs.all AVal.isCell = true
 | .tuple vs, v => ∃ ds : Array Value, v = .tuple ds ∧ VRs μ h vs ds.toList
def VRs (μ : Mu) (h : H) : List AVal → List Value → Prop
 | [], ds => ds = []
 | c :: cs, ds => ∃ d ds', ds = d :: ds' ∧ VR μ h c d ∧ VRs μ h cs ds'
end
theorem VRs.len {μ h} : ∀ {cs ds}, VRs μ h cs ds → ds.length = cs.length
 | [], ds, H => by simp only [VRs] at H; simp [H]
 | c :: cs, ds, H => by
  simp only [VRs] at H
  obtain ⟨d, ds', rfl, _, H⟩ := H
  simp [VRs.len H]
theorem VRs.get {μ h} : ∀ {cs ds}, VRs μ h cs ds → ∀ {i : Nat} {v}, cs[i]? = some v → ∃ d, ds[i]? = some d ∧ VR μ h v d
 | [], _, _, i, v, e => by simp at e
 | c :: cs, ds, H, i, v, e => by
  simp only [VRs] at H
  obtain ⟨d, ds', rfl, h1, H⟩ := H
  cases i with
  | zero => simp at e; subst e; exact ⟨d, rfl, h1⟩
  | succ i => simpa using VRs.get H (by simpa using e)
theorem VRs.mk {μ h} : ∀ {cs ds}, ds.length = cs.length → (∀ (i : Nat) v d, cs[i]? = some v → ds[i]? = some d → VR μ h v d) → VRs μ h cs ds
 | [], ds, hl, _ => by simp only [VRs]; exact List.length_eq_zero_iff.1 hl
 | c :: cs, [], hl, _ => by simp at hl
 | c :: cs, d :: ds, hl, H => by
  simp only [VRs]
  exact ⟨d, ds, rfl, H 0 c d rfl rfl, VRs.mk (by simpa using hl) fun i v d h1 h2 => H (i + 1) v d (by simpa using h1) (by simpa using h2)⟩
theorem VRs.append {μ h cs ds cs' ds'} (a : VRs μ h cs ds) (b : VRs μ h cs' ds') : VRs μ h (cs ++ cs') (ds ++ ds') := by
 refine VRs.mk (by simp [a.len, b.len]) fun i v d h1 h2 => ?_
 rw [List.getElem?_append] at h1 h2
 rw [a.len] at h2
 by_cases hi : i < cs.length
 ·rw [if_pos hi] at h1 h2
  obtain ⟨d', h3, h4⟩ := a.get h1
  rw [h2] at h3; cases h3; exact h4
 ·rw [if_neg hi] at h1 h2
  obtain ⟨d', h3, h4⟩ := b.get h1
  rw [h2] at h3; cases h3; exact h4
theorem VRs.drop {μ h cs ds} (a : VRs μ h cs ds) (k : Nat) : VRs μ h (cs.drop k) (ds.drop k) := by
 refine VRs.mk (by simp [a.len]) fun i v d h1 h2 => ?_
 rw [List.getElem?_drop] at h1 h2
 obtain ⟨d', h3, h4⟩ := a.get h1
 rw [h2] at h3; cases h3; exact h4
theorem VRs.take {μ h cs ds} (a : VRs μ h cs ds) (k : Nat) : VRs μ h (cs.take k) (ds.take k) := by
 refine VRs.mk (by simp [a.len]) fun i v d h1 h2 => ?_
 rw [List.getElem?_take] at h1 h2
 by_cases hi : i < k
 ·rw [if_pos hi] at h1 h2
  obtain ⟨d', h3, h4⟩ := a.get h1
  rw [h2] at h3; cases h3; exact h4
 ·rw [if_neg hi] at h1; cases h1
theorem VRs.set {μ h cs ds v d} (a : VRs μ h cs ds) (k : Nat) (hv : VR μ h v d) : VRs μ h (cs.set k v) (ds.set k d) := by
 refine VRs.mk (by simp [a.len]) fun i v' d' h1 h2 => ?_
 rw [List.getElem?_set] at h1 h2
 by_cases hi : k = i
 ·subst hi
  rw [if_pos rfl] at h1 h2
  rw [a.len] at h2
  by_cases hl : k < cs.length
  ·rw [if_pos hl] at h1 h2; cases h1; cases h2; exact hv
  ·rw [if_neg hl] at h1; cases h1
 ·rw [if_neg hi] at h1 h2
  obtain ⟨d'', h3, h4⟩ := a.get h1
  rw [h2] at h3; cases h3; exact h4
theorem VRs.nil {μ h} : VRs μ h [] [] := by simp only [VRs]
theorem VRs.cons {μ h c cs d ds} (a : VR μ h c d) (b : VRs μ h cs ds) : VRs μ h (c :: cs) (d :: ds) := by simp only [VRs]; exact ⟨d, ds, rfl, a, b⟩
structure Step (μ : Mu) (h : H) (μ' : Mu) (h' : H) : Prop where
 len : h.length ≤ h'.length
 alive : ∀ o, (inf h o).isSome = true → (inf h' o).isSome = true
 same : ∀ o t m, o < h.length → inf h' o = some (t, m) → ∃ t' n, inf h o = some (t', n) ∧ n ≤ m ∧ (m = n → t = t' ∧ μ' o = μ o) ∧ (t = t' ∨ t = 3)
theorem Step.refl (μ h) : Step μ h μ h := ⟨Nat.le_refl _, fun _ h => h, fun o t m _ e => ⟨t, m, e, Nat.le_refl _, fun _ => ⟨rfl, rfl⟩, .inl rfl⟩⟩
theorem Step.trans {μ h μ1 h1 μ2 h2} (a : Step μ h μ1 h1) (b : Step μ1 h1 μ2 h2) : Step μ h μ2 h2 := by
 refine ⟨Nat.le_trans a.len b.len, fun o h => b.alive o (a.alive o h), fun o t m ho e => ?_⟩
 obtain ⟨t1, n, e1, h1, h2, h5⟩ := b.same o t m (Nat.lt_of_lt_of_le ho a.len) e
 obtain ⟨t2, k, e2, h3, h4, h6⟩ := a.same o t1 n ho e1
 exact ⟨t2, k, e2, by omega, fun hm => ⟨(h2 (by omega)).1.trans (h4 (by omega)).1, by rw [(h2 (by omega)).2, (h4 (by omega)).2]⟩, by omega⟩
theorem isSome_lt {h : H} {o : Nat} (e : (inf h o).isSome = true) : o < h.length := by
 rcases Nat.lt_or_ge o h.length with hl | hl
 ·exact hl
 ·unfold inf at e
  rw [List.getElem?_eq_none hl] at e; simp at e
theorem PR.step {μ h μ' h'} (s : Step μ h μ' h') {p v} (r : PR μ h p v) : PR μ' h' p v := by
 unfold PR at *
 split
 ·next e => rw [e] at r; exact r
 ·next o e =>
  rw [e] at r
  obtain ⟨ho, a, rfl, r⟩ := r
  refine ⟨s.alive o ho, a, rfl, fun t m hi => ?_⟩
  obtain ⟨t', n, e1, h1, h2, _⟩ := s.same o t m (isSome_lt ho) hi
  obtain ⟨r1, r2⟩ := r t' n e1
  exact ⟨by omega, fun hm => by rw [(h2 (by omega)).2]; first | exact r2 (by omega) | (rw [(h2 (by omega)).1]; exact r2 (by omega))⟩
theorem SR.step {μ h μ' h'} (s : Step μ h μ' h') {p v} (r : SR μ h p v) : SR μ' h' p v := by
 unfold SR at *
 split
 ·next e => rw [e] at r; exact r
 ·next o e =>
  rw [e] at r
  obtain ⟨ho, hz, a, cap, rfl, hc, r⟩ := r
  refine ⟨s.alive o ho, hz, a, cap, rfl, hc, fun t m hi => ?_⟩
  obtain ⟨t', n, e1, h1, h2, _⟩ := s.same o t m (isSome_lt ho) hi
  obtain ⟨r1, r2⟩ := r t' n e1
  exact ⟨by omega, fun hm => by rw [(h2 (by omega)).2]; first | exact r2 (by omega) | (rw [(h2 (by omega)).1]; exact r2 (by omega))⟩
theorem MR.step {μ h μ' h'} (s : Step μ h μ' h') {p v} (r : MR μ h p v) : MR μ' h' p v := by
 unfold MR at *
 split
 ·exact r
 ·next o =>
  obtain ⟨ho, q, rfl, r⟩ := r
  refine ⟨s.alive o ho, q, rfl, fun m hi => ?_⟩
  obtain ⟨t', n, e1, h1, h2, h3⟩ := s.same o 2 m (isSome_lt ho) hi
  obtain rfl : t' = 2 := by omega
  have e0 : m = 0 := by
   unfold inf at hi; split at hi <;> simp at hi; exact hi.symm
  have e0' : n = 0 := by
   unfold inf at e1; split at e1 <;> simp at e1; exact e1.symm
  rw [(h2 (by omega)).2]
  exact r n e1
mutual
theorem VR.step {μ h μ' h'} (s : Step μ h μ' h') : ∀ {c v}, VR μ h c v → VR μ' h' c v
 | .undef, v, _ => by simp only [VR]
 | .gone, v, r => by simpa only [VR] using r
 | .bool b, v, r => by simpa only [VR] using r
 | .int k n, v, r => by simpa only [VR] using r
 | .str _, v, r => by simpa only [VR] using r
 | .ptr p, v, r => by simp only [VR] at *; exact r.step s
 | .sl p, v, r => by simp only [VR] at *; exact r.step s
 | .func f cap, v, r => by
  simp only [VR] at *
  obtain ⟨ds, e, r⟩ := r
  exact ⟨ds, e, VRs.step s r⟩
 | .nilFunc, v, r => by simpa only [VR] using r
 | .map p, v, r => by simp only [VR] at *; exact r.step s
 | .agg cs, v, r => by
  simp only [VR] at *
  obtain ⟨ds, e, r, c⟩ := r
  exact ⟨ds, e, VRs.step s r, c⟩
 | .tuple cs, v, r => by
  simp only [VR] at *
  obtain ⟨ds, e, r⟩ := r
  exact ⟨ds, e, VRs.step s r⟩
theorem VRs.step {μ h μ' h'} (s : Step μ h μ' h') : ∀ {cs ds}, VRs μ h cs ds → VRs μ' h' cs ds
 | [], ds, r => by simpa only [VRs] using r
 | c :: cs, ds, r => by
  simp only [VRs] at *
  obtain ⟨d, ds', e, h1, h2⟩ := r
  exact ⟨d, ds', e, VR.step s h1, VRs.step s h2⟩
end
theorem VR.cell {μ h} : ∀ {c v}, VR μ h c v → c.isCell = true → v.oneCell' = true
 | .undef, _, _, e => by simp [AVal.isCell] at e
 | .gone, _, _, e => by simp [AVal.isCell] at e
 | .agg _, _, _, e => by simp [AVal.isCell] at e
 | .tuple _, _, _, e => by simp [AVal.isCell] at e
 | .bool _, _, r, _ => by simp only [VR] at r; subst r; rfl
 | .int _ _, _, r, _ => by simp only [VR] at r; subst r; rfl
 | .str _, _, r, _ => by simp only [VR] at r; subst r; rfl
 | .nilFunc, _, r, _ => by simp only [VR] at r; subst r; rfl
 | .func _ _, _, r, _ => by simp only [VR] at r; obtain ⟨_, rfl, _⟩ := r; rfl
 | .ptr p, _, r, _ => by
  simp only [VR, PR] at r
  split at r
  ·subst r; rfl
  ·obtain ⟨_, _, rfl, _⟩ := r; rfl
 | .sl p, _, r, _ => by
  simp only [VR, SR] at r
  split at r
  ·obtain ⟨_, rfl⟩ := r; rfl
  ·obtain ⟨_, _, _, _, rfl, _⟩ := r; rfl
 | .map p, _, r, _ => by
  simp only [VR, MR] at r
  split at r
  ·subst r; rfl
  ·obtain ⟨_, _, rfl, _⟩ := r; rfl
structure Rel (μ : Mu) (h : H) (w : World) : Prop where
 own : ∀ o cs, h[o]? = some (.own cs) → (μ o).b < w.heap.size ∧ (μ o).off + cs.length ≤ (μ o).size ∧
  (∀ i, (μ o).off + i < (μ o).size → (w.cell? (place (μ o) i)).isSome = true ∧ w.frozen? (place (μ o) i) = false) ∧
  ∀ (i : Nat) v, cs[i]? = some v → v.isCell = true ∧ ∃ d, w.cell? (place (μ o) i) = some d ∧ VR μ h v d
 ro : ∀ o cs, h[o]? = some (.ro cs) → ∀ (i : Nat) v, cs[i]? = some v → v.isCell = true ∧ ∃ d, w.cell? (place (μ o) i) = some d ∧ VR μ h v d
 mp : ∀ o es, h[o]? = some (.mp es) → (μ o).b < w.heap.size ∧ ∃ ms ck, w.heap[(μ o).b]? = some (.map ms ck) ∧ (ms.size = es.length ∧ ck = es.length) ∧
  ∀ (i : Nat) k v, es[i]? = some (k, v) → ∃ m, ms[i]? = some m ∧ m.born = i ∧ VR μ h k m.key ∧ VR μ h v m.val
 sep : ∀ o o' t m t' m', inf h o = some (t, m) → (t ≠ 1 ∧ t ≠ 3) → inf h o' = some (t', m') → ((t' = 1 → 0 < m') ∧ t' ≠ 3) → o ≠ o' → (μ o).b = (μ o').b → False
def Mine (μ : Mu) (h : H) (b : Nat) : Prop := ∃ o t m, inf h o = some (t, m) ∧ (t ≠ 1 ∧ t ≠ 3) ∧ (μ o).b = b
def Has (μ : Mu) (h : H) (b : Nat) : Prop := ∃ o t m, inf h o = some (t, m) ∧ ((t = 1 → 0 < m) ∧ t ≠ 3) ∧ (μ o).b = b
structure Keep (B : Nat → Prop) (w w' : World) : Prop where
 os : w'.os = w.os
 tape : w'.tape = w.tape
 output : w'.output = w.output
 size : w.heap.size ≤ w'.heap.size
 block : ∀ k, k < w.heap.size → ¬ B k → w'.heap[k]? = w.heap[k]?
 drawn : w.drawn ≤ w'.drawn
theorem Keep.refl (B w) : Keep B w w := ⟨rfl, rfl, rfl, Nat.le_refl _, fun _ _ _ => rfl, Nat.le_refl _⟩
structure Tr (μ : Mu) (h : H) (w : World) (μ' : Mu) (h' : H) (w' : World) : Prop where
 rel : Rel μ' h' w'
 step : Step μ h μ' h'
 keep : Keep (Mine μ h) w w'
 mine : ∀ b, Mine μ' h' b → Mine μ h b ∨ w.heap.size ≤ b
 has : ∀ b, Has μ' h' b → Has μ h b ∨ w.heap.size ≤ b
theorem Tr.refl {μ h w} (r : Rel μ h w) : Tr μ h w μ h w := ⟨r, Step.refl _ _, Keep.refl _ _, fun _ h => .inl h, fun _ h => .inl h⟩
theorem Tr.trans {μ h w μ1 h1 w1 μ2 h2 w2} (a : Tr μ h w μ1 h1 w1) (b : Tr μ1 h1 w1 μ2 h2 w2) : Tr μ h w μ2 h2 w2 := by
 refine ⟨b.rel, a.step.trans b.step, ⟨b.keep.os.trans a.keep.os, b.keep.tape.trans a.keep.tape, b.keep.output.trans a.keep.output, Nat.le_trans a.keep.size b.keep.size, fun k hk hn => ?_, Nat.le_trans a.keep.drawn b.keep.drawn⟩, fun x hx => ?_, fun x hx => ?_⟩
 ·rw [b.keep.block k (Nat.lt_of_lt_of_le hk a.keep.size) (fun hm => ?_), a.keep.block k hk hn]
  rcases a.mine k hm with h | h
  ·exact hn h
  ·omega
 ·rcases b.mine x hx with h | h
  ·exact a.mine x h
  ·exact .inr (Nat.le_trans a.keep.size h)
 ·rcases b.has x hx with h | h
  ·exact a.has x h
  ·exact .inr (Nat.le_trans a.keep.size h)
theorem inf_lt {h : H} {o t m} (e : inf h o = some (t, m)) : o < h.length := by
 unfold inf at e
 rcases Nat.lt_or_ge o h.length with hl | hl
 ·exact hl
 ·rw [List.getElem?_eq_none hl] at e; simp at e
theorem Rel.drew {μ h w} (r : Rel μ h w) : Rel μ h w.drew := ⟨r.own, r.ro, r.mp, r.sep⟩
theorem Tr.drew {μ h w} (r : Rel μ h w) : Tr μ h w μ h w.drew := ⟨r.drew, Step.refl _ _, ⟨rfl, rfl, rfl, Nat.le_refl _, fun _ _ _ => rfl, Nat.le_succ _⟩, fun _ h => .inl h, fun _ h => .inl h⟩
def Mu.upd (μ : Mu) (o : Nat) (l : Loc) : Mu := fun i => if i = o then l else μ i
theorem inf_push (h : H) (x : AObj) (o : Nat) (ho : o < h.length) : inf (h ++ [x]) o = inf h o := by
 unfold inf; rw [List.getElem?_append_left ho]
theorem Step.push (μ : Mu) (h : H) (x : AObj) (l : Loc) : Step μ h (μ.upd h.length l) (h ++ [x]) := by
 refine ⟨by simp, fun o e => by rw [inf_push h x o (isSome_lt e)]; exact e, fun o t m ho e => ⟨t, m, ?_, Nat.le_refl _, fun _ => ⟨rfl, ?_⟩, .inl rfl⟩⟩
 ·rw [inf_push h x o ho] at e; exact e
 ·unfold Mu.upd; rw [if_neg (by omega)]
theorem upd_self (μ : Mu) (o : Nat) (l : Loc) : (μ.upd o l) o = l := by simp [Mu.upd]
theorem upd_other (μ : Mu) (o : Nat) (l : Loc) (i : Nat) (h : i ≠ o) : (μ.upd o l) i = μ i := by simp [Mu.upd, h]
theorem cell?_alloc_lt' (w : World) (x : Obj) (a : Addr) (h : a.block < w.heap.size) : (w.alloc x).cell? a = w.cell? a := World.cell?_alloc_lt _ _ _ h
theorem frozen?_alloc_lt' (w : World) (x : Obj) (a : Addr) (h : a.block < w.heap.size) : (w.alloc x).frozen? a = w.frozen? a := World.frozen?_alloc_old _ _ _ (by omega)
theorem cell_lt {w : World} {a : Addr} {d : Value} (h : w.cell? a = some d) : a.block < w.heap.size := by
 rcases Nat.lt_or_ge a.block w.heap.size with hl | hl
 ·exact hl
 ·unfold World.cell? at h
  rw [Array.getElem?_eq_none hl] at h
  simp at h
theorem alloc_size (w : World) (x : Obj) : (w.alloc x).heap.size = w.heap.size + 1 := by show (w.heap.push x).size = _; simp
theorem alloc_get (w : World) (x : Obj) (k : Nat) (h : k < w.heap.size) : (w.alloc x).heap[k]? = w.heap[k]? := by
 show (w.heap.push x)[k]? = _
 rw [Array.getElem?_push, if_neg (by omega)]
theorem Tr.new {μ h w} (r : Rel μ h w) (cs : List AVal) (c : Array Value) (e : TypeId) (ds : List Value) (hd : VRs μ h cs ds)
  (hc : cs.all AVal.isCell = true) (hp : ∃ rest, c.toList = ds ++ rest) :
  Tr μ h w (μ.upd h.length ⟨w.heap.size, 0, c.size⟩) (h ++ [.own cs]) (w.alloc (.cells c e)) := by
 obtain ⟨rest, hp⟩ := hp
 have st := Step.push μ h (.own cs) ⟨w.heap.size, 0, c.size⟩
 have hlen : ds.length = cs.length := hd.len
 have hsz : cs.length ≤ c.size := by rw [← Array.length_toList, hp]; simp [hlen]
 have hcell : ∀ i, (w.alloc (.cells c e)).cell? ⟨w.heap.size, i, none⟩ = c[i]? := fun i => World.cell?_alloc_at c e _ i rfl
 have hfro : ∀ i, (w.alloc (.cells c e)).frozen? ⟨w.heap.size, i, none⟩ = false := fun i => World.frozen?_alloc_at c e _ i rfl
 have hold : ∀ o x, h[o]? = some x → o ≠ h.length := fun o x hx => by
  have : o < h.length := by
   rcases Nat.lt_or_ge o h.length with hl | hl
   ·exact hl
   ·rw [List.getElem?_eq_none hl] at hx; cases hx
  omega
 refine ⟨⟨?_, ?_, ?_, ?_⟩, st, ⟨rfl, rfl, rfl, by rw [alloc_size]; omega, fun k hk _ => alloc_get _ _ _ hk, Nat.le_refl _⟩, ?_, ?_⟩
 ·intro o cs' ho
  rw [List.getElem?_append] at ho
  split at ho
  ·next hl =>
   obtain ⟨h1, h2, h3, h4⟩ := r.own o cs' ho
   rw [upd_other _ _ _ _ (by omega)]
   refine ⟨by rw [alloc_size]; omega, h2, fun i hi => ?_, fun i v hv => ?_⟩
   ·rw [cell?_alloc_lt' _ _ _ h1, frozen?_alloc_lt' _ _ _ h1]; exact h3 i hi
   ·obtain ⟨q, d, h5, h6⟩ := h4 i v hv
    exact ⟨q, d, by rw [cell?_alloc_lt' _ _ _ h1]; exact h5, h6.step st⟩
  ·next hl =>
   have : o = h.length := by
    rcases Nat.lt_or_ge (o - h.length) 1 with h1 | h1
    ·omega
    ·rw [List.getElem?_eq_none (by simpa using h1)] at ho; cases ho
   subst this
   simp at ho
   subst ho
   rw [upd_self]
   refine ⟨by rw [alloc_size]; simp, by simpa using hsz, fun i hi => ?_, fun i v hv => ?_⟩
   ·simp only [place, Nat.zero_add] at hi ⊢
    rw [hcell, hfro]
    exact ⟨by simp [hi], rfl⟩
   ·refine ⟨?_, ?_⟩
    ·rw [List.all_eq_true] at hc
     exact hc v (List.mem_of_getElem? hv)
    ·obtain ⟨d, h5, h6⟩ := hd.get hv
     refine ⟨d, ?_, h6.step st⟩
     simp only [place, Nat.zero_add]
     rw [hcell, ← Array.getElem?_toList, hp, List.getElem?_append_left]
     ·exact h5
     ·exact (List.getElem?_eq_some_iff.1 h5).1
 ·intro o cs' ho i v hv
  rw [List.getElem?_append] at ho
  split at ho
  ·next hl =>
   obtain ⟨q, d, h5, h6⟩ := r.ro o cs' ho i v hv
   rw [upd_other _ _ _ _ (by omega)]
   exact ⟨q, d, by rw [cell?_alloc_lt' _ _ _ (cell_lt h5)]; exact h5, h6.step st⟩
  ·next hl =>
   have : o = h.length := by
    rcases Nat.lt_or_ge (o - h.length) 1 with h1 | h1
    ·omega
    ·rw [List.getElem?_eq_none (by simpa using h1)] at ho; cases ho
   subst this
   simp at ho
 ·intro o es ho
  rw [List.getElem?_append] at ho
  split at ho
  ·next hl =>
   obtain ⟨h1, ms, ck, h2, h3, h4⟩ := r.mp o es ho
   rw [upd_other _ _ _ _ (by omega)]
   refine ⟨by rw [alloc_size]; omega, ms, ck, ?_, h3, fun i k v hv => ?_⟩
   ·rw [alloc_get _ _ _ h1]; exact h2
   ·obtain ⟨m, h5, hb, h6, h7⟩ := h4 i k v hv
    exact ⟨m, h5, hb, h6.step st, h7.step st⟩
  ·next hl =>
   have : o = h.length := by
    rcases Nat.lt_or_ge (o - h.length) 1 with h1 | h1
    ·omega
    ·rw [List.getElem?_eq_none (by simpa using h1)] at ho; cases ho
   subst this
   simp at ho
 ·intro o o' t m t' m' h1 ht h2 hz hne hb
  have hlt : ∀ o t m, o < h.length → inf (h ++ [.own cs]) o = some (t, m) → inf h o = some (t, m) := fun o t m hl e => by rwa [inf_push _ _ _ hl] at e
  have hmine : ∀ o t m, inf h o = some (t, m) → (t ≠ 1 ∧ t ≠ 3) → (μ o).b < w.heap.size := fun o t m e ht => by
   unfold inf at e
   split at e <;> simp at e
   ·next cs' hx => exact (r.own o cs' hx).1
   ·exact absurd e.1.symm ht.1
   ·next es hx => exact (r.mp o es hx).1
   ·exact absurd e.1.symm ht.2
  have hro : ∀ o m, inf h o = some (1, m) → 0 < m → (μ o).b < w.heap.size := fun o m e h0 => by
   unfold inf at e
   split at e <;> simp at e
   next cs' hx =>
    obtain ⟨_, d, h5, _⟩ := r.ro o cs' hx 0 cs'[0] (by simp)
    exact cell_lt h5
  have hl1 := inf_lt h1
  have hl2 := inf_lt h2
  simp at hl1 hl2
  by_cases e1 : o = h.length
  ·subst e1
   have hl : o' < h.length := by omega
   rw [upd_self, upd_other _ _ _ _ (by omega)] at hb
   have h2' := hlt o' t' m' hl h2
   by_cases ht' : t' = 1
   ·subst ht'
    have h3 := hro o' m' h2' (hz.1 rfl)
    have hb' : w.heap.size = (μ o').b := hb
    omega
   ·have h3 := hmine o' t' m' h2' ⟨ht', hz.2⟩
    have hb' : w.heap.size = (μ o').b := hb
    omega
  ·have hl : o < h.length := by omega
   have h1' := hlt o t m hl h1
   by_cases e2 : o' = h.length
   ·subst e2
    rw [upd_self, upd_other _ _ _ _ e1] at hb
    have h3 := hmine o t m h1' ht
    have hb' : (μ o).b = w.heap.size := hb
    omega
   ·rw [upd_other _ _ _ _ e1, upd_other _ _ _ _ e2] at hb
    exact r.sep o o' t m t' m' h1' ht (hlt o' t' m' (by omega) h2) hz hne hb
 ·rintro b ⟨o, t, m, e, ht, hb⟩
  have hl := inf_lt e
  simp at hl
  by_cases e1 : o = h.length
  ·subst e1
   rw [upd_self] at hb
   exact .inr (by have hb' : w.heap.size = b := hb; omega)
  ·rw [upd_other _ _ _ _ e1] at hb
   exact .inl ⟨o, t, m, by rwa [inf_push _ _ _ (by omega)] at e, ht, hb⟩
 ·rintro b ⟨o, t, m, e, ht, hb⟩
  have hl := inf_lt e
  simp at hl
  by_cases e1 : o = h.length
  ·subst e1
   rw [upd_self] at hb
   exact .inr (by have hb' : w.heap.size = b := hb; omega)
  ·rw [upd_other _ _ _ _ e1] at hb
   exact .inl ⟨o, t, m, by rwa [inf_push _ _ _ (by omega)] at e, ht, hb⟩
theorem Tr.newMap {μ h w} (r : Rel μ h w) :
  Tr μ h w (μ.upd h.length ⟨w.heap.size, 0, 0⟩) (h ++ [.mp []]) (w.alloc (.map #[] 0)) := by
 have st := Step.push μ h (.mp []) ⟨w.heap.size, 0, 0⟩
 have hold : ∀ o x, (h ++ [AObj.mp []])[o]? = some x → (o < h.length ∧ h[o]? = some x) ∨ (o = h.length ∧ x = .mp []) := fun o x hx => by
  rw [List.getElem?_append] at hx
  split at hx
  ·next hl => exact .inl ⟨hl, hx⟩
  ·next hl =>
   have : o = h.length := by
    rcases Nat.lt_or_ge (o - h.length) 1 with h1 | h1
    ·omega
    ·rw [List.getElem?_eq_none (by simpa using h1)] at hx; cases hx
   subst this
   simp at hx
   exact .inr ⟨rfl, hx.symm⟩
 refine ⟨⟨?_, ?_, ?_, ?_⟩, st, ⟨rfl, rfl, rfl, by rw [alloc_size]; omega, fun k hk _ => alloc_get _ _ _ hk, Nat.le_refl _⟩, ?_, ?_⟩
 ·intro o cs' ho
  rcases hold o _ ho with ⟨hl, ho'⟩ | ⟨_, e⟩
  ·obtain ⟨h1, h2, h3, h4⟩ := r.own o cs' ho'
   rw [upd_other _ _ _ _ (by omega)]
   refine ⟨by rw [alloc_size]; omega, h2, fun i hi => ?_, fun i v hv => ?_⟩
   ·rw [cell?_alloc_lt' _ _ _ h1, frozen?_alloc_lt' _ _ _ h1]; exact h3 i hi
   ·obtain ⟨q, d, h5, h6⟩ := h4 i v hv
    exact ⟨q, d, by rw [cell?_alloc_lt' _ _ _ h1]; exact h5, h6.step st⟩
  ·cases e
 ·intro o cs' ho i v hv
  rcases hold o _ ho with ⟨hl, ho'⟩ | ⟨_, e⟩
  ·obtain ⟨q, d, h5, h6⟩ := r.ro o cs' ho' i v hv
   rw [upd_other _ _ _ _ (by omega)]
   exact ⟨q, d, by rw [cell?_alloc_lt' _ _ _ (cell_lt h5)]; exact h5, h6.step st⟩
  ·cases e
 ·intro o es ho
  rcases hold o _ ho with ⟨hl, ho'⟩ | ⟨e1, e⟩
  ·obtain ⟨h1, ms, ck, h2, h3, h4⟩ := r.mp o es ho'
   rw [upd_other _ _ _ _ (by omega)]
   refine ⟨by rw [alloc_size]; omega, ms, ck, ?_, h3, fun i k v hv => ?_⟩
   ·rw [alloc_get _ _ _ h1]; exact h2
   ·obtain ⟨m, h5, hb, h6, h7⟩ := h4 i k v hv
    exact ⟨m, h5, hb, h6.step st, h7.step st⟩
  ·cases e
   subst e1
   rw [upd_self]
   refine ⟨by rw [alloc_size]; simp, #[], 0, ?_, ⟨rfl, rfl⟩, fun i k v hv => by simp at hv⟩
   show (w.heap.push (.map #[] 0))[w.heap.size]? = _
   simp
 ·intro o o' t m t' m' h1 ht h2 hz hne hb
  have hlt : ∀ o t m, o < h.length → inf (h ++ [.mp []]) o = some (t, m) → inf h o = some (t, m) := fun o t m hl e => by rwa [inf_push _ _ _ hl] at e
  have hmine : ∀ o t m, inf h o = some (t, m) → (t ≠ 1 ∧ t ≠ 3) → (μ o).b < w.heap.size := fun o t m e ht => by
   unfold inf at e
   split at e <;> simp at e
   ·next cs' hx => exact (r.own o cs' hx).1
   ·exact absurd e.1.symm ht.1
   ·next es hx => exact (r.mp o es hx).1
   ·exact absurd e.1.symm ht.2
  have hro : ∀ o m, inf h o = some (1, m) → 0 < m → (μ o).b < w.heap.size := fun o m e h0 => by
   unfold inf at e
   split at e <;> simp at e
   next cs' hx =>
    obtain ⟨_, d, h5, _⟩ := r.ro o cs' hx 0 cs'[0] (by simp)
    exact cell_lt h5
  have hl1 := inf_lt h1
  have hl2 := inf_lt h2
  simp at hl1 hl2
  by_cases e1 : o = h.length
  ·subst e1
   have hl : o' < h.length := by omega
   rw [upd_self, upd_other _ _ _ _ (by omega)] at hb
   have h2' := hlt o' t' m' hl h2
   by_cases ht' : t' = 1
   ·subst ht'
    have h3 := hro o' m' h2' (hz.1 rfl)
    have hb' : w.heap.size = (μ o').b := hb
    omega
   ·have h3 := hmine o' t' m' h2' ⟨ht', hz.2⟩
    have hb' : w.heap.size = (μ o').b := hb
    omega
  ·have hl : o < h.length := by omega
   have h1' := hlt o t m hl h1
   by_cases e2 : o' = h.length
   ·subst e2
    rw [upd_self, upd_other _ _ _ _ e1] at hb
    have h3 := hmine o t m h1' ht
    have hb' : (μ o).b = w.heap.size := hb
    omega
   ·rw [upd_other _ _ _ _ e1, upd_other _ _ _ _ e2] at hb
    exact r.sep o o' t m t' m' h1' ht (hlt o' t' m' (by omega) h2) hz hne hb
 ·rintro b ⟨o, t, m, e, ht, hb⟩
  have hl := inf_lt e
  simp at hl
  by_cases e1 : o = h.length
  ·subst e1
   rw [upd_self] at hb
   exact .inr (by have hb' : w.heap.size = b := hb; omega)
  ·rw [upd_other _ _ _ _ e1] at hb
   exact .inl ⟨o, t, m, by rwa [inf_push _ _ _ (by omega)] at e, ht, hb⟩
 ·rintro b ⟨o, t, m, e, ht, hb⟩
  have hl := inf_lt e
  simp at hl
  by_cases e1 : o = h.length
  ·subst e1
   rw [upd_self] at hb
   exact .inr (by have hb' : w.heap.size = b := hb; omega)
  ·rw [upd_other _ _ _ _ e1] at hb
   exact .inl ⟨o, t, m, by rwa [inf_push _ _ _ (by omega)] at e, ht, hb⟩
theorem cells_inf {h : H} {o n cs} (e : cells h o n = some cs) : (∃ t, inf h o = some (t, n) ∧ (t = 0 ∨ t = 1)) ∧ cs.length = n := by
 unfold cells at e
 unfold inf
 split at e
 ·next hx => rw [hx]; split at e <;> cases e; next hl => exact ⟨⟨0, by simp [hl], .inl rfl⟩, hl⟩
 ·next hx => rw [hx]; split at e <;> cases e; next hl => exact ⟨⟨1, by simp [hl], .inr rfl⟩, hl⟩
 ·cases e
theorem owned_inf {h : H} {o n cs} (e : owned h o n = some cs) : inf h o = some (0, n) ∧ cs.length = n ∧ h[o]? = some (.own cs) := by
 unfold owned at e
 split at e
 ·next cs' hx =>
  split at e <;> cases e
  next hl => exact ⟨by unfold inf; rw [hx]; simp [hl], hl, hx⟩
 ·cases e
theorem Rel.cells {μ h w} (r : Rel μ h w) {o n cs} (e : cells h o n = some cs) {i : Nat} {v} (hv : cs[i]? = some v) :
  v.isCell = true ∧ ∃ d, w.cell? (place (μ o) i) = some d ∧ VR μ h v d := by
 unfold Cl.cells at e
 split at e
 ·next hx => split at e <;> cases e; exact (r.own _ _ hx).2.2.2 i v hv
 ·next hx => split at e <;> cases e; exact r.ro _ _ hx i v hv
 ·cases e
theorem Rel.cell {μ h w} (r : Rel μ h w) {p : Pt} {v x} (hp : PR μ h p x) (e : cell h p = some v) :
  v.isCell = true ∧ ∃ a d, x = .pointer (some a) ∧ w.cell? a = some d ∧ VR μ h v d := by
 unfold Cl.cell at e
 unfold PR at hp
 split at e
 ·next o ho =>
  rw [ho] at hp
  obtain ⟨_, a, rfl, hp⟩ := hp
  rw [Option.bind_eq_some_iff] at e
  obtain ⟨cs, hc, hv⟩ := e
  obtain ⟨⟨t, ht, _⟩, _⟩ := cells_inf hc
  obtain ⟨q, d, h1, h2⟩ := r.cells hc hv
  exact ⟨q, a, d, rfl, by rw [(hp t p.n ht).2 rfl]; exact h1, h2⟩
 ·cases e
theorem list_read {w : World} {P : Nat → Value → Prop} : ∀ (k : Nat) (f : Nat → Addr), (∀ i, i < k → ∃ d, w.cell? (f i) = some d ∧ P i d) →
  ∃ ds : List Value, ds.length = k ∧ ∀ (i : Nat) d, ds[i]? = some d → w.cell? (f i) = some d ∧ P i d
 | 0, f, _ => ⟨[], rfl, fun i d h => by simp at h⟩
 | k + 1, f, H => by
  obtain ⟨ds, hl, hd⟩ := list_read k f fun i hi => H i (by omega)
  obtain ⟨d, h1, h2⟩ := H k (by omega)
  refine ⟨ds ++ [d], by simp [hl], fun i x hx => ?_⟩
  rw [List.getElem?_append] at hx
  split at hx
  ·exact hd i x hx
  ·next hi =>
   have : i = k := by
    rcases Nat.lt_or_ge (i - ds.length) 1 with h3 | h3
    ·omega
    ·rw [List.getElem?_eq_none (by simpa using h3)] at hx; cases hx
   subst this
   simp [hl] at hx
   subst hx
   exact ⟨h1, h2⟩
theorem Rel.range {μ h w} (r : Rel μ h w) {o n off k cs} (e : range h (some o) n off k = some cs) :
  (∃ t, inf h o = some (t, n) ∧ (t = 0 ∨ t = 1)) ∧ off + k ≤ n ∧ cs.length = k ∧ cs.all AVal.isCell = true ∧
  ∃ ds : List Value, ds.length = k ∧ VRs μ h cs ds ∧ ∀ (i : Nat) d, ds[i]? = some d → w.cell? (place (μ o) (off + i)) = some d := by
 unfold Cl.range at e
 simp only [Option.bind_eq_some_iff] at e
 obtain ⟨all, hc, he⟩ := e
 split at he <;> cases he
 next hk =>
 obtain ⟨hi, hl⟩ := cells_inf hc
 have hlen : ((all.drop off).take k).length = k := by simp; omega
 have hget : ∀ i v, ((all.drop off).take k)[i]? = some v → all[off + i]? = some v := fun i v hv => by
  rw [List.getElem?_take] at hv
  split at hv
  ·rwa [List.getElem?_drop] at hv
  ·cases hv
 obtain ⟨ds, h1, h2⟩ := list_read (w := w) (P := fun i d => ∀ v, ((all.drop off).take k)[i]? = some v → VR μ h v d) k (fun i => place (μ o) (off + i)) fun i hi => by
  have hv := List.getElem?_eq_getElem (l := (all.drop off).take k) (i := i) (by omega)
  obtain ⟨q, d, h3, h4⟩ := r.cells hc (hget _ _ hv)
  exact ⟨d, h3, fun v hv' => by rw [hv] at hv'; cases hv'; exact h4⟩
 refine ⟨hi, by omega, hlen, ?_, ds, h1, VRs.mk (by rw [h1, hlen]) fun i v d hv hd => (h2 i d hd).2 v hv, fun i d hd => (h2 i d hd).1⟩
 rw [List.all_eq_true]
 intro v hv
 obtain ⟨i, hi, rfl⟩ := List.mem_iff_getElem.1 hv
 exact (r.cells hc (hget i _ (List.getElem?_eq_getElem hi))).1
theorem inf_set (h : H) (o : Nat) (x : AObj) (o' : Nat) : inf (h.set o x) o' = if o = o' ∧ o < h.length then (match x with | .own cs => some (0, cs.length) | .ro cs => some (1, cs.length) | .mp _ => some (2, 0) | .lost n => some (3, n) | .dead => none) else inf h o' := by
 unfold inf
 rw [List.getElem?_set]
 by_cases e : o = o'
 ·subst e
  by_cases hl : o < h.length
  ·cases x <;> simp [hl]
  ·simp [hl, List.getElem?_eq_none (Nat.le_of_not_lt hl)]
 ·simp [e]
theorem Tr.turned {μ h w} (r : Rel μ h w) {o : Nat} {cs cs' : List AVal} (ho : h[o]? = some (.own cs)) (l : Loc) (hl : cs.length ≤ cs'.length) (hle : cs'.length = cs.length → l = μ o) {w' : World}
  (hos : w'.os = w.os) (htp : w'.tape = w.tape) (hout : w'.output = w.output ∧ w.drawn ≤ w'.drawn) (hsz : w.heap.size ≤ w'.heap.size) (hblk : ∀ k, k < w.heap.size → k ≠ (μ o).b → w'.heap[k]? = w.heap[k]?)
  (hlb : l.b = (μ o).b ∨ w.heap.size ≤ l.b) (hlw : l.b < w'.heap.size) (hls : l.off + cs'.length ≤ l.size)
  (hall : cs'.all AVal.isCell = true)
  (hthere : ∀ i, l.off + i < l.size → (w'.cell? (place l i)).isSome = true ∧ w'.frozen? (place l i) = false)
  (hcs : ∀ (i : Nat) v, cs'[i]? = some v → ∃ d, w'.cell? (place l i) = some d ∧ VR μ h v d) :
  Tr μ h w (μ.upd o l) (h.set o (.own cs')) w' := by
 have hol : o < h.length := by
  rcases Nat.lt_or_ge o h.length with hx | hx
  ·exact hx
  ·rw [List.getElem?_eq_none hx] at ho; cases ho
 have hio : inf h o = some (0, cs.length) := by unfold inf; rw [ho]
 have hinf : ∀ o', o' ≠ o → inf (h.set o (.own cs')) o' = inf h o' := fun o' hne => by
  rw [inf_set, if_neg (fun e => hne e.1.symm)]
 have hinfo : inf (h.set o (.own cs')) o = some (0, cs'.length) := by rw [inf_set, if_pos ⟨rfl, hol⟩]
 have st : Step μ h (μ.upd o l) (h.set o (.own cs')) := by
  refine ⟨by simp, fun o' e => by
   by_cases he : o' = o
   ·rw [he, hinfo]; rfl
   ·rw [hinf _ he]; exact e, fun o' t m _ e => ?_⟩
  by_cases he : o' = o
  ·subst he
   rw [hinfo] at e
   simp at e
   obtain ⟨rfl, rfl⟩ := e
   exact ⟨_, _, hio, hl, fun e => ⟨rfl, by rw [upd_self]; exact hle e⟩, .inl rfl⟩
  ·rw [hinf _ he] at e
   exact ⟨t, m, e, Nat.le_refl _, fun _ => ⟨rfl, upd_other _ _ _ _ he⟩, .inl rfl⟩
 have hcell : ∀ a : Addr, a.block < w.heap.size → a.block ≠ (μ o).b → w'.cell? a = w.cell? a := fun a hb ha => World.cell?_of_block (hblk _ hb ha)
 have hfro : ∀ a : Addr, a.block < w.heap.size → a.block ≠ (μ o).b → w'.frozen? a = w.frozen? a := fun a hb ha => World.frozen?_of_block (hblk _ hb ha)
 have hothers : ∀ o' x, o' ≠ o → (h.set o (.own cs'))[o']? = some x → h[o']? = some x := fun o' x hne hx => by
  rwa [List.getElem?_set_ne (Ne.symm hne)] at hx
 have hro : ∀ o m, inf h o = some (1, m) → 0 < m → (μ o).b < w.heap.size := fun o m e h0 => by
  unfold inf at e
  split at e <;> simp at e
  next cs' hx =>
   obtain ⟨_, d, h5, _⟩ := r.ro o cs' hx 0 cs'[0] (by simp)
   exact cell_lt h5
 have hmine : ∀ o t m, inf h o = some (t, m) → ((t = 1 → 0 < m) ∧ t ≠ 3) → (μ o).b < w.heap.size := fun o t m e ht => by
  have e0 := e
  unfold inf at e
  split at e <;> simp at e
  ·next cs' hx => exact (r.own o cs' hx).1
  ·obtain ⟨rfl, rfl⟩ := e; exact hro o _ e0 (ht.1 rfl)
  ·next es hx => exact (r.mp o es hx).1
  ·exact absurd e.1.symm ht.2
 have hlt := (r.own o cs ho).1
 refine ⟨⟨?_, ?_, ?_, ?_⟩, st, ⟨hos, htp, hout.1, hsz, fun k hk hn => hblk k hk fun e => hn ⟨o, 0, _, hio, by omega, e.symm⟩, hout.2⟩, ?_, ?_⟩
 ·intro o' cs2 hx
  by_cases e : o' = o
  ·subst e
   rw [List.getElem?_set_self hol] at hx
   cases hx
   rw [upd_self]
   refine ⟨hlw, hls, hthere, fun i v hv => ⟨?_, ?_⟩⟩
   ·rw [List.all_eq_true] at hall; exact hall v (List.mem_of_getElem? hv)
   ·obtain ⟨d, h3, h4⟩ := hcs i v hv; exact ⟨d, h3, h4.step st⟩
  ·have hx' := hothers o' _ e hx
   obtain ⟨h1, h2, h3, h4⟩ := r.own o' cs2 hx'
   have hb : (μ o').b ≠ (μ o).b := fun hb => r.sep o o' 0 _ 0 cs2.length hio (by omega) (by unfold inf; rw [hx']) (by omega) (Ne.symm e) hb.symm
   rw [upd_other _ _ _ _ e]
   refine ⟨by omega, h2, fun i hi => ?_, fun i v hv => ?_⟩
   ·rw [hcell _ h1 hb, hfro _ h1 hb]; exact h3 i hi
   ·obtain ⟨q, d, h5, h6⟩ := h4 i v hv
    exact ⟨q, d, by rw [hcell _ h1 hb]; exact h5, h6.step st⟩
 ·intro o' cs2 hx i v hv
  have e : o' ≠ o := fun e => by subst e; rw [List.getElem?_set_self hol] at hx; cases hx
  have hx' := hothers o' _ e hx
  obtain ⟨q, d, h5, h6⟩ := r.ro o' cs2 hx' i v hv
  have hpos : 0 < cs2.length := by have := (List.getElem?_eq_some_iff.1 hv).1; omega
  have hb : (μ o').b ≠ (μ o).b := fun hb => r.sep o o' 0 _ 1 cs2.length hio (by omega) (by unfold inf; rw [hx']) ⟨fun _ => hpos, by omega⟩ (Ne.symm e) hb.symm
  rw [upd_other _ _ _ _ e]
  exact ⟨q, d, by rw [hcell _ (cell_lt h5) hb]; exact h5, h6.step st⟩
 ·intro o' es hx
  have e : o' ≠ o := fun e => by subst e; rw [List.getElem?_set_self hol] at hx; cases hx
  have hx' := hothers o' _ e hx
  obtain ⟨h1, ms, ck, h2, h3, h4⟩ := r.mp o' es hx'
  have hb : (μ o').b ≠ (μ o).b := fun hb => r.sep o o' 0 _ 2 0 hio (by omega) (by unfold inf; rw [hx']) (by omega) (Ne.symm e) hb.symm
  rw [upd_other _ _ _ _ e]
  refine ⟨by omega, ms, ck, by rw [hblk _ h1 hb]; exact h2, h3, fun i k v hv => ?_⟩
  obtain ⟨m, h5, hbn, h6, h7⟩ := h4 i k v hv
  exact ⟨m, h5, hbn, h6.step st, h7.step st⟩
 ·intro a b t m t' m' h1 ht h2 hz hne hb
  by_cases e1 : a = o
  ·subst e1
   have e2 : b ≠ a := Ne.symm hne
   rw [upd_self, upd_other _ _ _ _ e2] at hb
   rw [hinf _ e2] at h2
   rcases hlb with hlb | hlb
   ·exact r.sep a b 0 _ t' m' hio (by omega) h2 hz hne (by rw [← hlb]; exact hb)
   ·have := hmine b t' m' h2 hz; omega
  ·rw [upd_other _ _ _ _ e1] at hb
   rw [hinf _ e1] at h1
   by_cases e2 : b = o
   ·subst e2
    rw [upd_self] at hb
    rcases hlb with hlb | hlb
    ·exact r.sep a b t m 0 _ h1 ht hio (by omega) hne (by rw [hb, hlb])
    ·have := hmine a t m h1 ⟨fun e => absurd e ht.1, ht.2⟩; omega
   ·rw [upd_other _ _ _ _ e2] at hb
    rw [hinf _ e2] at h2
    exact r.sep a b t m t' m' h1 ht h2 hz hne hb
 ·rintro b ⟨a, t, m, e, ht, hb⟩
  by_cases e1 : a = o
  ·subst e1
   rw [upd_self] at hb
   subst hb
   rcases hlb with hlb | hlb
   ·exact .inl ⟨a, 0, _, hio, by omega, hlb.symm⟩
   ·exact .inr hlb
  ·rw [upd_other _ _ _ _ e1] at hb
   rw [hinf _ e1] at e
   exact .inl ⟨a, t, m, e, ht, hb⟩
 ·rintro b ⟨a, t, m, e, ht, hb⟩
  by_cases e1 : a = o
  ·subst e1
   rw [upd_self] at hb
   subst hb
   rcases hlb with hlb | hlb
   ·exact .inl ⟨a, 0, _, hio, ⟨(fun e => by cases e), by omega⟩, hlb.symm⟩
   ·exact .inr hlb
  ·rw [upd_other _ _ _ _ e1] at hb
   rw [hinf _ e1] at e
   exact .inl ⟨a, t, m, e, ht, hb⟩
theorem Tr.setMap {μ h w} (r : Rel μ h w) {o : Nat} {es es' : List (AVal × AVal)} (ho : h[o]? = some (.mp es)) {ms' : Array MapEntry}
  (hsz : ms'.size = es'.length) (hms : ∀ (i : Nat) k v, es'[i]? = some (k, v) → ∃ m, ms'[i]? = some m ∧ m.born = i ∧ VR μ h k m.key ∧ VR μ h v m.val) :
  Tr μ h w μ (h.set o (.mp es')) { w with heap := w.heap.setIfInBounds (μ o).b (.map ms' es'.length) } := by
 have hol : o < h.length := by
  rcases Nat.lt_or_ge o h.length with hx | hx
  ·exact hx
  ·rw [List.getElem?_eq_none hx] at ho; cases ho
 have hio : inf h o = some (2, 0) := by unfold inf; rw [ho]
 have hinf : ∀ o', inf (h.set o (.mp es')) o' = inf h o' := fun o' => by
  rw [inf_set]
  split
  ·next e => rw [← e.1, hio]
  ·rfl
 have st : Step μ h μ (h.set o (.mp es')) :=
  ⟨by simp, fun o' e => by rw [hinf]; exact e, fun o' t m _ e => ⟨t, m, by rw [hinf] at e; exact e, Nat.le_refl _, fun _ => ⟨rfl, rfl⟩, .inl rfl⟩⟩
 have hblk : ∀ k, k ≠ (μ o).b → (w.heap.setIfInBounds (μ o).b (.map ms' es'.length))[k]? = w.heap[k]? := fun k hk => by simp [Ne.symm hk]
 have hcell : ∀ a : Addr, a.block ≠ (μ o).b → ({ w with heap := w.heap.setIfInBounds (μ o).b (.map ms' es'.length) } : World).cell? a = w.cell? a := fun a ha => World.cell?_of_block (hblk _ ha)
 have hfro : ∀ a : Addr, a.block ≠ (μ o).b → ({ w with heap := w.heap.setIfInBounds (μ o).b (.map ms' es'.length) } : World).frozen? a = w.frozen? a := fun a ha => World.frozen?_of_block (hblk _ ha)
 have hothers : ∀ o' x, o' ≠ o → (h.set o (.mp es'))[o']? = some x → h[o']? = some x := fun o' x hne hx => by
  rwa [List.getElem?_set_ne (Ne.symm hne)] at hx
 have hlt := (r.mp o es ho).1
 refine ⟨⟨?_, ?_, ?_, ?_⟩, st, ⟨rfl, rfl, rfl, by simp, fun k _ hn => hblk k fun e => hn ⟨o, 2, _, hio, by omega, e.symm⟩, Nat.le_refl _⟩, ?_, ?_⟩
 ·intro o' cs2 hx
  have e : o' ≠ o := fun e => by subst e; rw [List.getElem?_set_self hol] at hx; cases hx
  have hx' := hothers o' _ e hx
  obtain ⟨h1, h2, h3, h4⟩ := r.own o' cs2 hx'
  have hb : (μ o').b ≠ (μ o).b := fun hb => r.sep o o' 2 _ 0 cs2.length hio (by omega) (by unfold inf; rw [hx']) (by omega) (Ne.symm e) hb.symm
  refine ⟨by simpa using h1, h2, fun i hi => ?_, fun i v hv => ?_⟩
  ·rw [hcell _ hb, hfro _ hb]; exact h3 i hi
  ·obtain ⟨q, d, h5, h6⟩ := h4 i v hv
   exact ⟨q, d, by rw [hcell _ hb]; exact h5, h6.step st⟩
 ·intro o' cs2 hx i v hv
  have e : o' ≠ o := fun e => by subst e; rw [List.getElem?_set_self hol] at hx; cases hx
  have hx' := hothers o' _ e hx
  obtain ⟨q, d, h5, h6⟩ := r.ro o' cs2 hx' i v hv
  have hpos : 0 < cs2.length := by have := (List.getElem?_eq_some_iff.1 hv).1; omega
  have hb : (μ o').b ≠ (μ o).b := fun hb => r.sep o o' 2 _ 1 cs2.length hio (by omega) (by unfold inf; rw [hx']) ⟨fun _ => hpos, by omega⟩ (Ne.symm e) hb.symm
  exact ⟨q, d, by rw [hcell _ hb]; exact h5, h6.step st⟩
 ·intro o' es2 hx
  by_cases e : o' = o
  ·subst e
   rw [List.getElem?_set_self hol] at hx
   cases hx
   refine ⟨by simpa using hlt, ms', es'.length, by simp [hlt], ⟨hsz, rfl⟩, fun i k v hv => ?_⟩
   obtain ⟨m, h5, hb, h6, h7⟩ := hms i k v hv
   exact ⟨m, h5, hb, h6.step st, h7.step st⟩
  ·have hx' := hothers o' _ e hx
   obtain ⟨h1, ms, ck, h2, h3, h4⟩ := r.mp o' es2 hx'
   have hb : (μ o').b ≠ (μ o).b := fun hb => r.sep o o' 2 _ 2 0 hio (by omega) (by unfold inf; rw [hx']) (by omega) (Ne.symm e) hb.symm
   refine ⟨by simpa using h1, ms, ck, by rw [hblk _ hb]; exact h2, h3, fun i k v hv => ?_⟩
   obtain ⟨m, h5, hbn, h6, h7⟩ := h4 i k v hv
   exact ⟨m, h5, hbn, h6.step st, h7.step st⟩
 ·intro a b t m t' m' h1 ht h2 hz hne hb
  rw [hinf] at h1 h2
  exact r.sep a b t m t' m' h1 ht h2 hz hne hb
 ·rintro b ⟨a, t, m, e, ht, hb⟩
  rw [hinf] at e
  exact .inl ⟨a, t, m, e, ht, hb⟩
 ·rintro b ⟨a, t, m, e, ht, hb⟩
  rw [hinf] at e
  exact .inl ⟨a, t, m, e, ht, hb⟩
theorem Tr.rebase {μ h w} (r : Rel μ h w) {o : Nat} {cs : List AVal} (ho : h[o]? = some (.own cs)) (k : Nat) (hk : k ≤ cs.length) :
  Tr μ h w (μ.upd h.length ⟨(μ o).b, (μ o).off + k, (μ o).size⟩) (h.set o (.lost (cs.length + 1)) ++ [.own (cs.drop k)]) w := by
 have hol : o < h.length := by
  rcases Nat.lt_or_ge o h.length with hx | hx
  ·exact hx
  ·rw [List.getElem?_eq_none hx] at ho; cases ho
 have hio : inf h o = some (0, cs.length) := by unfold inf; rw [ho]
 have hlen : (h.set o (.lost (cs.length + 1))).length = h.length := by simp
 have hget : ∀ i x, i < h.length → i ≠ o → (h.set o (.lost (cs.length + 1)) ++ [AObj.own (cs.drop k)])[i]? = some x → h[i]? = some x := fun i x hi hne e => by
  rw [List.getElem?_append_left (by rw [hlen]; exact hi), List.getElem?_set_ne (Ne.symm hne)] at e; exact e
 have hgo : (h.set o (.lost (cs.length + 1)) ++ [AObj.own (cs.drop k)])[o]? = some (.lost (cs.length + 1)) := by
  rw [List.getElem?_append_left (by rw [hlen]; exact hol), List.getElem?_set_self hol]
 have hgn : (h.set o (.lost (cs.length + 1)) ++ [AObj.own (cs.drop k)])[h.length]? = some (.own (cs.drop k)) := by
  rw [List.getElem?_append_right (by rw [hlen]; exact Nat.le_refl _), hlen]; simp
 have hinf : ∀ i, i < h.length → i ≠ o → inf (h.set o (.lost (cs.length + 1)) ++ [AObj.own (cs.drop k)]) i = inf h i := fun i hi hne => by
  unfold inf; rw [List.getElem?_append_left (by rw [hlen]; exact hi), List.getElem?_set_ne (Ne.symm hne)]
 have hinfo : inf (h.set o (.lost (cs.length + 1)) ++ [AObj.own (cs.drop k)]) o = some (3, cs.length + 1) := by unfold inf; rw [hgo]
 have hinfn : inf (h.set o (.lost (cs.length + 1)) ++ [AObj.own (cs.drop k)]) h.length = some (0, (cs.drop k).length) := by unfold inf; rw [hgn]
 have hbound : ∀ i, i < (h.set o (.lost (cs.length + 1)) ++ [AObj.own (cs.drop k)]).length → i = h.length ∨ i = o ∨ (i < h.length ∧ i ≠ o) := fun i hi => by
  simp at hi; omega
 have st : Step μ h (μ.upd h.length ⟨(μ o).b, (μ o).off + k, (μ o).size⟩) (h.set o (.lost (cs.length + 1)) ++ [.own (cs.drop k)]) := by
  refine ⟨by simp, fun i e => ?_, fun i t m hi e => ?_⟩
  ·by_cases he : i = o
   ·subst he; rw [hinfo]; rfl
   ·rw [hinf i (isSome_lt e) he]; exact e
  ·by_cases he : i = o
   ·subst he; rw [hinfo] at e; simp at e; obtain ⟨rfl, rfl⟩ := e
    exact ⟨0, _, hio, by omega, fun e => by omega, .inr rfl⟩
   ·rw [hinf i hi he] at e
    exact ⟨t, m, e, Nat.le_refl _, fun _ => ⟨rfl, upd_other _ _ _ _ (by omega)⟩, .inl rfl⟩
 obtain ⟨q1, q2, q3, q4⟩ := r.own o cs ho
 have hlt : ∀ {i : Nat} {x}, (h.set o (.lost (cs.length + 1)) ++ [AObj.own (cs.drop k)])[i]? = some x → i < (h.set o (.lost (cs.length + 1)) ++ [AObj.own (cs.drop k)]).length := fun e => (List.getElem?_eq_some_iff.1 e).1
 refine ⟨⟨?_, ?_, ?_, ?_⟩, st, ⟨rfl, rfl, rfl, Nat.le_refl _, fun _ _ _ => rfl, Nat.le_refl _⟩, ?_, ?_⟩
 ·intro i cs2 hx
  rcases hbound i (hlt hx) with rfl | rfl | ⟨hi, he⟩
  ·rw [hgn] at hx; cases hx
   rw [upd_self]
   have hpl : ∀ j, place ⟨(μ o).b, (μ o).off + k, (μ o).size⟩ j = place (μ o) (k + j) := fun j => by simp [place, Nat.add_assoc]
   refine ⟨q1, by simp only [List.length_drop]; omega, fun j hj => by rw [hpl]; exact q3 (k + j) (by simp only at hj; omega), fun j v hv => ?_⟩
   rw [List.getElem?_drop] at hv
   obtain ⟨a1, d, a2, a3⟩ := q4 _ v hv
   exact ⟨a1, d, by rw [hpl]; exact a2, a3.step st⟩
  ·rw [hgo] at hx; cases hx
  ·obtain ⟨a1, a2, a3, a4⟩ := r.own i cs2 (hget i _ hi he hx)
   rw [upd_other _ _ _ _ (by omega)]
   refine ⟨a1, a2, a3, fun j v hv => ?_⟩
   obtain ⟨b1, d, b2, b3⟩ := a4 j v hv
   exact ⟨b1, d, b2, b3.step st⟩
 ·intro i cs2 hx j v hv
  rcases hbound i (hlt hx) with rfl | rfl | ⟨hi, he⟩
  ·rw [hgn] at hx; cases hx
  ·rw [hgo] at hx; cases hx
  ·obtain ⟨b1, d, b2, b3⟩ := r.ro i cs2 (hget i _ hi he hx) j v hv
   rw [upd_other _ _ _ _ (by omega)]
   exact ⟨b1, d, b2, b3.step st⟩
 ·intro i es hx
  rcases hbound i (hlt hx) with rfl | rfl | ⟨hi, he⟩
  ·rw [hgn] at hx; cases hx
  ·rw [hgo] at hx; cases hx
  ·obtain ⟨a1, ms, ck, a2, a3, a4⟩ := r.mp i es (hget i _ hi he hx)
   rw [upd_other _ _ _ _ (by omega)]
   refine ⟨a1, ms, ck, a2, a3, fun j k' v hv => ?_⟩
   obtain ⟨m, b2, b1, b3, b4⟩ := a4 j k' v hv
   exact ⟨m, b2, b1, b3.step st, b4.step st⟩
 ·intro a b t m t' m' h1 ht h2 hz hne hb
  have back : ∀ i t m, inf (h.set o (.lost (cs.length + 1)) ++ [AObj.own (cs.drop k)]) i = some (t, m) → t ≠ 3 → (i = h.length ∧ t = 0) ∨ (i < h.length ∧ i ≠ o ∧ inf h i = some (t, m)) := fun i t m e h3 => by
   rcases hbound i (inf_lt e) with rfl | rfl | ⟨hi, he⟩
   ·rw [hinfn] at e; simp at e; exact .inl ⟨rfl, e.1.symm⟩
   ·rw [hinfo] at e; simp at e; omega
   ·rw [hinf i hi he] at e; exact .inr ⟨hi, he, e⟩
  rcases back a t m h1 ht.2 with ⟨rfl, rfl⟩ | ⟨ha, ha2, ha3⟩
  ·rcases back b t' m' h2 hz.2 with ⟨rfl, _⟩ | ⟨hb1, hb2, hb3⟩
   ·exact hne rfl
   ·rw [upd_self, upd_other _ _ _ _ (by omega)] at hb
    exact r.sep o b 0 _ t' m' hio (by omega) hb3 hz (Ne.symm hb2) hb
  ·rcases back b t' m' h2 hz.2 with ⟨rfl, _⟩ | ⟨hb1, hb2, hb3⟩
   ·rw [upd_self, upd_other _ _ _ _ (by omega)] at hb
    exact r.sep a o t m 0 _ ha3 ht hio (by omega) ha2 hb
   ·rw [upd_other _ _ _ _ (by omega), upd_other _ _ _ _ (by omega)] at hb
    exact r.sep a b t m t' m' ha3 ht hb3 hz hne hb
 ·rintro b ⟨i, t, m, e, ht, hb⟩
  rcases hbound i (inf_lt e) with rfl | rfl | ⟨hi, he⟩
  ·rw [upd_self] at hb; exact .inl ⟨o, 0, _, hio, by omega, hb⟩
  ·rw [hinfo] at e; simp at e; omega
  ·rw [upd_other _ _ _ _ (by omega)] at hb; rw [hinf i hi he] at e; exact .inl ⟨i, t, m, e, ht, hb⟩
 ·rintro b ⟨i, t, m, e, ht, hb⟩
  rcases hbound i (inf_lt e) with rfl | rfl | ⟨hi, he⟩
  ·rw [upd_self] at hb; exact .inl ⟨o, 0, _, hio, by omega, hb⟩
  ·rw [hinfo] at e; simp at e; omega
  ·rw [upd_other _ _ _ _ (by omega)] at hb; rw [hinf i hi he] at e; exact .inl ⟨i, t, m, e, ht, hb⟩
theorem upd_same (μ : Mu) (o : Nat) : μ.upd o (μ o) = μ := by funext i; unfold Mu.upd; split <;> simp_all
theorem Tr.wrote {μ h w} (r : Rel μ h w) {o : Nat} {cs cs' : List AVal} (ho : h[o]? = some (.own cs)) (hl : cs'.length = cs.length) {w' : World}
  (hos : w'.os = w.os) (htp : w'.tape = w.tape) (hout : w'.output = w.output ∧ w.drawn ≤ w'.drawn) (hsz : w'.heap.size = w.heap.size) (hblk : ∀ k, k ≠ (μ o).b → w'.heap[k]? = w.heap[k]?)
  (hall : cs'.all AVal.isCell = true)
  (hthere : ∀ i, (μ o).off + i < (μ o).size → (w'.cell? (place (μ o) i)).isSome = true ∧ w'.frozen? (place (μ o) i) = false)
  (hcs : ∀ (i : Nat) v, cs'[i]? = some v → ∃ d, w'.cell? (place (μ o) i) = some d ∧ VR μ h v d) :
  Tr μ h w μ (h.set o (.own cs')) w' := by
 have hr := r.own o cs ho
 have := Tr.turned r ho (μ o) (by omega) (fun _ => rfl) hos htp hout (by omega) (fun k _ => hblk k) (.inl rfl) (by omega) (by omega) hall hthere hcs
 rwa [upd_same] at this
theorem setCells_blocks (b : Nat) : ∀ (vs : List Value) (o : Nat) (w : World), (w.setCells b o vs).os = w.os ∧ (w.setCells b o vs).tape = w.tape ∧ ((w.setCells b o vs).output = w.output ∧ w.drawn ≤ (w.setCells b o vs).drawn) ∧
  (w.setCells b o vs).heap.size = w.heap.size ∧ ∀ k, k ≠ b → (w.setCells b o vs).heap[k]? = w.heap[k]?
 | [], o, w => ⟨rfl, rfl, ⟨rfl, Nat.le_refl _⟩, rfl, fun _ _ => rfl⟩
 | v :: r, o, w => by
  obtain ⟨h1, h2, h3, h4, h5⟩ := setCells_blocks b r (o + 1) (w.setCell ⟨b, o, none⟩ v)
  refine ⟨h1, h2, h3, h4.trans (by simp [World.setCell]), fun k hk => (h5 k hk).trans ?_⟩
  exact Go.RowKit.Below.heap_setCell _ _ _ _ hk
theorem Tr.putN {μ h w} (r : Rel μ h w) {o n off : Nat} {vs : List AVal} {ds : List Value} {h' : H} (e : putN h (some o) n off vs = some h') (hd : VRs μ h vs ds)
  (hall : vs.all AVal.isCell = true) : inf h o = some (0, n) ∧ off + vs.length ≤ n ∧
  (∀ j, j < ds.length → (w.cell? (place (μ o) (off + j))).isSome = true ∧ w.frozen? (place (μ o) (off + j)) = false) ∧ (∀ d ∈ ds, d.oneCell' = true) ∧
  Tr μ h w μ h' (w.setCells (μ o).b ((μ o).off + off) ds) := by
 unfold Cl.putN at e
 simp only [Option.bind_eq_some_iff] at e
 obtain ⟨cs, hc, he⟩ := e
 split at he <;> cases he
 next hk =>
 obtain ⟨hi, hl, ho⟩ := owned_inf hc
 obtain ⟨h1, h2, h3, h4⟩ := r.own o cs ho
 have hdl := hd.len
 have hth : ∀ j, j < ds.length → (w.cell? (place (μ o) (off + j))).isSome = true ∧ w.frozen? (place (μ o) (off + j)) = false := fun j hj => h3 (off + j) (by omega)
 refine ⟨hi, by omega, hth, fun d hd' => ?_, ?_⟩
 ·obtain ⟨i, hi', rfl⟩ := List.mem_iff_getElem.1 hd'
  rw [List.all_eq_true] at hall
  have hv := List.getElem?_eq_getElem (l := vs) (i := i) (by omega)
  obtain ⟨d, h5, h6⟩ := hd.get hv
  rw [List.getElem?_eq_getElem hi'] at h5
  cases h5
  exact h6.cell (hall _ (List.getElem_mem _))
 ·have hwc : ∀ j, j < ds.length → (w.cell? ⟨(μ o).b, (μ o).off + off + j, none⟩).isSome = true := fun j hj => by
   have := (hth j hj).1; simp only [place] at this; rwa [Nat.add_assoc]
  obtain ⟨k1, k2, k3, k4, k5⟩ := setCells_blocks (μ o).b ds ((μ o).off + off) w
  have hin : ∀ j (hj : j < ds.length), (w.setCells (μ o).b ((μ o).off + off) ds).cell? (place (μ o) (off + j)) = some ds[j] := fun j hj => by
   have := World.cell?_setCells_in (μ o).b ds ((μ o).off + off) w hwc j hj
   simp only [place]; rwa [Nat.add_assoc] at this
  have hout : ∀ i, (i < off ∨ off + ds.length ≤ i) → (w.setCells (μ o).b ((μ o).off + off) ds).cell? (place (μ o) i) = w.cell? (place (μ o) i) := fun i hi' =>
   World.cell?_setCells_out _ _ _ _ _ fun _ _ => by simp only [place]; omega
  have hspl : (splice cs off vs).length = cs.length := by simp [splice]; omega
  have hsp : ∀ i v, (splice cs off vs)[i]? = some v → (i < off ∧ cs[i]? = some v) ∨ (off ≤ i ∧ i < off + vs.length ∧ vs[i - off]? = some v) ∨ (off + vs.length ≤ i ∧ cs[i]? = some v) := fun i v hv => by
   unfold splice at hv
   rw [List.append_assoc, List.getElem?_append] at hv
   have ht : (cs.take off).length = off := by simp; omega
   rw [ht] at hv
   split at hv
   ·next hlt => rw [List.getElem?_take, if_pos hlt] at hv; exact .inl ⟨hlt, hv⟩
   ·next hge =>
    rw [List.getElem?_append] at hv
    split at hv
    ·next hlt => exact .inr (.inl ⟨by omega, by omega, hv⟩)
    ·next hge2 =>
     rw [List.getElem?_drop] at hv
     rw [show off + vs.length + (i - off - vs.length) = i by omega] at hv
     exact .inr (.inr ⟨by omega, hv⟩)
  refine Tr.wrote r ho hspl k1 k2 k3 k4 k5 ?_ ?_ ?_
  ·rw [List.all_eq_true] at hall ⊢
   intro v hv
   obtain ⟨i, hi', rfl⟩ := List.mem_iff_getElem.1 hv
   rcases hsp i _ (List.getElem?_eq_getElem hi') with ⟨_, h5⟩ | ⟨_, _, h5⟩ | ⟨_, h5⟩
   ·exact (h4 i _ h5).1
   ·exact hall _ (List.mem_of_getElem? h5)
   ·exact (h4 i _ h5).1
  ·intro i hi'
   rw [World.frozen?_setCells]
   refine ⟨?_, (h3 i hi').2⟩
   by_cases hr : i < off ∨ off + ds.length ≤ i
   ·rw [hout i hr]; exact (h3 i hi').1
   ·have := hin (i - off) (by omega)
    rw [show off + (i - off) = i by omega] at this
    rw [this]; rfl
  ·intro i v hv
   rcases hsp i v hv with ⟨hr, h5⟩ | ⟨hr1, hr2, h5⟩ | ⟨hr, h5⟩
   ·rw [hout i (.inl hr)]; exact (h4 i v h5).2
   ·obtain ⟨d, h6, h7⟩ := hd.get h5
    refine ⟨d, ?_, h7⟩
    have := hin (i - off) (by omega)
    rw [show off + (i - off) = i by omega] at this
    rw [this, ← h6, List.getElem?_eq_getElem]
   ·rw [hout i (.inr (by omega))]; exact (h4 i v h5).2
theorem Tr.grew {μ h w} (r : Rel μ h w) {o : Nat} {cs vs : List AVal} {ds : List Value} (ho : h[o]? = some (.own cs)) (hd : VRs μ h vs ds) (hall : vs.all AVal.isCell = true)
  (hroom : (μ o).off + cs.length + vs.length ≤ (μ o).size) :
  (∀ j, j < ds.length → (w.cell? (place (μ o) (cs.length + j))).isSome = true ∧ w.frozen? (place (μ o) (cs.length + j)) = false) ∧ (∀ d ∈ ds, d.oneCell' = true) ∧
  Tr μ h w μ (h.set o (.own (cs ++ vs))) (w.setCells (μ o).b ((μ o).off + cs.length) ds) := by
 obtain ⟨h1, h2, h3, h4⟩ := r.own o cs ho
 have hdl := hd.len
 have hth : ∀ j, j < ds.length → (w.cell? (place (μ o) (cs.length + j))).isSome = true ∧ w.frozen? (place (μ o) (cs.length + j)) = false := fun j hj => h3 (cs.length + j) (by omega)
 refine ⟨hth, fun d hd' => ?_, ?_⟩
 ·obtain ⟨i, hi', rfl⟩ := List.mem_iff_getElem.1 hd'
  rw [List.all_eq_true] at hall
  have hv := List.getElem?_eq_getElem (l := vs) (i := i) (by omega)
  obtain ⟨d, h5, h6⟩ := hd.get hv
  rw [List.getElem?_eq_getElem hi'] at h5
  cases h5
  exact h6.cell (hall _ (List.getElem_mem _))
 ·have hwc : ∀ j, j < ds.length → (w.cell? ⟨(μ o).b, (μ o).off + cs.length + j, none⟩).isSome = true := fun j hj => by
   have := (hth j hj).1; simp only [place] at this; rwa [Nat.add_assoc]
  obtain ⟨k1, k2, k3, k4, k5⟩ := setCells_blocks (μ o).b ds ((μ o).off + cs.length) w
  have hin : ∀ j (hj : j < ds.length), (w.setCells (μ o).b ((μ o).off + cs.length) ds).cell? (place (μ o) (cs.length + j)) = some ds[j] := fun j hj => by
   have := World.cell?_setCells_in (μ o).b ds ((μ o).off + cs.length) w hwc j hj
   simp only [place]; rwa [Nat.add_assoc] at this
  have hout : ∀ i, (i < cs.length ∨ cs.length + ds.length ≤ i) → (w.setCells (μ o).b ((μ o).off + cs.length) ds).cell? (place (μ o) i) = w.cell? (place (μ o) i) := fun i hi' =>
   World.cell?_setCells_out _ _ _ _ _ fun _ _ => by simp only [place]; omega
  have := Tr.turned (cs' := cs ++ vs) r ho (μ o) (by simp) (fun _ => rfl) k1 k2 k3 (by omega) (fun k _ => k5 k) (.inl rfl) (by omega) (by simp; omega)
   (by
    rw [List.all_append, Bool.and_eq_true]
    refine ⟨?_, hall⟩
    rw [List.all_eq_true]
    intro v hv
    obtain ⟨i, hi', rfl⟩ := List.mem_iff_getElem.1 hv
    exact (h4 i _ (List.getElem?_eq_getElem hi')).1)
   (fun i hi' => by
    rw [World.frozen?_setCells]
    refine ⟨?_, (h3 i hi').2⟩
    by_cases hr : i < cs.length ∨ cs.length + ds.length ≤ i
    ·rw [hout i hr]; exact (h3 i hi').1
    ·have := hin (i - cs.length) (by omega)
     rw [show cs.length + (i - cs.length) = i by omega] at this
     rw [this]; rfl)
   (fun i v hv => by
    rw [List.getElem?_append] at hv
    split at hv
    ·next hlt => rw [hout i (.inl hlt)]; exact (h4 i v hv).2
    ·next hge =>
     obtain ⟨d, h6, h7⟩ := hd.get hv
     refine ⟨d, ?_, h7⟩
     have hlt := (List.getElem?_eq_some_iff.1 h6).1
     have := hin (i - cs.length) hlt
     rw [show cs.length + (i - cs.length) = i by omega] at this
     rw [this, ← h6, List.getElem?_eq_getElem])
  rwa [upd_same] at this
end Go.Proofs.Ytcoampecbpiecaa.Cl
set_option linter.unusedVariables false
set_option linter.unusedSimpArgs false
namespace Go.Proofs.Ytcoampecbpiecaa.Cl
open Go
def tdOf (P : Program) : TypeDesc → TD
 | .int k => .int k
 | .bool => .bool
 | .string => .str
 | .pointer _ => .ptr
 | .slice e => .sl e
 | .array n e => .arr n e
 | .struct fs => bif fs.toList.all (fun f => (P.info? f.type).any fun i => i.size != 0) then .struct (fs.toList.map fun f => (f.offset, f.type)) else .other
 | .func _ _ _ => .func
 | .map k e => .map k e
 | .tuple ts => .tuple ts.toList
 | _ => .other
def zeroOK : TypeDesc → Value → Bool
 | .int k, z => match z with | .int k' n => decide (k' = k) && n == 0 | _ => false
 | .bool, z => match z with | .bool b => !b | _ => false
 | _, _ => true
def infoOf (P : Program) (t : Nat) : TInfo :=
 match P.info? t, P.underlying t with
 | some i, some d => match i.zero with
  | some z => bif ((z.cells.size == i.size) && (z.cells.toList.all fun v => (cv v).isCell)) && zeroOK d z then ⟨tdOf P d, i.size, i.bytes, z.cells.toList.map cv⟩ else TInfo.none
  | none => TInfo.none
 | _, _ => TInfo.none
def tabOf (P : Program) (n : Nat) : Tab := (List.range n).map (infoOf P)
structure TOK (P : Program) (T : Tab) : Prop where
 eq : ∃ n, T = tabOf P n
structure Told (P : Program) (T : Tab) (t : Nat) where
 i : TypeInfo
 d : TypeDesc
 z : Value
 hi : P.info? t = some i
 hd : P.underlying t = some d
 td : (tget T t).d = tdOf P d
 size : (tget T t).size = i.size
 bytes : (tget T t).bytes = i.bytes
 hz : i.zero = some z
 zero : (tget T t).zero = z.cells.toList.map cv
 zsize : z.cells.size = i.size
 zcell : (z.cells.toList.all fun v => (cv v).isCell) = true
 zok : zeroOK d z = true
theorem TOK.told0 {P : Program} {T : Tab} (hT : TOK P T) (t : Nat) (h : tget T t ≠ TInfo.none) : Nonempty (Told P T t) := by
 obtain ⟨n, rfl⟩ := hT.eq
 unfold tget tabOf at *
 by_cases ht : t < n
 ·rw [List.getD_eq_getElem?_getD, List.getElem?_map, List.getElem?_range ht] at h
  simp only [Option.map_some, Option.getD_some] at h
  have e : ((List.range n).map (infoOf P)).getD t TInfo.none = infoOf P t := by
   rw [List.getD_eq_getElem?_getD, List.getElem?_map, List.getElem?_range ht]; rfl
  unfold infoOf at h
  split at h
  ·next i d hi hd =>
   split at h
   ·next z hz =>
    cases hb : ((z.cells.size == i.size) && (z.cells.toList.all fun v => (cv v).isCell)) && zeroOK d z with
    | false => rw [hb] at h; exact absurd rfl h
    | true =>
     have e2 : infoOf P t = ⟨tdOf P d, i.size, i.bytes, z.cells.toList.map cv⟩ := by
      unfold infoOf; simp only [hi, hd, hz, hb, cond_true]
     rw [Bool.and_eq_true, Bool.and_eq_true] at hb
     exact ⟨⟨i, d, z, hi, hd, by unfold tget; rw [e, e2], by unfold tget; rw [e, e2], by unfold tget; rw [e, e2], hz, by unfold tget; rw [e, e2], by simpa using hb.1.1, hb.1.2, hb.2⟩⟩
   ·exact absurd rfl h
  ·exact absurd rfl h
 ·rw [List.getD_eq_getElem?_getD, List.getElem?_map, List.getElem?_eq_none (by simp; omega)] at h
  exact absurd rfl h
theorem TOK.told {P : Program} {T : Tab} (hT : TOK P T) (t : Nat) (h : (tget T t).d ≠ .other) : Nonempty (Told P T t) := hT.told0 t fun e => h (by rw [e]; rfl)
theorem TOK.toldS {P : Program} {T : Tab} (hT : TOK P T) (t : Nat) (h : 0 < (tget T t).size) : Nonempty (Told P T t) := hT.told0 t fun e => by rw [e] at h; simp [TInfo.none] at h
theorem cv_VR {μ h} (v : Value) : VR μ h (cv v) v := by
 cases v with
 | pointer a => cases a <;> simp [cv, VR, PR, Pt.nil]
 | slice a n c =>
  cases a with
  | some a => simp [cv, VR]
  | none => cases n with
   | succ n => simp [cv, VR]
   | zero => cases c with
    | succ n => simp [cv, VR]
    | zero => simp [cv, VR, SR, Sl.nil]
 | map r => cases r <;> simp [cv, VR, MR]
 | _ => simp [cv, VR]
theorem cvs_VR {μ h} (l : List Value) : VRs μ h (l.map cv) l := by
 refine VRs.mk (by simp) fun i v d h1 h2 => ?_
 rw [List.getElem?_map, h2] at h1
 cases h1
 exact cv_VR d
section
variable {P : Program} {T : Tab} {μ : Mu} {h : H} {w : World}
theorem tdOf_int {d k} (e : TD.int k = tdOf P d) : d = .int k := by
 cases d <;> simp [tdOf] at e
 ·rw [e]
 ·next fs => revert e; generalize fs.all _ = b; cases b <;> simp
theorem tdOf_bool {d} (e : TD.bool = tdOf P d) : d = .bool := by
 cases d <;> simp [tdOf] at e
 ·rfl
 ·next fs => revert e; generalize fs.all _ = b; cases b <;> simp
theorem tdOf_str {d} (e : TD.str = tdOf P d) : d = .string := by
 cases d <;> simp [tdOf] at e
 ·rfl
 ·next fs => revert e; generalize fs.all _ = b; cases b <;> simp
theorem tdOf_ptr {d} (e : TD.ptr = tdOf P d) : ∃ u, d = .pointer u := by
 cases d <;> simp [tdOf] at e
 ·exact ⟨_, rfl⟩
 ·next fs => revert e; generalize fs.all _ = b; cases b <;> simp
theorem tdOf_sl {d x} (e : TD.sl x = tdOf P d) : d = .slice x := by
 cases d <;> simp [tdOf] at e
 ·rw [e]
 ·next fs => revert e; generalize fs.all _ = b; cases b <;> simp
theorem tdOf_func {d} (e : TD.func = tdOf P d) : ∃ a b c, d = .func a b c := by
 cases d <;> simp [tdOf] at e
 ·next fs => revert e; generalize fs.all _ = b; cases b <;> simp
 ·exact ⟨_, _, _, rfl⟩
theorem tdOf_map {d k x} (e : TD.map k x = tdOf P d) : d = .map k x := by
 cases d <;> simp [tdOf] at e
 ·rw [e.1, e.2]
 ·next fs => revert e; generalize fs.all _ = b; cases b <;> simp
theorem tdOf_arr {d n x} (e : TD.arr n x = tdOf P d) : d = .array n x := by
 cases d <;> simp [tdOf] at e
 ·rw [e.1, e.2]
 ·next fs => revert e; generalize fs.all _ = b; cases b <;> simp
theorem tdOf_struct {d l} (e : TD.struct l = tdOf P d) : ∃ fs, d = .struct fs ∧ l = fs.toList.map (fun f => (f.offset, f.type)) ∧ ∀ f ∈ fs.toList, ∃ i, P.info? f.type = some i ∧ i.size ≠ 0 := by
 cases d with
 | struct fs =>
  refine ⟨fs, rfl, ?_⟩
  unfold tdOf at e
  cases hb : fs.toList.all (fun f => (P.info? f.type).any fun i => i.size != 0) with
  | false => simp only [hb, cond_false] at e; cases e
  | true =>
   simp only [hb, cond_true] at e
   injection e with e
   refine ⟨e, fun f hf => ?_⟩
   rw [List.all_eq_true] at hb
   have := hb f hf
   cases hi : P.info? f.type with
   | none => rw [hi] at this; simp at this
   | some i => rw [hi] at this; exact ⟨i, rfl, by simpa using this⟩
 | _ => simp [tdOf] at e
theorem place_add (l : Loc) (i j : Nat) : (place l i).add j = place l (i + j) := by
 unfold Addr.add place
 split
 ·next e => subst e; rfl
 ·simp [Nat.add_assoc]
def isRowD : TypeDesc → Bool
 | .struct _ => true
 | .array _ _ => true
 | _ => false
theorem run_isAgg {t d} (hd : P.underlying t = some d) : (isAgg t).run P w = .ok (isRowD d) w := by
 unfold isAgg
 rw [Sem.run_bind, run_underlying hd]
 cases d <;> rfl
theorem run_sizeOf {t i} (hi : P.info? t = some i) : (sizeOf t).run P w = .ok i.size w := by simp [sizeOf, typeInfo, hi]
theorem run_loadCell {t d a v} (hd : P.underlying t = some d) (hn : isRowD d = false) (hc : w.cell? a = some v) :
  (Instr.loadAt t (.pointer (some a))).run P w = .ok v w := by
 simp only [Instr.loadAt, Instr.sureAddr, loadVar, Sem.run_bind, Sem.run_pure, Result.andThen_ok, run_isAgg hd, hn]
 simp [hc]
theorem run_loadRow {t d i a} (hd : P.underlying t = some d) (hn : isRowD d = true) (hi : P.info? t = some i)
  {cs : List Value} (hl : cs.length = i.size) (hc : ∀ (j : Nat) v, cs[j]? = some v → w.cell? (a.add j) = some v) :
  (Instr.loadAt t (.pointer (some a))).run P w = .ok (.agg cs.toArray) w := by
 have := run_loadCells_list (P := P) w a cs hc
 simp only [Instr.loadAt, Instr.sureAddr, loadVar, Sem.run_bind, Sem.run_pure, Result.andThen_ok, run_isAgg hd, hn, if_true, run_sizeOf hi, ← hl, this]
theorem load_cell (r : Rel μ h w) {t d p x v} (hd : P.underlying t = some d) (hn : isRowD d = false) (hp : PR μ h p x) (e : cell h p = some v) :
  ∃ d', (Instr.loadAt t x).run P w = .ok d' w ∧ VR μ h v d' := by
 obtain ⟨_, a, d', rfl, h1, h2⟩ := r.cell hp e
 exact ⟨d', run_loadCell hd hn h1, h2⟩
theorem load_row (r : Rel μ h w) {t} (th : Told P T t) {p x cs} (hn : isRowD th.d = true) (hp : PR μ h p x) (e : range h p.o p.n p.off (tget T t).size = some cs) :
  ∃ d', (Instr.loadAt t x).run P w = .ok d' w ∧ VR μ h (.agg cs) d' := by
 unfold PR at hp
 cases ho : p.o with
 | none => rw [ho] at e; simp [range] at e
 | some o =>
  rw [ho] at hp e
  obtain ⟨_, a, rfl, hp⟩ := hp
  obtain ⟨⟨t', ht', _⟩, h1, h2, h3, ds, h4, h5, h6⟩ := r.range e
  obtain rfl := (hp _ _ ht').2 rfl
  refine ⟨.agg ds.toArray, run_loadRow th.hd hn th.hi (by rw [h4, th.size]) fun j v hv => by rw [place_add]; exact h6 j v hv, ?_⟩
  simp only [VR]; exact ⟨_, rfl, h5, h3⟩
theorem ldT_sound (hT : TOK P T) (r : Rel μ h w) {t p x K} (hp : PR μ h p x) (H : ldT T t p h K) : ∃ v d', (Instr.loadAt t x).run P w = .ok d' w ∧ K v ∧ VR μ h v d' := by
 unfold ldT at H
 have hk : (tget T t).d ≠ .other := fun e => by rw [e] at H; exact H
 obtain ⟨th⟩ := hT.told t hk
 have htd := th.td
 split at H
 ·next k e =>
  obtain ⟨n, h1, h2⟩ := H
  obtain ⟨d', h3, h4⟩ := load_cell (P := P) r th.hd (by rw [tdOf_int (P := P) (d := th.d) (by rw [← htd, e])]; rfl) hp h1
  exact ⟨_, d', h3, h2, h4⟩
 ·next e =>
  obtain ⟨n, h1, h2⟩ := H
  obtain ⟨d', h3, h4⟩ := load_cell (P := P) r th.hd (by rw [tdOf_bool (P := P) (d := th.d) (by rw [← htd, e])]; rfl) hp h1
  exact ⟨_, d', h3, h2, h4⟩
 ·next e =>
  obtain ⟨n, h1, h2⟩ := H
  obtain ⟨d', h3, h4⟩ := load_cell (P := P) r th.hd (by rw [tdOf_sl (P := P) (d := th.d) (by rw [← htd, e])]; rfl) hp h1
  exact ⟨_, d', h3, h2, h4⟩
 ·next e =>
  obtain ⟨n, h1, h2⟩ := H
  obtain ⟨u, hu⟩ := tdOf_ptr (P := P) (d := th.d) (by rw [← htd, e])
  obtain ⟨d', h3, h4⟩ := load_cell (P := P) r th.hd (by rw [hu]; rfl) hp h1
  exact ⟨_, d', h3, h2, h4⟩
 ·next e =>
  obtain ⟨n, h1, h2⟩ := H
  obtain ⟨d', h3, h4⟩ := load_row r th (by rw [tdOf_arr (P := P) (d := th.d) (by rw [← htd, e])]; rfl) hp h1
  exact ⟨_, d', h3, h2, h4⟩
 ·next e =>
  obtain ⟨n, h1, h2⟩ := H
  obtain ⟨fs, hu, _⟩ := tdOf_struct (P := P) (d := th.d) (by rw [← htd, e])
  obtain ⟨d', h3, h4⟩ := load_row r th (by rw [hu]; rfl) hp h1
  exact ⟨_, d', h3, h2, h4⟩
 ·next e =>
  obtain ⟨n, h1, h2⟩ := H
  obtain ⟨d', h3, h4⟩ := load_cell (P := P) r th.hd (by rw [tdOf_str (P := P) (d := th.d) (by rw [← htd, e])]; rfl) hp h1
  exact ⟨_, d', h3, h2, h4⟩
 ·next e =>
  obtain ⟨n, h1, h2⟩ := H
  obtain ⟨_, _, _, hu⟩ := tdOf_func (P := P) (d := th.d) (by rw [← htd, e])
  obtain ⟨d', h3, h4⟩ := load_cell (P := P) r th.hd (by rw [hu]; rfl) hp h1
  exact ⟨_, d', h3, h2, h4⟩
 ·next e =>
  obtain ⟨n, h1, h2⟩ := H
  obtain ⟨d', h3, h4⟩ := load_cell (P := P) r th.hd (by rw [tdOf_map (P := P) (d := th.d) (by rw [← htd, e])]; rfl) hp h1
  exact ⟨_, d', h3, h2, h4⟩
 ·exact H.elim
end
end Go.Proofs.Ytcoampecbpiecaa.Cl
set_option linter.unusedVariables false
set_option linter.unusedSimpArgs false
namespace Go.Proofs.Ytcoampecbpiecaa.Cl
open Go
section
variable {P : Program} {T : Tab} {μ : Mu} {h : H} {w : World}
theorem splice_one (cs : List AVal) (k : Nat) (v : AVal) (hk : k < cs.length) : splice cs k [v] = cs.set k v := by
 unfold splice
 apply List.ext_getElem?
 intro i
 rw [List.append_assoc, List.getElem?_append, List.getElem?_set]
 have ht : (cs.take k).length = k := by simp; omega
 rw [ht]
 by_cases h1 : i < k
 ·rw [if_pos h1, List.getElem?_take, if_pos h1, if_neg (by omega)]
 ·rw [if_neg h1]
  by_cases h2 : k = i
  ·subst h2; simp [hk]
  ·rw [if_neg h2, List.getElem?_append, if_neg (by simp; omega), List.getElem?_drop]
   congr 1
   simp
   omega
theorem put1_N {p : Pt} {v : AVal} {h' : H} (e : put1 h p v = some h') : putN h p.o p.n p.off [v] = some h' := by
 unfold put1 at e
 unfold putN
 split at e
 ·next o ho =>
  simp only [Option.bind_eq_some_iff] at e ⊢
  obtain ⟨cs, h1, h2⟩ := e
  refine ⟨cs, h1, ?_⟩
  split at h2 <;> cases h2
  next hl => rw [splice_one _ _ _ hl]; simp; omega
 ·cases e
theorem run_storeVar {t i} (hi : P.info? t = some i) {v : Value} (hs : v.cells.size = i.size) (a : Addr) :
  (storeVar t a v).run P w = (storeCells a v.cells.toList 0).run P w := by
 simp [storeVar, run_sizeOf hi, hs]
theorem store_cells (r : Rel μ h w) {p : Pt} {x : Value} (hp : PR μ h p x) {vs : List AVal} {ds : List Value} (hd : VRs μ h vs ds) (hall : vs.all AVal.isCell = true) {h' : H}
  (e : putN h p.o p.n p.off vs = some h') : ∃ a w', x = .pointer (some a) ∧ (storeCells a ds 0).run P w = .ok () w' ∧ Tr μ h w μ h' w' := by
 unfold PR at hp
 cases ho : p.o with
 | none => rw [ho] at e; simp [putN] at e
 | some o =>
  rw [ho] at hp e
  obtain ⟨_, a, rfl, hp⟩ := hp
  obtain ⟨h1, h2, h3, h4, h5⟩ := Tr.putN r e hd hall
  obtain rfl := (hp _ _ h1).2 rfl
  refine ⟨_, _, rfl, ?_, h5⟩
  exact run_storeCells_cells (P := P) (μ o).b ((μ o).off + p.off) ds 0 w (fun j hj => by have := (h3 j hj).1; simp only [place] at this; rwa [Nat.add_zero, Nat.add_assoc])
   (fun j hj => by have := (h3 j hj).2; simp only [place] at this; rwa [Nat.add_zero, Nat.add_assoc]) h4
theorem cells_of_isCell {v : AVal} {x : Value} (hv : VR μ h v x) (hc : v.isCell = true) : x.cells = #[x] := by
 have := hv.cell hc
 cases x <;> simp_all [Value.oneCell', Value.cells]
theorem stT_sound (hT : TOK P T) (r : Rel μ h w) {t p x v x' K} (hp : PR μ h p x) (hv : VR μ h v x') (H : stT T t p v h K) :
  ∃ w' h', (Instr.storeAt t x x').run P w = .ok () w' ∧ K h' ∧ Tr μ h w μ h' w' := by
 unfold stT at H
 cases hA : isAggT T t with
 | true =>
  rw [hA] at H
  simp only [cond_true] at H
  have hk : (tget T t).d ≠ .other := fun e => by unfold isAggT at hA; rw [e] at hA; cases hA
  obtain ⟨th⟩ := hT.told t hk
  split at H
  ·next cs =>
   obtain ⟨h', hl, he, hK⟩ := H
   simp only [VR] at hv
   obtain ⟨ds, rfl, hds, hall⟩ := hv
   obtain ⟨a, w', rfl, h1, h2⟩ := store_cells (P := P) r hp hds hall he
   refine ⟨w', h', ?_, hK, h2⟩
   have hs : (Value.agg ds).cells.size = th.i.size := by
    rw [← th.size, ← hl, ← hds.len]; simp [Value.cells]
   simp only [Instr.storeAt, Instr.sureAddr, Sem.run_bind, Sem.run_pure, Result.andThen_ok, run_storeVar th.hi hs]
   exact h1
  ·exact H.elim
 | false =>
  rw [hA] at H
  simp only [cond_false] at H
  cases hb : (v.isCell && (tget T t).size == 1) with
  | false => rw [hb] at H; exact H.elim
  | true =>
   rw [hb] at H
   simp only [cond_true] at H
   rw [Bool.and_eq_true] at hb
   obtain ⟨hc, hs⟩ := hb
   have hs : (tget T t).size = 1 := by simpa using hs
   obtain ⟨th⟩ := hT.toldS t (by omega)
   obtain ⟨h', he, hK⟩ := H
   obtain ⟨a, w', rfl, h1, h2⟩ := store_cells (P := P) r hp (vs := [v]) (ds := [x']) (VRs.cons hv VRs.nil) (by simp [hc]) (put1_N he)
   refine ⟨w', h', ?_, hK, h2⟩
   have hcs := cells_of_isCell hv hc
   have hs' : x'.cells.size = th.i.size := by rw [hcs, ← th.size, hs]; rfl
   simp only [Instr.storeAt, Instr.sureAddr, Sem.run_bind, Sem.run_pure, Result.andThen_ok, run_storeVar th.hi hs', hcs]
   exact h1
theorem run_newRow (e : TypeId) (c : Array Value) : (newRow e c).run P w = .ok ⟨w.heap.size, 0, none⟩ (w.alloc (.cells c e)) := rfl
theorem newPt_PR (c : Nat) (x : List AVal) : PR (μ.upd h.length ⟨w.heap.size, 0, c⟩) (h ++ [.own x]) ⟨some h.length, x.length, 0⟩ (.pointer (some ⟨w.heap.size, 0, none⟩)) := by
 refine ⟨by unfold inf; simp, _, rfl, fun t m e => ?_⟩
 unfold inf at e
 simp at e
 refine ⟨by simp; omega, fun _ => ?_⟩
 rw [upd_self]
 rfl
theorem alloc_sound (hT : TOK P T) (r : Rel μ h w) {t} (hk : tget T t ≠ TInfo.none) : ∃ x w' μ', (Instr.alloc t true (.tuple #[])).run P w = .ok x w' ∧
  Tr μ h w μ' (h ++ [.own (tget T t).zero]) w' ∧ PR μ' (h ++ [.own (tget T t).zero]) ⟨some h.length, (tget T t).zero.length, 0⟩ x := by
 obtain ⟨th⟩ := hT.told0 t hk
 have hz : (zeroValue t).run P w = .ok th.z w := by simp [zeroValue, typeInfo, th.hi, th.hz]
 have hall : (tget T t).zero.all AVal.isCell = true := by rw [th.zero]; simpa [List.all_map] using th.zcell
 refine ⟨_, _, _, ?_, Tr.new r (tget T t).zero th.z.cells t th.z.cells.toList (by rw [th.zero]; exact cvs_VR _) hall ⟨[], by simp⟩, newPt_PR _ _⟩
 simp only [Instr.alloc, Sem.run_bind, hz, Result.andThen_ok, newVar, run_newRow, Sem.run_pure]
theorem box_sound (r : Rel μ h w) {t} {cs : List AVal} {x : Value} (hd : VRs μ h cs x.cells.toList) (hall : cs.all AVal.isCell = true) : ∃ y w' μ', (Instr.box t x).run P w = .ok y w' ∧
  Tr μ h w μ' (h ++ [.own cs]) w' ∧ PR μ' (h ++ [.own cs]) ⟨some h.length, cs.length, 0⟩ y := by
 refine ⟨_, _, _, ?_, Tr.new r cs x.cells t x.cells.toList hd hall ⟨[], by simp⟩, newPt_PR _ _⟩
 simp only [Instr.box, Sem.run_bind, Result.andThen_ok, newVar, run_newRow, Sem.run_pure]
theorem foldl_set (cs : List Value) : ∀ (k off : Nat) (c : Array Value), off + k + cs.length ≤ c.size →
  ((cs.zipIdx k).foldl (fun a (p : Value × Nat) => a.setIfInBounds (off + p.2) p.1) c).toList = c.toList.take (off + k) ++ cs ++ c.toList.drop (off + k + cs.length) := by
 induction cs with
 | nil => intro k off c hl; simp
 | cons x cs ih =>
  intro k off c hl
  simp only [List.length_cons] at hl
  simp only [List.zipIdx_cons, List.foldl_cons]
  rw [ih (k + 1) off _ (by simp; omega)]
  have hlt : off + k < c.toList.length := by simp; omega
  rw [Array.toList_setIfInBounds]
  have e1 : (c.toList.set (off + k) x).take (off + (k + 1)) = c.toList.take (off + k) ++ [x] := by
   rw [show off + (k + 1) = off + k + 1 by omega, List.take_succ_eq_append_getElem (by simpa using hlt)]
   simp [List.take_set_of_le]
  have e2 : (c.toList.set (off + k) x).drop (off + (k + 1) + cs.length) = c.toList.drop (off + k + (cs.length + 1)) := by
   rw [List.drop_set_of_lt (by omega), show off + (k + 1) + cs.length = off + k + (cs.length + 1) by omega]
  rw [e1, e2]
  simp
theorem spl_length {Z vs : List AVal} {off k : Nat} (hv : vs.length = k) (hk : off + k ≤ Z.length) : (spl Z off k vs).length = Z.length := by simp [spl]; omega
theorem fill_sound (r : Rel μ h w) {pl : Nat → Option (Nat × Nat)} {pl' : Nat → Option (Nat × Nat)} {n : Nat} (hT : TOK P T)
  (hpl : ∀ i off t, pl i = some (off, t) → tget T t ≠ TInfo.none → pl' i = some (off, (tget T t).size)) :
  ∀ (ps : List (Nat × AVal)) (ps' : List (Nat × Value)) (Z : List AVal) (c : Array Value) (K : List AVal → Prop),
   ps.length = ps'.length → (∀ (j : Nat) i v i' v', ps[j]? = some (i, v) → ps'[j]? = some (i', v') → i' = i ∧ VR μ h v v') →
   VRs μ h Z c.toList → Z.all AVal.isCell = true → Z.length = n → fillK T pl n ps Z K →
   ∃ cs c', Instr.fill pl' c ps' = some c' ∧ K cs ∧ VRs μ h cs c'.toList ∧ cs.all AVal.isCell = true ∧ cs.length = n
 | [], [], Z, c, K, _, _, hZ, hall, hn, H => ⟨Z, c, rfl, H, hZ, hall, hn⟩
 |(i, v) :: ps, (i', v') :: ps', Z, c, K, hl, hps, hZ, hall, hn, H => by
  obtain ⟨rfl, hv⟩ := hps 0 i v i' v' rfl rfl
  unfold fillK at H
  split at H
  ·exact H.elim
  ·next off t ht =>
   cases hd : decide (off + (tget T t).size ≤ n) with
   | false => rw [hd] at H; exact H.elim
   | true =>
    rw [hd] at H
    simp only [cond_true] at H
    have hle : off + (tget T t).size ≤ n := by simpa using hd
    have hcz : c.size = n := by rw [← hn, ← hZ.len]; simp
    have key : ∀ (hne : tget T t ≠ TInfo.none) (vs : List AVal) (hvs : vs.length = (tget T t).size), VRs μ h vs v'.cells.toList → vs.all AVal.isCell = true → fillK T pl n ps (spl Z off (tget T t).size vs) K →
      ∃ cs c', Instr.fill pl' c ((i', v') :: ps') = some c' ∧ K cs ∧ VRs μ h cs c'.toList ∧ cs.all AVal.isCell = true ∧ cs.length = n := by
     intro hne vs hvs hVv hVa H
     have hp := hpl _ _ _ ht hne
     have hsz : v'.cells.size = (tget T t).size := by rw [← hvs, ← hVv.len]; simp
     have hfold := foldl_set v'.cells.toList 0 off c (by simp; omega)
     simp only [Nat.add_zero] at hfold
     have hcl : v'.cells.toList.length = (tget T t).size := by simp [hsz]
     rw [hcl] at hfold
     obtain ⟨cs, c', h1, h2, h3, h4, h5⟩ := fill_sound r hT hpl ps ps' (spl Z off (tget T t).size vs) (v'.cells.zipIdx.foldl (fun a (p : Value × Nat) => a.setIfInBounds (off + p.2) p.1) c) K (by simpa using hl)
      (fun j i v i' v' a b => hps (j + 1) i v i' v' (by simpa using a) (by simpa using b))
      (by
       rw [← Array.foldl_toList, Array.toList_zipIdx, hfold]
       exact ((hZ.take off).append hVv).append (hZ.drop _))
      (by
       rw [List.all_eq_true] at *
       intro x hx
       simp only [spl, List.mem_append] at hx
       rcases hx with (hx | hx) | hx
       ·exact hall x (List.mem_of_mem_take hx)
       ·exact hVa x hx
       ·exact hall x (List.mem_of_mem_drop hx))
      (by rw [spl_length hvs (by omega), hn]) H
     refine ⟨cs, c', ?_, h2, h3, h4, h5⟩
     unfold Instr.fill
     simp only [hp]
     rw [if_neg (by simp [hsz]; omega)]
     exact h1
    cases hA : isAggT T t with
    | true =>
     rw [hA] at H
     simp only [cond_true] at H
     split at H
     ·next cs =>
      simp only [VR] at hv
      obtain ⟨ds, rfl, hds, hca⟩ := hv
      exact key (fun e => by rw [isAggT, e] at hA; cases hA) cs H.1 hds hca H.2
     ·exact H.elim
    | false =>
     rw [hA] at H
     simp only [cond_false] at H
     cases hb : (v.isCell && (tget T t).size == 1) with
     | false => rw [hb] at H; exact H.elim
     | true =>
      rw [hb] at H
      simp only [cond_true] at H
      rw [Bool.and_eq_true] at hb
      have hs : (tget T t).size = 1 := by simpa using hb.2
      refine key (fun e => by rw [e] at hs; cases hs) [v] (by simp [hs]) ?_ (by simp [hb.1]) (by rw [hs]; exact H)
      rw [cells_of_isCell hv hb.1]
      exact VRs.cons hv VRs.nil
theorem parts_spec {fr : Frame} {a : Act} (hf : VRs μ h fr a.tmps.toList) (hev : ∀ x, VR μ h (ev fr x) (a.eval x)) (ps : Array (Nat × Operand)) :
  (parts ps fr).length = (ps.map fun (p : Nat × Operand) => (p.1, a.eval p.2)).toList.length ∧
  ∀ (j : Nat) i v i' v', (parts ps fr)[j]? = some (i, v) → (ps.map fun (p : Nat × Operand) => (p.1, a.eval p.2)).toList[j]? = some (i', v') → i' = i ∧ VR μ h v v' := by
 refine ⟨by simp [parts], fun j i v i' v' h1 h2 => ?_⟩
 simp only [parts, List.getElem?_map, Array.toList_map] at h1 h2
 cases hq : ps.toList[j]? with
 | none => rw [hq] at h1; cases h1
 | some q =>
  rw [hq] at h1 h2
  simp at h1 h2
  obtain ⟨rfl, rfl⟩ := h1
  obtain ⟨rfl, rfl⟩ := h2
  exact ⟨rfl, hev _⟩
theorem all_zero {t : Nat} (th : Told P T t) : (tget T t).zero.all AVal.isCell = true := by rw [th.zero]; simpa [List.all_map] using th.zcell
theorem zero_VRs {t : Nat} (th : Told P T t) : VRs μ h (tget T t).zero th.z.cells.toList := by rw [th.zero]; exact cvs_VR _
theorem zero_len {t : Nat} (th : Told P T t) : (tget T t).zero.length = (tget T t).size := by rw [th.zero, th.size, ← th.zsize]; simp
theorem run_zero {t : Nat} (th : Told P T t) : (zeroValue t).run P w = .ok th.z w := by simp [zeroValue, typeInfo, th.hi, th.hz]
theorem flatten_rep_length (n : Nat) (z : List AVal) : (List.replicate n z).flatten.length = n * z.length := by simp
theorem rep_get {α : Type} (z : List α) : ∀ (n i : Nat), i < n * z.length → (List.replicate n z).flatten[i]? = z[i % z.length]?
 | 0, i, h => by simp at h
 | n + 1, i, h => by
  rw [List.replicate_succ, List.flatten_cons, List.getElem?_append]
  split
  ·next hl => rw [Nat.mod_eq_of_lt hl]
  ·next hl =>
   rw [Nat.succ_mul] at h
   rw [rep_get z n (i - z.length) (by omega)]
   congr 1
   have : 0 < z.length := by
    rcases Nat.eq_zero_or_pos z.length with e | e
    ·rw [e] at h; omega
    ·exact e
   conv => rhs; rw [show i = (i - z.length) + z.length by omega, Nat.add_mod_right]
theorem zeros_get (z : Array Value) (n i : Nat) (hz : 0 < z.size) : ((Array.range n).map (z[· % z.size]!)).toList[i]? = if i < n then z.toList[i % z.size]? else none := by
 simp only [Array.toList_map, List.getElem?_map, Array.toList_range]
 by_cases hi : i < n
 ·rw [if_pos hi, List.getElem?_range hi]
  have : i % z.size < z.size := Nat.mod_lt _ hz
  simp [this]
 ·rw [if_neg hi, List.getElem?_eq_none (by simp; omega)]; rfl
theorem zeros_VRs {t : Nat} (th : Told P T t) (hs : 0 < (tget T t).size) (n : Nat) :
  VRs μ h (List.replicate n (tget T t).zero).flatten ((Array.range (n * (tget T t).size)).map (th.z.cells[· % th.z.cells.size]!)).toList := by
 have hzl : (tget T t).zero.length = (tget T t).size := zero_len th
 have hzs : th.z.cells.size = (tget T t).size := by rw [th.zsize, th.size]
 refine VRs.mk (by simp [hzl]) fun i v d h1 h2 => ?_
 rw [zeros_get _ _ _ (by omega)] at h2
 split at h2
 ·next hi =>
  rw [rep_get _ _ _ (by rw [hzl]; exact hi), hzl] at h1
  rw [hzs] at h2
  obtain ⟨d', h3, h4⟩ := (zero_VRs (μ := μ) (h := h) th).get h1
  rw [h2] at h3
  cases h3
  exact h4
 ·cases h2
theorem all_rep {z : List AVal} (hz : z.all AVal.isCell = true) (n : Nat) : (List.replicate n z).flatten.all AVal.isCell = true := by
 rw [List.all_eq_true] at *
 intro x hx
 simp only [List.mem_flatten] at hx
 obtain ⟨l, hl, hx⟩ := hx
 rw [List.mem_replicate] at hl
 exact hz x (hl.2 ▸ hx)
theorem mapM_places (fs : List Field) (w : World) (hfs : ∀ f ∈ fs, ∃ i, P.info? f.type = some i) (sz : Field → Nat) (hsz : ∀ f ∈ fs, ∀ i, P.info? f.type = some i → sz f = i.size) :
  (fs.mapM (fun f => (do pure (f.offset, ← sizeOf f.type) : Sem (Nat × Nat)))).run P w = .ok (fs.map fun f => (f.offset, sz f)) w := by
 induction fs with
 | nil => simp [List.mapM_nil]
 | cons f fs ih =>
  obtain ⟨i, hi⟩ := hfs f (by simp)
  have := ih (fun g hg => hfs g (by simp [hg])) (fun g hg => hsz g (by simp [hg]))
  rw [List.mapM_cons]
  simp only [Sem.run_bind, run_sizeOf hi, Result.andThen_ok, Sem.run_pure, this]
  simp [hsz f (by simp) i hi]
theorem build_sound (r : Rel μ h w) (hT : TOK P T) {fr : Frame} {a : Act} (hf : VRs μ h fr a.tmps.toList) (hev : ∀ x, VR μ h (ev fr x) (a.eval x)) {t : Nat} {ps : Array (Nat × Operand)} {K : List AVal → Prop}
  (H : match (tget T t).d with
   | .struct fs => fillK T (fun i => fs[i]?) (tget T t).size (parts ps fr) (tget T t).zero K
   | .arr _ e => bif decide (0 < (tget T e).size) then fillK T (fun i => some (i * (tget T e).size, e)) (tget T t).size (parts ps fr) (tget T t).zero K else False
   | _ => False) :
  ∃ cs x, (Instr.build t (ps.map fun (p : Nat × Operand) => (p.1, a.eval p.2))).run P w = .ok x w ∧ K cs ∧ VR μ h (.agg cs) x := by
 have hk : (tget T t).d ≠ .other := fun e => by rw [e] at H; exact H
 obtain ⟨th⟩ := hT.told t hk
 obtain ⟨hl, hp⟩ := parts_spec (a := a) hf hev ps
 split at H
 ·next fs e =>
  obtain ⟨fs', hu, rfl, hfs⟩ := tdOf_struct (P := P) (d := th.d) (by rw [← th.td, e])
  have hfi : ∀ f ∈ fs'.toList, ∃ i, P.info? f.type = some i := fun f hf => (hfs f hf).imp fun _ h => h.1
  have hm := mapM_places (P := P) fs'.toList w hfi (fun f => ((P.info? f.type).map (·.size)).getD 0) (fun f _ i hi => by simp [hi])
  obtain ⟨cs, c', h1, h2, h3, h4, h5⟩ := fill_sound (P := P) r (pl' := fun i => (fs'.map fun f => (f.offset, ((P.info? f.type).map (·.size)).getD 0))[i]?) hT (fun i off t' he hne => by
    rw [List.getElem?_map] at he
    rw [Array.getElem?_map, ← Array.getElem?_toList]
    cases hq : fs'.toList[i]? with
    | none => rw [hq] at he; cases he
    | some f =>
     rw [hq] at he
     simp at he
     obtain ⟨rfl, rfl⟩ := he
     obtain ⟨tf⟩ := hT.told0 _ hne
     simp [tf.hi, tf.size]) _ _ _ th.z.cells _ hl hp (zero_VRs th) (all_zero th) (zero_len th) H
  refine ⟨cs, .agg c', ?_, h2, by simp only [VR]; exact ⟨_, rfl, h3, h4⟩⟩
  unfold Instr.build
  have hd := th.hd
  rw [hu] at hd
  have hmm : (fs'.mapM (fun f => (do pure (f.offset, ← sizeOf f.type) : Sem (Nat × Nat)))).run P w = .ok (fs'.map fun f => (f.offset, ((P.info? f.type).map (·.size)).getD 0)) w := by
   rw [Array.mapM_eq_mapM_toList, Sem.run_map, hm, Result.andThen_ok]
   congr 1
   apply Array.toList_inj.1
   simp
  simp only [Sem.run_bind, run_zero th, Result.andThen_ok, run_underlying hd, hmm, h1, Sem.run_pure]
 ·next n e' e =>
  have hu := tdOf_arr (P := P) (d := th.d) (by rw [← th.td, e])
  have hd := th.hd
  rw [hu] at hd
  cases hz : decide (0 < (tget T e').size) with
  | false => rw [hz] at H; exact H.elim
  | true =>
  rw [hz] at H
  simp only [cond_true] at H
  obtain ⟨te⟩ := hT.toldS e' (by simpa using hz)
  have hie := te.hi
  obtain ⟨cs, c', h1, h2, h3, h4, h5⟩ := fill_sound (P := P) r (pl' := fun i => some (i * ((P.info? e').map (·.size)).getD 0, ((P.info? e').map (·.size)).getD 0)) hT (fun i off t' he hne => by
    simp at he
    obtain ⟨rfl, rfl⟩ := he
    obtain ⟨tf⟩ := hT.told0 _ hne
    simp [tf.hi, tf.size]) _ _ _ th.z.cells _ hl hp (zero_VRs th) (all_zero th) (zero_len th) H
  refine ⟨cs, .agg c', ?_, h2, by simp only [VR]; exact ⟨_, rfl, h3, h4⟩⟩
  unfold Instr.build
  simp only [hie, Option.map_some, Option.getD_some] at h1
  simp only [Sem.run_bind, run_zero th, Result.andThen_ok, run_underlying hd, run_sizeOf hie, h1, Sem.run_pure]
 ·exact H.elim
end
end Go.Proofs.Ytcoampecbpiecaa.Cl
set_option linter.unusedVariables false
set_option linter.unusedSimpArgs false
namespace Go.Proofs.Ytcoampecbpiecaa.Cl
open Go
section
variable {P : Program} {T : Tab} {μ : Mu} {h : H} {w : World}
theorem newSl_SR {len cap z size : Nat} (hle : len ≤ cap) (hz : 0 < z) (hsize : cap * z ≤ size) {x : List AVal} (hx : x.length = len * z) :
  SR (μ.upd h.length ⟨w.heap.size, 0, size⟩) (h ++ [.own x]) ⟨some h.length, len * z, 0, len, z⟩ (.slice (some ⟨w.heap.size, 0, none⟩) len cap) := by
 refine ⟨by unfold inf; simp, hz, _, _, rfl, hle, fun t m e => ?_⟩
 unfold inf at e
 simp at e
 obtain ⟨rfl, rfl⟩ := e
 have := Nat.mul_le_mul_right z hle
 refine ⟨by simp; omega, fun _ => ⟨by simpa using this, by simp, .inr (.inr ?_), fun _ => ?_⟩⟩
 ·rw [upd_self]; rfl
 ·rw [upd_self]; simpa using hsize
theorem buildSlice_sound (r : Rel μ h w) (hT : TOK P T) {fr : Frame} {a : Act} (hf : VRs μ h fr a.tmps.toList) (hev : ∀ x, VR μ h (ev fr x) (a.eval x)) {t n e : Nat} {ps : Array (Nat × Operand)} {K : Sl → H → Prop}
  (hd : (tget T t).d = .sl e)
  (H : (bif decide (0 < (tget T e).size) && decide (n * (tget T e).size ≤ 10000) then fillK T (fun i => some (i * (tget T e).size, e)) (n * (tget T e).size) (parts ps fr) (List.replicate n (tget T e).zero).flatten fun cs => newS n (tget T e).size cs h K else False)) :
  ∃ x w' h' μ' s, (Instr.buildSlice t n (ps.map fun (p : Nat × Operand) => (p.1, a.eval p.2))).run P w = .ok x w' ∧ K s h' ∧ Tr μ h w μ' h' w' ∧ SR μ' h' s x := by
 obtain ⟨th⟩ := hT.told t (by rw [hd]; simp)
 have hu := tdOf_sl (P := P) (d := th.d) (by rw [← th.td, hd])
 have hdd := th.hd
 rw [hu] at hdd
 obtain ⟨hl, hp⟩ := parts_spec (a := a) hf hev ps
 cases hb : (decide (0 < (tget T e).size) && decide (n * (tget T e).size ≤ 10000)) with
 | false => rw [hb] at H; exact H.elim
 | true =>
  rw [hb] at H
  simp only [cond_true] at H
  rw [Bool.and_eq_true] at hb
  have h0 : 0 < (tget T e).size := by simpa using hb.1
  have h1 : n * (tget T e).size ≤ 10000 := by simpa using hb.2
  obtain ⟨te⟩ := hT.toldS e h0
  obtain ⟨cs, c', k1, k2, k3, k4, k5⟩ := fill_sound (P := P) r (pl' := fun i => some (i * te.i.size, te.i.size)) hT (fun i off t' he hne => by
    simp at he
    obtain ⟨rfl, rfl⟩ := he
    simp [te.size]) _ _ _ _ _ hl hp (zeros_VRs te h0 n) (all_rep (all_zero te) n) (by rw [flatten_rep_length, zero_len te]) H
  unfold newS at k2
  have hcsz : c'.size = n * (tget T e).size := by rw [← k5, ← k3.len]; simp
  refine ⟨_, _, _, _, _, ?_, k2, Tr.new r cs c' e c'.toList k3 k4 ⟨[], by simp⟩, newSl_SR (Nat.le_refl n) h0 (by omega) k5⟩
  unfold Instr.buildSlice
  simp only [Sem.run_bind, run_underlying hdd, Result.andThen_ok, run_sizeOf te.hi]
  rw [if_neg (by rw [← te.size]; omega)]
  rw [te.size] at k1
  by_cases hn : n * te.i.size = 0
  ·rw [if_pos hn]
   have hq : ((Array.range (n * te.i.size)).map ((#[] : Array Value)[· % (#[] : Array Value).size]!)) = ((Array.range (n * te.i.size)).map (te.z.cells[· % te.z.cells.size]!)) := by rw [hn]; simp
   simp only [Sem.run_bind, Sem.run_pure, Result.andThen_ok, hq, k1, run_newRow]
  ·rw [if_neg hn]
   simp only [Sem.run_bind, Sem.run_pure, Result.andThen_ok, run_zero te, k1, run_newRow]
theorem wrap_in {n : Int} (h0 : -9223372036854775808 ≤ n) (h1 : n ≤ 9223372036854775807) : IntKind.i64.wrap n = n := by
 show (if (true && decide (n % 18446744073709551616 ≥ 9223372036854775808)) = true then n % 18446744073709551616 - 18446744073709551616 else n % 18446744073709551616) = n
 rw [Bool.true_and]
 by_cases hc : n % 18446744073709551616 ≥ 9223372036854775808
 ·rw [if_pos (by simpa using hc)]; omega
 ·rw [if_neg (by simpa using hc)]; omega
theorem makeSlice_sound (r : Rel μ h w) (hT : TOK P T) {t e : Nat} {n : Int} {k k' : IntKind} {K : Sl → H → Prop} (hd : (tget T t).d = .sl e)
  (hb : (tget T e).bytes ≤ 256) (h0 : 0 < (tget T e).size) (H : mkS n (tget T e).zero h K) :
  ∃ x w' h' μ' s, (Instr.makeSlice t (.int k n) (.int k' n)).run P w = .ok x w' ∧ K s h' ∧ Tr μ h w μ' h' w' ∧ SR μ' h' s x := by
 obtain ⟨th⟩ := hT.told t (by rw [hd]; simp)
 have hu := tdOf_sl (P := P) (d := th.d) (by rw [← th.td, hd])
 have hdd := th.hd
 rw [hu] at hdd
 obtain ⟨te⟩ := hT.toldS e h0
 obtain ⟨⟨hn0, hn1⟩, hK⟩ := H
 unfold lim at hn1
 have hzl := zero_len te
 have hzs : te.z.cells.size = (tget T e).size := by rw [te.zsize, te.size]
 have hlen : (List.replicate n.toNat (tget T e).zero).flatten.length = n.toNat * (tget T e).size := by rw [flatten_rep_length, hzl]
 refine ⟨_, _, _, _, _, ?_, hK, Tr.new r _ ((Array.range (n.toNat * (tget T e).size)).map (te.z.cells[· % te.z.cells.size]!)) e _ (zeros_VRs te h0 n.toNat) (all_rep (all_zero te) _) ⟨[], by simp⟩,
  by rw [hzl]; exact newSl_SR (Nat.le_refl _) h0 (by simp) hlen⟩
 unfold Instr.makeSlice
 have hw : IntKind.i64.wrap n = n := wrap_in (by omega) (by omega)
 have hinfo : (typeInfo e).run P w = .ok te.i w := by simp [typeInfo, te.hi]
 have hbt : (te.i.bytes : Int) * n ≤ 2 ^ 48 := by
  have : (te.i.bytes : Int) ≤ 256 := by rw [← te.bytes]; omega
  calc (te.i.bytes : Int) * n ≤ 256 * n := Int.mul_le_mul_of_nonneg_right this hn0
   _ ≤ 2 ^ 48 := by omega
 simp only [Sem.run_bind, run_underlying hdd, Result.andThen_ok, asInt, asIntOf, Sem.run_pure, hinfo, hw]
 have hcond : (decide (n < 0) || decide ((te.i.bytes : Int) * n > 2 ^ 48) || decide (n < 0) || decide (n > n)) = false := by
  simp; omega
 have hroom : (askRoom (n.toNat * te.i.bytes)).run P w = .ok () w := by unfold askRoom; split <;> rfl
 rw [if_neg (by simpa using hcond)]
 simp only [Sem.run_bind, hroom, Result.andThen_ok, run_sizeOf te.hi]
 by_cases hn : n.toNat * te.i.size = 0
 ·rw [if_pos hn]
  have hq : ((Array.range (n.toNat * te.i.size)).map ((#[] : Array Value)[· % (#[] : Array Value).size]!)) = ((Array.range (n.toNat * te.i.size)).map (te.z.cells[· % te.z.cells.size]!)) := by rw [hn]; simp
  simp only [Sem.run_bind, Sem.run_pure, Result.andThen_ok, hq, run_newRow, te.size]
 ·rw [if_neg hn]
  simp only [Sem.run_bind, Sem.run_pure, Result.andThen_ok, run_zero te, run_newRow, te.size]
theorem ixS_sound {s : Sl} {x : Value} (hs : SR μ h s x) (hT : TOK P T) {t e : Nat} {k : IntKind} {n : Int} {K : Pt → Prop} (hd : (tget T t).d = .sl e) (H : ixS s (tget T e).size n K) :
  ∃ p y, (Instr.indexAt t x (.int k n)).run P w = .ok y w ∧ K p ∧ PR μ h p y := by
 obtain ⟨th⟩ := hT.told t (by rw [hd]; simp)
 have hu := tdOf_sl (P := P) (d := th.d) (by rw [← th.td, hd])
 have hdd := th.hd
 rw [hu] at hdd
 obtain ⟨⟨h0, h1⟩, hz, ho, hK⟩ := H
 unfold SR at hs
 cases hso : s.o with
 | none => rw [hso] at ho; cases ho
 | some o =>
  rw [hso] at hs
  obtain ⟨hol, hz0, a, cap, rfl, hle, hv⟩ := hs
  obtain ⟨te⟩ := hT.toldS e (by omega)
  refine ⟨_, .pointer (some (a.add (n.toNat * te.i.size))), ?_, hK, ?_⟩
  ·unfold Instr.indexAt
   simp only [Sem.run_bind, asIntOf, Sem.run_pure, Result.andThen_ok, run_underlying hdd, run_sizeOf te.hi]
   rw [if_pos ⟨h0, h1⟩]
   simp only [Sem.run_bind, Sem.run_pure, Result.andThen_ok, run_sizeOf te.hi]
  ·rw [hso]
   refine ⟨hol, _, rfl, fun t m e => ?_⟩
   obtain ⟨k1, k2⟩ := hv t m e
   refine ⟨k1, fun hm => ?_⟩
   obtain ⟨k3, k4, k5, k6⟩ := k2 hm
   rcases k5 with ⟨k5, _⟩ | k5 | k5
   ·exfalso
    have : 0 < s.len * s.sz := Nat.mul_pos (by omega) hz0
    omega
   ·omega
   ·rw [k5, place_add, te.size]
theorem ixA_sound {p : Pt} {x : Value} (hs : PR μ h p x) (hT : TOK P T) {t e len : Nat} {k : IntKind} {n : Int} {K : Pt → Prop} (hd : (tget T t).d = .arr len e) (he : 0 < (tget T e).size) (H : ixA p len (tget T e).size n K) :
  ∃ q y, (Instr.indexAt t x (.int k n)).run P w = .ok y w ∧ K q ∧ PR μ h q y := by
 obtain ⟨th⟩ := hT.told t (by rw [hd]; simp)
 have hu := tdOf_arr (P := P) (d := th.d) (by rw [← th.td, hd])
 have hdd := th.hd
 rw [hu] at hdd
 obtain ⟨⟨h0, h1⟩, ho, hK⟩ := H
 unfold PR at hs
 cases hso : p.o with
 | none => rw [hso] at ho; cases ho
 | some o =>
  rw [hso] at hs
  obtain ⟨hol, a, rfl, hv⟩ := hs
  obtain ⟨te⟩ := hT.toldS e he
  refine ⟨_, .pointer (some (a.add (n.toNat * te.i.size))), ?_, hK, ?_⟩
  ·unfold Instr.indexAt
   simp only [Sem.run_bind, asIntOf, Sem.run_pure, Result.andThen_ok, run_underlying hdd, Instr.sureAddr]
   rw [if_pos ⟨h0, h1⟩]
   simp only [Sem.run_bind, Sem.run_pure, Result.andThen_ok, run_sizeOf te.hi]
  ·unfold PR Pt.add
   simp only [hso]
   refine ⟨hol, _, rfl, fun t m e => ?_⟩
   obtain ⟨k1, k2⟩ := hv t m e
   exact ⟨k1, fun hm => by rw [k2 hm, place_add, te.size]⟩
theorem fieldAt_sound {p : Pt} {x : Value} (hs : PR μ h p x) (hT : TOK P T) {t f off u : Nat} {fs : List (Nat × Nat)} (hd : (tget T t).d = .struct fs) (hf : fs[f]? = some (off, u)) (ho : p.o.isSome = true) :
  ∃ y, (Instr.fieldAt t x f).run P w = .ok y w ∧ PR μ h (p.add off) y := by
 obtain ⟨th⟩ := hT.told t (by rw [hd]; simp)
 obtain ⟨fs', hu, rfl, hfs⟩ := tdOf_struct (P := P) (d := th.d) (by rw [← th.td, hd])
 have hdd := th.hd
 rw [hu] at hdd
 unfold PR at hs
 cases hso : p.o with
 | none => rw [hso] at ho; cases ho
 | some o =>
  rw [hso] at hs
  obtain ⟨hol, a, rfl, hv⟩ := hs
  rw [List.getElem?_map] at hf
  cases hq : fs'.toList[f]? with
  | none => rw [hq] at hf; cases hf
  | some g =>
   rw [hq] at hf
   simp at hf
   obtain ⟨rfl, rfl⟩ := hf
   obtain ⟨i, hi, hi0⟩ := hfs g (List.mem_of_getElem? hq)
   rw [Array.getElem?_toList] at hq
   refine ⟨.pointer (some (a.add g.offset)), ?_, ?_⟩
   ·unfold Instr.fieldAt
    simp only [Sem.run_bind, run_underlying hdd, Result.andThen_ok, hq, Instr.sureAddr, Sem.run_pure, fieldPlace, run_sizeOf hi]
    rw [if_neg hi0]
    simp
   ·unfold PR Pt.add
    simp only [hso]
    refine ⟨hol, _, rfl, fun t m e => ?_⟩
    obtain ⟨k1, k2⟩ := hv t m e
    exact ⟨k1, fun hm => by rw [k2 hm, place_add]⟩
theorem run_sliceBound {k : IntKind} {i : Int} {y : Nat} {c : BoundsCode} (h0 : 0 ≤ i) (h1 : i ≤ y) : (Instr.sliceBound (.int k i) y c).run P w = .ok i.toNat w := by
 unfold Instr.sliceBound
 simp only [Sem.run_bind, asIntOf, Sem.run_pure, Result.andThen_ok]
 rw [if_pos ⟨h0, h1⟩]
 rfl
inductive Bound : Option Value → Int → Int → Prop where
 | told (k : IntKind) (n z : Int) : Bound (some (.int k n)) z n
 | none (z : Int) : Bound none z z
theorem run_sliceBounds {sl : Bool} {len cap : Nat} {lo hi : Option Value} {a b : Int} (hlo : Bound lo 0 a) (hhi : Bound hi len b) (h0 : 0 ≤ a) (h1 : a ≤ b) (h2 : b ≤ cap) :
  (Instr.sliceBounds sl len cap lo hi none).run P w = .ok (a.toNat, b.toNat, cap) w := by
 unfold Instr.sliceBounds
 cases hlo <;> cases hhi <;> simp only [Sem.run_bind, Sem.run_pure, Result.andThen_ok]
 ·rw [run_sliceBound (by omega) h2, Result.andThen_ok, run_sliceBound h0 (by omega)]; rfl
 ·rw [run_sliceBound h0 (by omega)]; simp
 ·rw [run_sliceBound (by omega) h2]; simp
 ·simp
theorem cut_sound {s : Sl} {x : Value} (hs : SR μ h s x) (hT : TOK P T) {t e : Nat} {lo hi : Option Value} {a b : Int} {K : Sl → Prop} (hd : (tget T t).d = .sl e) (he : 0 < (tget T e).size)
  (hlo : Bound lo 0 a) (hhi : Bound hi s.len b) (H : cut s (tget T e).size a b h K) :
  ∃ y s', (Instr.sliceAt t x lo hi none).run P w = .ok y w ∧ K s' ∧ SR μ h s' y := by
 obtain ⟨th⟩ := hT.told t (by rw [hd]; simp)
 have hu := tdOf_sl (P := P) (d := th.d) (by rw [← th.td, hd])
 have hdd := th.hd
 rw [hu] at hdd
 obtain ⟨te⟩ := hT.toldS e he
 obtain ⟨⟨h0, h1⟩, hok, hn, hsm, hK⟩ := H
 unfold SR at hs
 cases hso : s.o with
 | none =>
  rw [hso] at hs
  obtain ⟨hl, rfl⟩ := hs
  have hb : b = 0 := hn hso
  refine ⟨.slice (if (0 : Nat) = a.toNat then none else (none : Option Addr).map (·.add (a.toNat * te.i.size))) (b.toNat - a.toNat) (0 - a.toNat), _, ?_, hK, ?_⟩
  ·unfold Instr.sliceAt Instr.slice
   rw [hl] at hhi
   have hrun := run_sliceBounds (P := P) (w := w) (sl := true) (len := 0) (cap := 0) hlo hhi h0 h1 (by omega)
   simp only [Sem.run_bind, run_underlying hdd, Result.andThen_ok, hrun, run_sizeOf te.hi, Sem.run_pure]
  ·rw [hso]
   refine ⟨by simp; omega, ?_⟩
   have : a.toNat = 0 := by omega
   have : b.toNat = 0 := by omega
   simp_all
 | some o =>
  rw [hso] at hs
  obtain ⟨hol, hz0, ad, cap, rfl, hle, hv⟩ := hs
  obtain ⟨hz, hbn⟩ := hsm (by rw [hso]; simp)
  unfold okS at hok
  simp only [hso, Option.isSome_iff_exists] at hok
  obtain ⟨cs, hcs⟩ := hok
  obtain ⟨⟨t', ht', _⟩, _⟩ := cells_inf hcs
  obtain ⟨_, k2⟩ := hv t' s.n ht'
  obtain ⟨k3, k4, k5, k6⟩ := k2 rfl
  have hbc : b.toNat ≤ cap := by
   rw [hz] at k3
   have : b.toNat * (tget T e).size ≤ cap * (tget T e).size := by omega
   exact Nat.le_of_mul_le_mul_right this he
  refine ⟨.slice (if cap = a.toNat then some ad else (some ad).map (·.add (a.toNat * te.i.size))) (b.toNat - a.toNat) (cap - a.toNat), _, ?_, hK, ?_⟩
  ·unfold Instr.sliceAt Instr.slice
   have hrun := run_sliceBounds (P := P) (w := w) (sl := true) (len := s.len) (cap := cap) hlo hhi h0 h1 (by omega)
   simp only [Sem.run_bind, run_underlying hdd, Result.andThen_ok, hrun, run_sizeOf te.hi, Sem.run_pure]
  ·rw [hso]
   refine ⟨hol, he, (if cap = a.toNat then ad else ad.add (a.toNat * te.i.size)), cap - a.toNat, ?_, by simp; omega, fun t m e1 => ?_⟩
   ·simp only [Option.map_some]
    congr 1
    ·split <;> rfl
    ·omega
   ·obtain ⟨k1, k2⟩ := hv t m e1
    refine ⟨k1, fun hm => ?_⟩
    obtain ⟨k3, k4, k5, k6⟩ := k2 hm
    rw [hz] at k3 k6
    have ha : a.toNat ≤ b.toNat := by omega
    have e2 : (cap - a.toNat) * (tget T e).size = cap * (tget T e).size - a.toNat * (tget T e).size := Nat.sub_mul _ _ _
    have e3 : a.toNat * (tget T e).size ≤ cap * (tget T e).size := Nat.mul_le_mul_right _ (by omega)
    have e4 : (b - a).toNat * (tget T e).size = b.toNat * (tget T e).size - a.toNat * (tget T e).size := by
     rw [← Nat.sub_mul]; congr 1; omega
    have e5 : a.toNat * (tget T e).size ≤ b.toNat * (tget T e).size := Nat.mul_le_mul_right _ ha
    refine ⟨by simp only; omega, by simp only; omega, ?_, fun ht => ?_⟩
    ·rcases k5 with k5 | k5 | k5
     ·exact .inl k5
     ·exact .inr (.inl (by omega))
     ·by_cases hc : cap = a.toNat
      ·exact .inr (.inl (by omega))
      ·rw [if_neg hc, k5, place_add, te.size]
       exact .inr (.inr rfl)
    ·have := k6 ht
     simp only
     omega
theorem cutStr_sound (hT : TOK P T) {s : ByteArray} {t : Nat} {lo hi : Option Value} {a b : Int} {K : ByteArray → Prop} (hd : (tget T t).d = .str) (hlo : Bound lo 0 a) (hhi : Bound hi s.size b) (H : cutStr s a b K) :
  ∃ s', (Instr.sliceAt t (.string s) lo hi none).run P w = .ok (.string s') w ∧ K s' := by
 obtain ⟨th⟩ := hT.told t (by rw [hd]; simp)
 have hu := tdOf_str (P := P) (d := th.d) (by rw [← th.td, hd])
 have hdd := th.hd
 rw [hu] at hdd
 obtain ⟨⟨h0, h1, h2⟩, hK⟩ := H
 refine ⟨_, ?_, hK⟩
 unfold Instr.sliceAt Instr.slice
 have hrun := run_sliceBounds (P := P) (w := w) (sl := false) (len := s.size) (cap := s.size) hlo hhi h0 h1 h2
 simp [Sem.run_bind, run_underlying hdd, Result.andThen_ok, hrun, Sem.run_pure]
theorem cutA_sound (r : Rel μ h w) {p : Pt} {x : Value} (hs : PR μ h p x) (hT : TOK P T) {t e n : Nat} {lo hi : Option Value} {a b : Int} {K : Sl → Prop} (hd : (tget T t).d = .arr n e) (he : 0 < (tget T e).size)
  (hlo : Bound lo 0 a) (hhi : Bound hi n b) (H : cutA p n (tget T e).size a b K) :
  ∃ y s', (Instr.sliceAt t x lo hi none).run P w = .ok y w ∧ K s' ∧ SR μ h s' y := by
 obtain ⟨th⟩ := hT.told t (by rw [hd]; simp)
 have hu := tdOf_arr (P := P) (d := th.d) (by rw [← th.td, hd])
 have hdd := th.hd
 rw [hu] at hdd
 obtain ⟨te⟩ := hT.toldS e he
 obtain ⟨⟨h0, h1, h2⟩, ho, hpn, hK⟩ := H
 unfold PR at hs
 cases hso : p.o with
 | none => rw [hso] at ho; cases ho
 | some o =>
  rw [hso] at hs
  obtain ⟨hol, ad, rfl, hv⟩ := hs
  refine ⟨.slice (some (if n = a.toNat then ad else ad.add (a.toNat * te.i.size))) (b.toNat - a.toNat) (n - a.toNat), _, ?_, hK, ?_⟩
  ·unfold Instr.sliceAt
   have hrun := run_sliceBounds (P := P) (w := w) (sl := false) (len := n) (cap := n) hlo hhi h0 h1 h2
   simp only [Sem.run_bind, run_underlying hdd, Result.andThen_ok, Instr.sureAddr, hrun, run_sizeOf te.hi, Sem.run_pure]
  ·rw [hso]
   refine ⟨hol, he, (if n = a.toNat then ad else ad.add (a.toNat * te.i.size)), n - a.toNat, ?_, by simp; omega, fun t m e1 => ?_⟩
   ·congr 1
    show b.toNat - a.toNat = (b - a).toNat
    omega
   ·obtain ⟨k1, k2⟩ := hv t m e1
    refine ⟨k1, fun hm => ?_⟩
    have k5 := k2 hm
    have ha : a.toNat ≤ b.toNat := by omega
    have e2 : (n - a.toNat) * (tget T e).size = n * (tget T e).size - a.toNat * (tget T e).size := Nat.sub_mul _ _ _
    have e3 : a.toNat * (tget T e).size ≤ n * (tget T e).size := Nat.mul_le_mul_right _ (by omega)
    have e4 : (b - a).toNat * (tget T e).size = b.toNat * (tget T e).size - a.toNat * (tget T e).size := by
     rw [← Nat.sub_mul]; congr 1; omega
    have e5 : a.toNat * (tget T e).size ≤ b.toNat * (tget T e).size := Nat.mul_le_mul_right _ ha
    have e6 : b.toNat * (tget T e).size ≤ n * (tget T e).size := Nat.mul_le_mul_right _ (by omega)
    refine ⟨by simp only; omega, by simp only; omega, ?_, fun ht => ?_⟩
    ·by_cases hc : n = a.toNat
     ·exact .inr (.inl (by omega))
     ·rw [if_neg hc, k5, place_add, te.size]
      exact .inr (.inr rfl)
    ·subst ht
     unfold inf at e1
     split at e1 <;> simp at e1
     next cs hx =>
      obtain ⟨_, q, _⟩ := r.own o cs hx
      simp only
      omega
theorem sread_spec (r : Rel μ h w) {s : Sl} {x : Value} (hs : SR μ h s x) {cs : List AVal} (e : sread h s = some cs) {z : Nat} (hz : s.len ≠ 0 → s.sz = z) :
  ∃ ds : List Value, VRs μ h cs ds ∧ cs.all AVal.isCell = true ∧ ds.length = s.len * z ∧ (Builtin.firstCells z s.len x).run P w = .ok ds.toArray w ∧ (Builtin.lenOf x).run P w = .ok s.len w := by
 unfold SR at hs
 cases hso : s.o with
 | none =>
  rw [hso] at hs
  obtain ⟨hl, rfl⟩ := hs
  unfold sread at e
  rw [hl] at e
  simp at e
  subst e
  exact ⟨[], VRs.nil, rfl, by simp [hl], by simp [Builtin.firstCells], by simp [Builtin.lenOf, hl]⟩
 | some o =>
  rw [hso] at hs
  obtain ⟨hol, hz0, a, cap, rfl, hle, hv⟩ := hs
  by_cases hl : s.len = 0
  ·unfold sread at e
   rw [hl] at e
   simp at e
   subst e
   refine ⟨[], VRs.nil, rfl, by simp [hl], ?_, by simp [Builtin.lenOf]⟩
   have := run_loadCells_list (P := P) w a [] (by simp)
   simp only [Builtin.firstCells, hl, Nat.zero_mul]
   exact this
  ·have hz' := hz hl
   unfold sread at e
   rw [if_neg (by rw [Nat.mul_eq_zero]; omega), hso] at e
   obtain ⟨⟨t, ht, _⟩, h1, h2, h3, ds, h4, h5, h6⟩ := r.range e
   obtain ⟨k1, k2⟩ := hv t _ ht
   obtain ⟨k3, k4, k5, k6⟩ := k2 rfl
   have hpos : 0 < s.len * s.sz := Nat.mul_pos (by omega) hz0
   have ha : a = place (μ o) s.off := by
    rcases k5 with ⟨k5, _⟩ | k5 | k5
    ·omega
    ·omega
    ·exact k5
   refine ⟨ds, h5, h3, by rw [h4, hz'], ?_, by simp [Builtin.lenOf]⟩
   have := run_loadCells_list (P := P) w a ds (fun j v hj => by rw [ha, place_add]; exact h6 j v hj)
   simp only [Builtin.firstCells]
   rw [h4, hz'] at this
   exact this
theorem newSl_SR' {len cap z size : Nat} (hle : len ≤ cap) (hz : 0 < z) (hsize : cap * z ≤ size) {x : List AVal} (hx : x.length = len * z) {o : Nat} (ho : o < h.length) :
  SR (μ.upd o ⟨w.heap.size, 0, size⟩) (h.set o (.own x)) ⟨some o, len * z, 0, len, z⟩ (.slice (some ⟨w.heap.size, 0, none⟩) len cap) := by
 refine ⟨by rw [inf_set, if_pos ⟨rfl, ho⟩]; rfl, hz, _, _, rfl, hle, fun t m e => ?_⟩
 rw [inf_set, if_pos ⟨rfl, ho⟩] at e
 simp at e
 obtain ⟨rfl, rfl⟩ := e
 have := Nat.mul_le_mul_right z hle
 refine ⟨by simp; omega, fun _ => ⟨by simpa using this, by simp, .inr (.inr ?_), fun _ => ?_⟩⟩
 ·rw [upd_self]; rfl
 ·rw [upd_self]; simpa using hsize
theorem zeroCells_size (z : Array Value) (n : Nat) : (Builtin.zeroCells z n).size = n * z.size := by simp [Builtin.zeroCells]
theorem growBy_le (newLen : Nat) : ∀ (k c : Nat), c ≤ 2 * newLen + 1024 → Builtin.growBy newLen k c ≤ 2 * newLen + 1024
 | 0, c, h => h
 | k + 1, c, h => by
  unfold Builtin.growBy
  split
  ·exact h
  ·exact growBy_le newLen k _ (by omega)
theorem nextcap_le (need cap : Nat) (h : cap < need) : Builtin.nextslicecap need cap ≤ 2 * need + 1024 := by
 unfold Builtin.nextslicecap
 split
 ·omega
 ·split
  ·omega
  ·exact growBy_le _ _ _ (by omega)
theorem run_askRoom (n : Nat) : (askRoom n).run P w = .ok () w := by unfold askRoom; split <;> rfl
theorem run_append_grow {t tx ty e : Nat} {ex : Nat} (hdd : P.underlying t = some (.slice e)) (hdx : P.underlying tx = some (.slice ex)) (te : Told P T e) (hb : (tget T e).bytes ≤ 256) (hb0 : 0 < (tget T e).bytes)
  {base : Option Addr} {len cap m : Nat} {x : Value} {olds news : List Value} (hcap : cap < len + m) (hlim : ((len + m : Nat) : Int) ≤ lim)
  (hlen : ∀ w : World, (Builtin.lenOf x).run P w = .ok m w) (hold : (Builtin.firstCells te.i.size len (.slice base len cap)).run P w.drew = .ok olds.toArray w.drew)
  (hnew : (Builtin.firstCells te.i.size m x).run P w.drew = .ok news.toArray w.drew) :
  ∃ newCap, len + m ≤ newCap ∧ (Builtin.append_ #[t, tx] ty #[.slice base len cap, x]).run P w =
   .ok (.slice (some ⟨w.heap.size, 0, none⟩) (len + m) newCap) (w.drew.alloc (.cells (olds.toArray ++ news.toArray ++ Builtin.zeroCells te.z.cells (newCap - (len + m))) e)) := by
 unfold lim at hlim
 refine ⟨(len + m) + w.tape w.drawn (.appendCap (len + m) cap e) % (2 ^ 63 - (len + m)), by omega, ?_⟩
 have hinfo : ∀ w : World, (typeInfo e).run P w = .ok te.i w := fun w => by simp [typeInfo, te.hi]
 have hnc := nextcap_le (len + m) cap hcap
 have hbytes : Builtin.nextslicecap (len + m) cap * te.i.bytes ≤ 2 ^ 48 := by
  have : te.i.bytes ≤ 256 := by rw [← te.bytes]; exact hb
  calc _ ≤ (2 * (len + m) + 1024) * 256 := Nat.mul_le_mul hnc this
   _ ≤ 2 ^ 48 := by omega
 unfold Builtin.append_
 simp only [List.getElem?_toArray, List.getElem?_cons_zero, List.getElem?_cons_succ, Sem.run_bind, run_underlying hdd, run_underlying hdx, Result.andThen_ok, run_sizeOf te.hi, Sem.run_pure, Bool.false_eq_true, if_false, hlen]
 rw [if_neg (by omega)]
 simp only [Sem.run_bind, Result.andThen_ok, hinfo, Sem.run_pure, or_false, false_or, Bool.not_false, if_true]
 have hb1 : te.i.bytes ≠ 0 := by rw [← te.bytes]; omega
 rw [if_neg (fun hh => hb1 hh.2)]
 simp only [Sem.run_bind, Result.andThen_ok, hinfo]
 rw [if_neg (by omega)]
 have hch : (choose (.appendCap (len + m) cap e)).run P w = .ok ((len + m) + w.tape w.drawn (.appendCap (len + m) cap e) % (2 ^ 63 - (len + m))) w.drew := rfl
 have hz : (zeroValue e).run P w.drew = .ok te.z w.drew := run_zero te
 simp only [Sem.run_bind, Result.andThen_ok, hch, hinfo, run_askRoom, hold, hnew, hz, run_newRow, Sem.run_pure]
 rfl
theorem run_append_room {t tx ty e : Nat} {ex : Nat} (hdd : P.underlying t = some (.slice e)) (hdx : P.underlying tx = some (.slice ex)) (te : Told P T e)
  {base : Option Addr} {len cap m : Nat} {x : Value} {news : List Value} (hcap : len + m ≤ cap)
  (hlen : (Builtin.lenOf x).run P w = .ok m w) (hnew : (Builtin.firstCells te.i.size m x).run P w = .ok news.toArray w) {w' : World}
  (hst : ∀ a, base = some a → (storeCells (a.add (len * te.i.size)) news 0).run P w = .ok () w') (hw : base = none → w' = w) :
  (Builtin.append_ #[t, tx] ty #[.slice base len cap, x]).run P w = .ok (.slice base (len + m) cap) w' := by
 unfold Builtin.append_
 simp only [List.getElem?_toArray, List.getElem?_cons_zero, List.getElem?_cons_succ, Sem.run_bind, run_underlying hdd, run_underlying hdx, Result.andThen_ok, run_sizeOf te.hi, Sem.run_pure, Bool.false_eq_true, if_false, hlen]
 rw [if_pos hcap]
 cases base with
 | none =>
  rw [hw rfl]
  simp only [Sem.run_bind, Result.andThen_ok, Sem.run_pure, Bool.not_false, if_true, hnew]
 | some a =>
  have := hst a rfl
  simp only [Sem.run_bind, Result.andThen_ok, Sem.run_pure, Bool.not_false, if_true, hnew, this]
theorem grow_sound (r : Rel μ h w) {t tx ty e ex : Nat} {th : P.underlying t = some (.slice e)} {thx : P.underlying tx = some (.slice ex)} (te : Told P T e) (hb : (tget T e).bytes ≤ 256) (he : 0 < (tget T e).size) (hb0 : 0 < (tget T e).bytes)
  {s x : Sl} {vs vx : Value} (hs : SR μ h s vs) {xs : List AVal} {ds ds' : List Value} (hlim : ((s.len + x.len : Nat) : Int) ≤ lim)
  (k1 : VRs μ h xs ds) (k2 : xs.all AVal.isCell = true) (k3 : ds.length = x.len * (tget T e).size) (k4 : (Builtin.firstCells te.i.size x.len vx).run P w = .ok ds.toArray w) (k5 : (Builtin.lenOf vx).run P w = .ok x.len w)
  (j1 : VRs μ h xs ds') (j3 : ds'.length = x.len * (tget T e).size) (j4 : (Builtin.firstCells te.i.size x.len vx).run P w.drew = .ok ds'.toArray w.drew)
  (hlenx : ∀ w : World, (Builtin.lenOf vx).run P w = .ok x.len w) (hzs : te.z.cells.size = (tget T e).size) (hxl : xs.length = x.len * (tget T e).size)
  {o : Nat} {cs : List AVal} (hm : 0 < x.len) (hsz : s.sz = (tget T e).size) (ho : s.o = some o) (ho0 : s.off = 0) (hn : s.len * (tget T e).size = s.n) (hown : owned h o s.n = some cs) :
  ∃ y w' μ', (Builtin.append_ #[t, tx] ty #[vs, vx]).run P w = .ok y w' ∧ Tr μ h w μ' (h.set o (.own (cs ++ xs))) w' ∧ SR μ' (h.set o (.own (cs ++ xs))) ⟨some o, s.n + x.len * (tget T e).size, 0, s.len + x.len, (tget T e).size⟩ y := by
 have hdd := th
 have hddx := thx
 unfold SR at hs
 rw [ho] at hs
 obtain ⟨hol, hz0, a, cap, rfl, hlc, hv⟩ := hs
 obtain ⟨q1, q2, q3⟩ := owned_inf hown
 obtain ⟨p1, p2⟩ := hv 0 _ q1
 obtain ⟨p3, p4, p5, p6⟩ := p2 rfl
 rw [hsz, ho0] at p3 p4
 have p6 := p6 rfl
 rw [hsz, ho0] at p6
 have hall : cs.all AVal.isCell = true := by
  rw [List.all_eq_true]
  intro v hv'
  obtain ⟨i, hi, rfl⟩ := List.mem_iff_getElem.1 hv'
  exact ((r.own o cs q3).2.2.2 i _ (List.getElem?_eq_getElem hi)).1
 by_cases hcap : s.len + x.len ≤ cap
 ·have hroom : (μ o).off + cs.length + xs.length ≤ (μ o).size := by
   have := Nat.mul_le_mul_right (tget T e).size hcap
   rw [Nat.add_mul] at this
   omega
  have hax : a = place (μ o) s.off := by
   rcases p5 with ⟨_, p5⟩ | p5 | p5
   ·cases p5
   ·omega
   ·exact p5
  obtain ⟨g1, g2, g3⟩ := Tr.grew r q3 k1 k2 hroom
  refine ⟨.slice (some a) (s.len + x.len) cap, _, _, ?_, g3, ?_⟩
  ·refine run_append_room (P := P) hdd hddx te hcap k5 k4 (fun a' e' => ?_) (fun e' => by cases e')
   cases e'
   rw [hax, place_add, te.size.symm, ho0, Nat.zero_add, hn, ← q2]
   have := run_storeCells_cells (P := P) (μ o).b ((μ o).off + cs.length) ds 0 w (fun j hj => by have := (g1 j hj).1; simp only [place] at this; rwa [Nat.add_zero, Nat.add_assoc])
    (fun j hj => by have := (g1 j hj).2; simp only [place] at this; rwa [Nat.add_zero, Nat.add_assoc]) g2
   exact this
  ·refine ⟨by rw [inf_set, if_pos ⟨rfl, isSome_lt hol⟩]; rfl, he, a, cap, rfl, hcap, fun t m e1 => ?_⟩
   rw [inf_set, if_pos ⟨rfl, isSome_lt hol⟩] at e1
   simp at e1
   obtain ⟨rfl, rfl⟩ := e1
   have := Nat.mul_le_mul_right (tget T e).size hcap
   rw [Nat.add_mul] at this
   have e2 : (s.len + x.len) * (tget T e).size = s.len * (tget T e).size + x.len * (tget T e).size := Nat.add_mul _ _ _
   refine ⟨by simp only; omega, fun _ => ⟨by simp only; omega, by simp only; omega, .inr (.inr (by rw [hax, ho0])), fun _ => by simp only; omega⟩⟩
 ·
  have hrd : sread h s = some cs := by
   unfold sread
   split
   ·next h0 =>
    have : cs.length = 0 := by rw [q2, ← hn, ← hsz]; exact h0
    rw [List.length_eq_zero_iff.1 this]
   ·unfold Cl.range
    rw [ho]
    simp only [Option.bind_eq_some_iff]
    refine ⟨cs, ?_, ?_⟩
    ·unfold Cl.cells; rw [q3]; simp [q2]
    ·rw [ho0, hsz, hn, if_pos (by omega)]
     simp [← q2]
  have hs' : SR μ h s (.slice (some a) s.len cap) := by unfold SR; rw [ho]; exact ⟨hol, hz0, a, cap, rfl, hlc, hv⟩
  obtain ⟨od, i1, i2, i3, i4, i5⟩ := sread_spec (P := P) r.drew hs' hrd (fun _ => hsz)
  rw [te.size] at i4
  obtain ⟨nc, hnc, hrun⟩ := run_append_grow (P := P) (w := w) (ty := ty) (t := t) (tx := tx) (base := some a) (len := s.len) (cap := cap) (m := x.len) (olds := od) (news := ds') hdd hddx te hb hb0 (by omega) hlim hlenx i4 j4
  have hcs : (od.toArray ++ ds'.toArray ++ Builtin.zeroCells te.z.cells (nc - (s.len + x.len))).size = nc * (tget T e).size := by
   simp [zeroCells_size, j3, i3, hzs, Nat.sub_mul]
   have := Nat.mul_le_mul_right (tget T e).size hnc
   rw [Nat.add_mul] at *
   omega
  have hxp : 0 < xs.length := by rw [hxl]; exact Nat.mul_pos hm he
  have hlen2 : (cs ++ xs).length = (s.len + x.len) * (tget T e).size := by rw [List.length_append, q2, hxl, Nat.add_mul, ← hn]
  have hle2 := Nat.mul_le_mul_right (tget T e).size hnc
  have hcell : ∀ i, (w.drew.alloc (.cells (od.toArray ++ ds'.toArray ++ Builtin.zeroCells te.z.cells (nc - (s.len + x.len))) e)).cell? ⟨w.heap.size, i, none⟩ = (od.toArray ++ ds'.toArray ++ Builtin.zeroCells te.z.cells (nc - (s.len + x.len)))[i]? := fun i => World.cell?_alloc_at _ e _ i rfl
  have hfro : ∀ i, (w.drew.alloc (.cells (od.toArray ++ ds'.toArray ++ Builtin.zeroCells te.z.cells (nc - (s.len + x.len))) e)).frozen? ⟨w.heap.size, i, none⟩ = false := fun i => World.frozen?_alloc_at _ e _ i rfl
  have ev := i1.append j1
  have tt := Tr.turned (cs' := cs ++ xs) r q3 ⟨w.heap.size, 0, nc * (tget T e).size⟩ (by simp) (fun e' => by simp at e'; rw [e'] at hxp; simp at hxp)
   (w' := w.drew.alloc (.cells (od.toArray ++ ds'.toArray ++ Builtin.zeroCells te.z.cells (nc - (s.len + x.len))) e))
   rfl rfl ⟨rfl, Nat.le_succ _⟩ (by rw [alloc_size]; exact Nat.le_succ _) (fun k hk _ => alloc_get w.drew _ _ hk) (.inr (Nat.le_refl _)) (by rw [alloc_size]; exact Nat.lt_succ_self _)
   (by simp only [Nat.zero_add]; omega) (by rw [List.all_append, hall, k2]; rfl)
   (fun i hi => by
    simp only [place, Nat.zero_add] at hi ⊢
    rw [hcell, hfro]
    refine ⟨?_, rfl⟩
    rw [Array.getElem?_eq_getElem (by omega)]
    rfl)
   (fun i v hv' => by
    obtain ⟨d, h1, h2⟩ := ev.get hv'
    refine ⟨d, ?_, h2⟩
    simp only [place, Nat.zero_add]
    rw [hcell, Array.getElem?_append_left]
    ·rw [← Array.getElem?_toList]; simpa using h1
    ·have := (List.getElem?_eq_some_iff.1 h1).1
     simpa using this)
  refine ⟨_, _, _, hrun, tt, ?_⟩
  have hn' : s.n + x.len * (tget T e).size = (s.len + x.len) * (tget T e).size := by rw [Nat.add_mul, hn]
  rw [hn']
  exact newSl_SR' (w := w) hnc he (Nat.le_refl _) hlen2 (isSome_lt hol)
theorem app_sound (r : Rel μ h w) (hT : TOK P T) {t tx ty e ex : Nat} (hd : (tget T t).d = .sl e) (hdx : (tget T tx).d = .sl ex) (hb : (tget T e).bytes ≤ 256) (he : 0 < (tget T e).size) (hb0 : 0 < (tget T e).bytes)
  {s x : Sl} {vs vx : Value} (hs : SR μ h s vs) (hx : SR μ h x vx) {K : Sl → H → Prop} (H : app s x (tget T e).size h K) :
  ∃ y w' h' μ' s', (Builtin.append_ #[t, tx] ty #[vs, vx]).run P w = .ok y w' ∧ K s' h' ∧ Tr μ h w μ' h' w' ∧ SR μ' h' s' y := by
 obtain ⟨th⟩ := hT.told t (by rw [hd]; simp)
 have hu := tdOf_sl (P := P) (d := th.d) (by rw [← th.td, hd])
 have hdd := th.hd
 rw [hu] at hdd
 obtain ⟨thx⟩ := hT.told tx (by rw [hdx]; simp)
 have hux := tdOf_sl (P := P) (d := thx.d) (by rw [← thx.td, hdx])
 have hddx := thx.hd
 rw [hux] at hddx
 obtain ⟨te⟩ := hT.toldS e he
 obtain ⟨xs, s', h', hxs, hxz, hlim, ha, hK⟩ := H
 obtain ⟨ds, k1, k2, k3, k4, k5⟩ := sread_spec (P := P) r hx hxs hxz
 obtain ⟨ds', j1, j2, j3, j4, j5⟩ := sread_spec (P := P) r.drew hx hxs hxz
 have hlenx : ∀ w : World, (Builtin.lenOf vx).run P w = .ok x.len w := fun w => by
  unfold SR at hx
  split at hx
  ·obtain ⟨hl, rfl⟩ := hx; simp [Builtin.lenOf, hl]
  ·obtain ⟨_, _, a, cap, rfl, _⟩ := hx; simp [Builtin.lenOf]
 rw [te.size] at k4 j4
 have hzs : te.z.cells.size = (tget T e).size := by rw [te.zsize, te.size]
 have hxl : xs.length = x.len * (tget T e).size := by rw [← k1.len, k3]
 cases ha with
 | zero hm =>
  have hds : ds = [] := by rw [hm] at k3; simpa using k3
  subst hds
  refine ⟨vs, w, h, μ, s, ?_, hK, Tr.refl r, hs⟩
  have hs0 := hs
  unfold SR at hs0
  split at hs0
  ·obtain ⟨hl, rfl⟩ := hs0
   have := run_append_room (P := P) (w := w) (ty := ty) (base := none) (len := 0) (cap := 0) (m := 0) hdd hddx te (by omega) (hm ▸ k5) (hm ▸ k4) (w' := w) (fun _ e => by cases e) (fun _ => rfl)
   simpa using this
  ·obtain ⟨_, _, a, cap, rfl, hle, _⟩ := hs0
   have := run_append_room (P := P) (w := w) (ty := ty) (base := some a) (len := s.len) (cap := cap) (m := 0) hdd hddx te (by omega) (hm ▸ k5) (hm ▸ k4) (w' := w) (fun _ e => by simp [storeCells]) (fun _ => rfl)
   simpa using this
 | fresh ho hm =>
  unfold SR at hs
  rw [ho] at hs
  obtain ⟨hl, rfl⟩ := hs
  obtain ⟨nc, hnc, hrun⟩ := run_append_grow (P := P) (w := w) (ty := ty) (t := t) (tx := tx) (base := none) (len := 0) (cap := 0) (m := x.len) (olds := []) (news := ds') hdd hddx te hb hb0 (by omega) (by rw [hl] at hlim; simpa using hlim) hlenx
   (by simp [Builtin.firstCells]) j4
  simp only [Nat.zero_add] at hrun hnc
  have hcs : ((#[] : Array Value) ++ ds'.toArray ++ Builtin.zeroCells te.z.cells (nc - x.len)).size = nc * (tget T e).size := by
   simp [zeroCells_size, j3, hzs, Nat.sub_mul]
   have := Nat.mul_le_mul_right (tget T e).size hnc
   omega
  have tn := Tr.new r.drew xs ((#[] : Array Value) ++ ds'.toArray ++ Builtin.zeroCells te.z.cells (nc - x.len)) e ds' j1 j2 ⟨(Builtin.zeroCells te.z.cells (nc - x.len)).toList, by simp⟩
  refine ⟨_, _, _, _, _, hrun, hK, (Tr.drew r).trans tn, ?_⟩
  rw [hcs]
  exact newSl_SR (w := w.drew) (size := nc * (tget T e).size) hnc he (Nat.le_refl _) hxl
 | @fits o h' hm hsz ho hle hput =>
  unfold SR at hs
  rw [ho] at hs
  obtain ⟨hol, hz0, a, cap, rfl, hlc, hv⟩ := hs
  obtain ⟨q1, q2, q3, q4, q5⟩ := Tr.putN r hput k1 k2
  obtain ⟨p1, p2⟩ := hv 0 _ q1
  obtain ⟨p3, p4, p5, p6⟩ := p2 rfl
  rw [hsz] at p3 p4 p6
  have hcap : s.len + x.len ≤ cap := by
   have : (s.len + x.len) * (tget T e).size ≤ cap * (tget T e).size := by omega
   exact Nat.le_of_mul_le_mul_right this he
  have hax : a = place (μ o) s.off := by
   rcases p5 with ⟨p5, _⟩ | p5 | p5
   ·have := Nat.mul_pos hm he
    rw [Nat.add_mul] at hle
    omega
   ·omega
   ·exact p5
  refine ⟨.slice (some a) (s.len + x.len) cap, _, _, _, _, ?_, hK, q5, ?_⟩
  ·refine run_append_room (P := P) hdd hddx te hcap k5 k4 (fun a' e' => ?_) (fun e' => by cases e')
   cases e'
   rw [hax, place_add, te.size.symm]
   have := run_storeCells_cells (P := P) (μ o).b ((μ o).off + (s.off + s.len * (tget T e).size)) ds 0 w (fun j hj => by have := (q3 j hj).1; simp only [place] at this; rwa [Nat.add_zero, Nat.add_assoc])
    (fun j hj => by have := (q3 j hj).2; simp only [place] at this; rwa [Nat.add_zero, Nat.add_assoc]) q4
   exact this
  ·refine SR.step q5.step ?_
   refine ⟨hol, he, a, cap, rfl, hcap, fun t m e1 => ?_⟩
   obtain ⟨g1, g2⟩ := hv t m e1
   refine ⟨g1, fun hm' => ?_⟩
   obtain ⟨g3, g4, g5, g6⟩ := g2 hm'
   rw [hsz] at g3 g4 g6
   exact ⟨g3, hle, g5, g6⟩
 | @grows o cs hm hsz ho ho0 hn hown =>
  obtain ⟨y, w', μ', a1, a2, a3⟩ := grow_sound (P := P) (T := T) (t := t) (tx := tx) (ty := ty) (th := hdd) (thx := hddx) r te hb he hb0 hs hlim k1 k2 k3 k4 k5 j1 j3 j4 hlenx hzs hxl hm hsz ho ho0 hn hown
  exact ⟨y, w', _, μ', _, a1, hK, a2, a3⟩
 | @moves o cs hm hsz ho hn hown =>
  have hs0 := hs
  unfold SR at hs
  rw [ho] at hs
  obtain ⟨hol, hz0, a, cap, rfl, hlc, hv⟩ := hs
  obtain ⟨q1, q2, q3⟩ := owned_inf hown
  obtain ⟨p1, p2⟩ := hv 0 _ q1
  obtain ⟨p3, p4, p5, p6⟩ := p2 rfl
  rw [hsz] at p3 p4
  have p6 := p6 rfl
  rw [hsz] at p6
  have T1 := Tr.rebase r q3 s.off (by omega)
  have hgn : (h.set o (.lost (cs.length + 1)) ++ [AObj.own (cs.drop s.off)])[h.length]? = some (.own (cs.drop s.off)) := by
   rw [List.getElem?_append_right (by simp)]; simp
  have hdl : (cs.drop s.off).length = s.len * (tget T e).size := by rw [List.length_drop]; omega
  have S1 : SR (μ.upd h.length ⟨(μ o).b, (μ o).off + s.off, (μ o).size⟩) (h.set o (.lost (cs.length + 1)) ++ [AObj.own (cs.drop s.off)]) ⟨some h.length, s.len * (tget T e).size, 0, s.len, (tget T e).size⟩ (.slice (some a) s.len cap) := by
   have hi : inf (h.set o (.lost (cs.length + 1)) ++ [AObj.own (cs.drop s.off)]) h.length = some (0, s.len * (tget T e).size) := by unfold inf; rw [hgn]; simp only [hdl]
   refine ⟨by rw [hi]; rfl, he, a, cap, rfl, hlc, fun t m e1 => ?_⟩
   rw [hi] at e1
   simp at e1
   obtain ⟨rfl, rfl⟩ := e1
   have := Nat.mul_le_mul_right (tget T e).size hlc
   refine ⟨Nat.le_refl _, fun _ => ⟨by simp only; omega, by simp only; omega, ?_, fun _ => by rw [upd_self]; simp only; omega⟩⟩
   rcases p5 with ⟨_, p5⟩ | p5 | p5
   ·cases p5
   ·exact .inr (.inl p5)
   ·refine .inr (.inr ?_)
    rw [upd_self, p5]; simp [place]
  obtain ⟨y, w', μ', a1, a2, a3⟩ := grow_sound (P := P) (T := T) (t := t) (tx := tx) (ty := ty) (x := x) (th := hdd) (thx := hddx) T1.rel te hb he hb0 S1 hlim (VRs.step T1.step k1) k2 k3 k4 k5 (VRs.step T1.step j1) j3 j4 hlenx hzs hxl hm rfl rfl rfl rfl (o := h.length) (cs := cs.drop s.off) (by unfold owned; rw [hgn]; exact if_pos hdl)
  have eh : (h.set o (.lost (cs.length + 1)) ++ [AObj.own (cs.drop s.off)]).set h.length (.own (cs.drop s.off ++ xs)) = h.set o (.lost (s.n + 1)) ++ [.own (cs.drop s.off ++ xs)] := by
   rw [List.set_append_right _ _ (by simp), q2]; simp
  rw [eh] at a2 a3
  refine ⟨y, w', _, μ', _, a1, hK, T1.trans a2, ?_⟩
  rw [← Nat.add_mul] at a3
  exact a3
theorem copy_sound (r : Rel μ h w) (hT : TOK P T) {t tx ty e ex : Nat} (hd : (tget T t).d = .sl e) (hdx : (tget T tx).d = .sl ex) (he : 0 < (tget T e).size)
  {s x : Sl} {vs vx : Value} (hs : SR μ h s vs) (hx : SR μ h x vx) {K : Int → H → Prop} (H : copyS s x (tget T e).size h K) :
  ∃ w' h' n, (Builtin.copy_ #[t, tx] ty #[vs, vx]).run P w = .ok (.int .i64 n) w' ∧ K n h' ∧ Tr μ h w μ h' w' := by
 obtain ⟨th⟩ := hT.told t (by rw [hd]; simp)
 have hu := tdOf_sl (P := P) (d := th.d) (by rw [← th.td, hd])
 have hdd := th.hd
 rw [hu] at hdd
 obtain ⟨te⟩ := hT.toldS e he
 obtain ⟨xs, h', hxs, hsz, hxz, hput, hK⟩ := H
 unfold SR at hs hx
 cases hso : s.o with
 | none => rw [hso] at hput; simp [putN] at hput
 | some o =>
  cases hxo : x.o with
  | none => rw [hxo] at hxs; simp [range] at hxs
  | some ox =>
   rw [hso] at hs hput
   rw [hxo] at hx hxs
   obtain ⟨hol, hz0, a, cap, rfl, hlc, hv⟩ := hs
   obtain ⟨hox, hzx, ax, capx, rfl, hlx, hvx⟩ := hx
   obtain ⟨⟨t', ht', _⟩, h1, h2, h3, ds, h4, h5, h6⟩ := r.range hxs
   obtain ⟨q1, q2, q3, q4, q5⟩ := Tr.putN r hput h5 h3
   have hsa : s.len = 0 ∨ a = place (μ o) s.off := by
    obtain ⟨p1, p2⟩ := hv 0 _ q1
    obtain ⟨p3, p4, p5, p6⟩ := p2 rfl
    rcases p5 with ⟨_, p5⟩ | p5 | p5
    ·cases p5
    ·exact .inl (by omega)
    ·exact .inr p5
   have hxa : x.len = 0 ∨ ax = place (μ ox) x.off := by
    obtain ⟨p1, p2⟩ := hvx t' _ ht'
    obtain ⟨p3, p4, p5, p6⟩ := p2 rfl
    rcases p5 with ⟨p5, _⟩ | p5 | p5
    ·have : x.len * x.sz = 0 := by omega
     rw [Nat.mul_eq_zero] at this
     exact .inl (by omega)
    ·exact .inl (by omega)
    ·exact .inr p5
   refine ⟨_, h', _, ?_, hK, q5⟩
   have hmin : Nat.min x.len s.len = min x.len s.len := rfl
   have hload : (loadCells ax (min x.len s.len * te.i.size)).run P w = .ok ds.toArray w := by
    rw [← te.size]
    by_cases h0 : min x.len s.len = 0
    ·rw [h0, Nat.zero_mul] at h4 ⊢
     rw [List.length_eq_zero_iff.1 h4]
     exact run_loadCells_list (P := P) w ax [] (by simp)
    ·have hax : ax = place (μ ox) x.off := by rcases hxa with q | q; omega; exact q
     have := run_loadCells_list (P := P) w ax ds (fun j v hj => by rw [hax, place_add]; exact h6 j v hj)
     rwa [h4] at this
   have hstore : (storeCells a ds 0).run P w = .ok () (w.setCells (μ o).b ((μ o).off + s.off) ds) := by
    by_cases h0 : min x.len s.len = 0
    ·rw [h0, Nat.zero_mul] at h4
     rw [List.length_eq_zero_iff.1 h4]
     rfl
    ·have hax : a = place (μ o) s.off := by rcases hsa with q | q; omega; exact q
     rw [hax]
     exact run_storeCells_cells (P := P) (μ o).b ((μ o).off + s.off) ds 0 w (fun j hj => by have := (q3 j hj).1; simp only [place] at this; rwa [Nat.add_zero, Nat.add_assoc])
      (fun j hj => by have := (q3 j hj).2; simp only [place] at this; rwa [Nat.add_zero, Nat.add_assoc]) q4
   unfold Builtin.copy_
   simp only [List.getElem?_toArray, List.getElem?_cons_zero, List.getElem?_cons_succ, Sem.run_bind, run_underlying hdd, Result.andThen_ok, run_sizeOf te.hi, Sem.run_pure, Builtin.lenOf, Builtin.firstCells, hmin, hload, hstore]
   rfl
theorem zeroCells_VRs {e : Nat} (te : Told P T e) (h0 : 0 < (tget T e).size) (n : Nat) : VRs μ h (List.replicate n (tget T e).zero).flatten (Builtin.zeroCells te.z.cells n).toList := by
 have := zeros_VRs (μ := μ) (h := h) te h0 n
 unfold Builtin.zeroCells
 rw [te.zsize, ← te.size]
 rw [te.zsize, ← te.size] at this
 exact this
theorem clear_sound (r : Rel μ h w) (hT : TOK P T) {t ty e : Nat} (hd : (tget T t).d = .sl e) (he : 0 < (tget T e).size)
  {s : Sl} {vs : Value} (hs : SR μ h s vs) {K : H → Prop} (H : clearS s (tget T e).zero h K) :
  ∃ w' h', (Builtin.clear_ #[t] ty #[vs]).run P w = .ok (.tuple #[]) w' ∧ K h' ∧ Tr μ h w μ h' w' := by
 obtain ⟨th⟩ := hT.told t (by rw [hd]; simp)
 have hu := tdOf_sl (P := P) (d := th.d) (by rw [← th.td, hd])
 have hdd := th.hd
 rw [hu] at hdd
 obtain ⟨te⟩ := hT.toldS e he
 unfold clearS at H
 unfold SR at hs
 cases hso : s.o with
 | none =>
  rw [hso] at hs
  obtain ⟨hl, rfl⟩ := hs
  rw [if_pos hl] at H
  refine ⟨w, h, ?_, H, Tr.refl r⟩
  simp [Builtin.clear_, run_underlying hdd]
 | some o =>
  rw [hso] at hs
  obtain ⟨hol, hz0, a, cap, rfl, hlc, hv⟩ := hs
  split at H
  ·next hl =>
   refine ⟨w, h, ?_, H, Tr.refl r⟩
   rw [hl]
   simp [Builtin.clear_, run_underlying hdd]
  ·next hl =>
   obtain ⟨h', hsz, hput, hK⟩ := H
   rw [hso] at hput
   obtain ⟨q1, q2, q3, q4, q5⟩ := Tr.putN r hput (zeroCells_VRs te he s.len) (all_rep (all_zero te) _)
   have hsa : a = place (μ o) s.off := by
    obtain ⟨p1, p2⟩ := hv 0 _ q1
    obtain ⟨p3, p4, p5, p6⟩ := p2 rfl
    rcases p5 with ⟨_, p5⟩ | p5 | p5
    ·cases p5
    ·omega
    ·exact p5
   refine ⟨_, h', ?_, hK, q5⟩
   have hstore := run_storeCells_cells (P := P) (μ o).b ((μ o).off + s.off) (Builtin.zeroCells te.z.cells s.len).toList 0 w (fun j hj => by have := (q3 j hj).1; simp only [place] at this; rwa [Nat.add_zero, Nat.add_assoc])
      (fun j hj => by have := (q3 j hj).2; simp only [place] at this; rwa [Nat.add_zero, Nat.add_assoc]) q4
   have hz : (zeroValue e).run P w = .ok te.z w := run_zero te
   obtain ⟨n, hn⟩ : ∃ n, s.len = n + 1 := ⟨s.len - 1, by omega⟩
   rw [hsa]
   rw [hn] at hstore ⊢
   simp only [Builtin.clear_, List.getElem?_toArray, List.getElem?_cons_zero, List.getElem?_cons_succ, Sem.run_bind, run_underlying hdd, Result.andThen_ok, Sem.run_pure, hz]
   simp only [place] at *
   rw [hstore]
   rfl
end
end Go.Proofs.Ytcoampecbpiecaa.Cl
set_option linter.unusedVariables false
set_option linter.unusedSimpArgs false
namespace Go.Proofs.Ytcoampecbpiecaa.Cl
open Go
section
variable {P : Program} {T : Tab} {μ : Mu} {h : H} {w : World}
theorem sameK_eq {a b : IntKind} (e : sameK a b = true) : a = b := by cases a <;> cases b <;> first | rfl | cases e
theorem binI_sound {op : BinOp} {k k' : IntKind} {a b : Int} {t : Nat} {x y : Operand} {K : AVal → Prop} (hk : (sameK k k' || isShift op) = true) (H : binI op k a b K) :
  ∃ v d, (do eqGuard op t x y (.int k a) (.int k' b); binOp op t (.int k a) (.int k' b) : Sem Value).run P w = .ok d w ∧ K v ∧ VR μ h v d := by
 have hg : (eqGuard op t x y (.int k a) (.int k' b)).run P w = .ok () w := by rw [eqGuard_at_int]; rfl
 simp only [Sem.run_bind, hg, Result.andThen_ok]
 cases hs : isShift op with
 | true =>
  cases op <;> simp [isShift] at hs <;> (
   obtain ⟨h1, h2⟩ := H
   refine ⟨_, _, ?_, h2, rfl⟩
   simp only [binOp, Op.shift, Sem.run_ite]
   rw [if_neg (by omega)]
   rfl)
 | false =>
  rw [hs, Bool.or_false] at hk
  obtain rfl := sameK_eq hk
  cases op <;> first
   |(simp [isShift] at hs; done)
   |(obtain ⟨h1, h2⟩ := H
     refine ⟨_, _, ?_, h2, rfl⟩
     simp only [binOp, Op.intDiv, ne_eq, not_true_eq_false, if_false, if_neg h1]
     rfl)
   |(refine ⟨_, _, ?_, H, rfl⟩
     simp only [binOp, Op.intArith, Op.intCmp, Op.intBits, bitsOp, ne_eq, not_true_eq_false, if_false]
     rfl)
theorem ints_VRs {k : IntKind} : ∀ {cs : List AVal} {l : List Int} {ds : List Value}, ints k cs = some l → VRs μ h cs ds → ds = l.map (Value.int k)
 | [], l, ds, e, r => by
  simp only [ints] at e
  cases e
  simp only [VRs] at r
  rw [r]; rfl
 | .int k' n :: cs, l, ds, e, r => by
  simp only [ints] at e
  split at e
  ·next hk =>
   subst hk
   cases hq : ints k' cs with
   | none => rw [hq] at e; cases e
   | some l' =>
    rw [hq] at e
    cases e
    simp only [VRs, VR] at r
    obtain ⟨d, ds', rfl, rfl, r⟩ := r
    rw [ints_VRs hq r]; rfl
  ·cases e
 | .undef :: _, _, _, e, _ => by simp [ints] at e
 | .gone :: _, _, _, e, _ => by simp [ints] at e
 | .bool _ :: _, _, _, e, _ => by simp [ints] at e
 | .str _ :: _, _, _, e, _ => by simp [ints] at e
 | .ptr _ :: _, _, _, e, _ => by simp [ints] at e
 | .sl _ :: _, _, _, e, _ => by simp [ints] at e
 | .func _ _ :: _, _, _, e, _ => by simp [ints] at e
 | .nilFunc :: _, _, _, e, _ => by simp [ints] at e
 | .map _ :: _, _, _, e, _ => by simp [ints] at e
 | .agg _ :: _, _, _, e, _ => by simp [ints] at e
 | .tuple _ :: _, _, _, e, _ => by simp [ints] at e
theorem all_range_int : ∀ (xs ys : List Int), xs.length = ys.length → ((List.range xs.length).all fun i => xs.getD i 0 == ys.getD i 0) = (xs == ys)
 | [], [], _ => rfl
 | x :: xs, y :: ys, h => by
  have ih := all_range_int xs ys (by simpa using h)
  rw [List.length_cons, List.range_succ_eq_map, List.all_cons, List.all_map]
  simp only [List.getD_cons_zero, Function.comp_def, List.getD_cons_succ, ih]
  simp [List.cons_beq_cons]
 | [], _ :: _, h => by simp at h
 | _ :: _, [], h => by simp at h
theorem run_equalIn_ints (d : Nat) (t e : TypeId) (n : Nat) (k : IntKind) (ht : P.underlying t = some (.array n e)) (he : P.underlying e = some (.int k)) (hsz : ∀ w, (sizeOf e).run P w = .ok 1 w)
  (xs ys : List Int) (hx : xs.length = n) (hy : ys.length = n) :
  (Op.equalIn (d + 2) t (.agg (xs.map (Value.int k)).toArray) (.agg (ys.map (Value.int k)).toArray)).run P w = .ok (xs == ys) w := by
 rw [← all_range_int xs ys (hx.trans hy.symm), hx, List.range_eq_range', Op.equalIn]
 simp only [Sem.run_bind, run_underlying ht, Result.andThen_ok, hsz, Std.Legacy.Range.forIn_eq_forIn_range', Std.Legacy.Range.size, Nat.sub_zero, Nat.add_sub_cancel, Nat.div_one]
 have hl : ∀ i ∈ List.range' 0 n 1, i < n := fun i hi => by simpa using (List.mem_range'_1.1 hi).2
 generalize List.range' 0 n 1 = l at hl ⊢
 induction l with
 | nil => simp
 | cons i l ih =>
  have hi : i < n := hl i (by simp)
  have px : (part e (xs.map (Value.int k)).toArray (i * 1)).run P w = .ok (.int k (xs.getD i 0)) w := by
   simp [part, isAgg, run_underlying he, List.getD, List.getElem?_eq_getElem (show i < xs.length by omega)]
  have py : (part e (ys.map (Value.int k)).toArray (i * 1)).run P w = .ok (.int k (ys.getD i 0)) w := by
   simp [part, isAgg, run_underlying he, List.getD, List.getElem?_eq_getElem (show i < ys.length by omega)]
  have pe : (Op.equalIn (d + 1) e (.int k (xs.getD i 0)) (.int k (ys.getD i 0))).run P w = .ok (xs.getD i 0 == ys.getD i 0) w := run_equalIn_int w d e k k _ _ he
  simp only [List.forIn_cons, Sem.run_bind, px, py, pe, Result.andThen_ok, List.all_cons]
  cases hb : (xs.getD i 0 == ys.getD i 0)
  ·simp
  ·simp only [Bool.not_true, Bool.false_eq_true, if_false, Sem.run_pure, Result.andThen_ok, Bool.true_and]
   exact ih fun j hj => hl j (by simp [hj])
theorem eqGuardType_ints {t e n k} (ht : P.underlying t = some (.array n e)) (he : P.underlying e = some (.int k)) : P.eqGuardType P.depth t = false := by
 obtain ⟨m, hm⟩ : ∃ m, P.depth = m + 2 := ⟨2 * (P.types.size + Made.depth), rfl⟩
 rw [hm]
 simp [Program.eqGuardType, ht, he]
theorem run_equalIn_snil (d : Nat) (t e : TypeId) (a : Option Addr) (l c : Nat) (hd : P.underlying t = some (.slice e)) : (Op.equalIn (d + 1) t (.slice a l c) (.slice none 0 0)).run P w = .ok a.isNone w := by
 cases a <;> simp [Op.equalIn, run_underlying hd]
theorem run_equalIn_pnil (d : Nat) (t e : TypeId) (a : Option Addr) (hd : P.underlying t = some (.pointer e)) : (Op.equalIn (d + 1) t (.pointer a) (.pointer none)).run P w = .ok a.isNone w := by
 cases a <;> simp [Op.equalIn, run_underlying hd]
theorem run_eql_of {t : TypeId} {x y : Value} {r : Bool} (hx : (∃ b, x = .bool b) ∨ (∃ a b c, x = .slice a b c) ∨ ∃ a, x = .pointer a ∧ y = .pointer none) (hy : (∃ b, y = .bool b) ∨ y = .slice none 0 0 ∨ y = .pointer none)
  (e : (Op.equalIn 10000 t x y).run P w = .ok r w) :
  (binOp .eql t x y).run P w = .ok (.bool r) w ∧ (binOp .neq t x y).run P w = .ok (.bool (!r)) w := by
 have e1 : binOp .eql t x y = (Op.equalIn 10000 t x y) >>= fun r => pure (.bool r) := by
  rcases hx with ⟨b, rfl⟩ | ⟨a, b, c, rfl⟩ | ⟨a, rfl, hya⟩ <;> rcases hy with ⟨b', rfl⟩ | rfl | rfl <;> first | rfl | cases hya
 have e2 : binOp .neq t x y = (Op.equalIn 10000 t x y) >>= fun r => pure (.bool (!r)) := by
  rcases hx with ⟨b, rfl⟩ | ⟨a, b, c, rfl⟩ | ⟨a, rfl, hya⟩ <;> rcases hy with ⟨b', rfl⟩ | rfl | rfl <;> first | rfl | cases hya
 rw [e1, e2, Sem.run_bind, Sem.run_bind, e]
 exact ⟨rfl, rfl⟩
theorem binStr_sound {op : BinOp} {t : Nat} {x y : AVal} {x' y' : Value} {ox oy : Operand} (hx : VR μ h x x') (hy : VR μ h y y') {K : AVal → Prop} (H : binStr op x y K) :
  ∃ v d, (do eqGuard op t ox oy x' y'; binOp op t x' y' : Sem Value).run P w = .ok d w ∧ K v ∧ VR μ h v d := by
 have hg : ∀ a b, (eqGuard op t ox oy (.string a) (.string b)).run P w = .ok () w := fun a b => by cases op <;> rfl
 unfold binStr at H
 split at H
 ·obtain ⟨a, rfl, b, rfl, H⟩ := H
  simp only [VR] at hx hy
  subst hx hy
  simp only [Sem.run_bind, hg, Result.andThen_ok]
  refine ⟨_, _, ?_, H, rfl⟩
  rw [beq_toListBytes]
  rfl
 ·obtain ⟨a, rfl, b, rfl, H⟩ := H
  simp only [VR] at hx hy
  subst hx hy
  simp only [Sem.run_bind, hg, Result.andThen_ok]
  refine ⟨_, _, ?_, H, rfl⟩
  rw [beq_toListBytes]
  rfl
 ·exact H.elim
theorem binK_sound (hT : TOK P T) {op : BinOp} {t : Nat} {x y : AVal} {x' y' : Value} {ox oy : Operand} {yc : Bool} (hx : VR μ h x x') (hy : VR μ h y y') {K : AVal → Prop} (H : binK T op t x y yc K) :
  ∃ v d, (do eqGuard op t ox oy x' y'; binOp op t x' y' : Sem Value).run P w = .ok d w ∧ K v ∧ VR μ h v d := by
 unfold binK at H
 split at H
 ·next k a k' b =>
  simp only [VR] at hx hy
  subst hx hy
  cases hk : (sameK k k' || isShift op) with
  | false => rw [hk] at H; exact H.elim
  | true => rw [hk] at H; exact binI_sound hk H
 ·next a b =>
  simp only [VR] at hx hy
  subst hx hy
  have hg : (eqGuard op t ox oy (.bool a) (.bool b)).run P w = .ok () w := by rw [eqGuard_at_bool]; rfl
  simp only [Sem.run_bind, hg, Result.andThen_ok]
  have main : (tget T t).d = .bool → (Op.equalIn 10000 t (.bool a) (.bool b)).run P w = .ok (a == b) w := fun e => by
   obtain ⟨th⟩ := hT.told t (by rw [e]; simp)
   have hu := tdOf_bool (P := P) (d := th.d) (by rw [← th.td, e])
   have hd := th.hd
   rw [hu] at hd
   exact run_equalIn_bool' w 9999 t a b hd
  split at H
  ·next e => exact ⟨_, _, (run_eql_of (.inl ⟨_, rfl⟩) (.inl ⟨_, rfl⟩) (main e)).1, H, rfl⟩
  ·next e => exact ⟨_, _, (run_eql_of (.inl ⟨_, rfl⟩) (.inl ⟨_, rfl⟩) (main e)).2, H, rfl⟩
  ·exact H.elim
 ·next a b =>
  simp only [VR] at hx hy
  subst hx hy
  have hg : (eqGuard op t ox oy (.string a) (.string b)).run P w = .ok () w := by cases op <;> rfl
  simp only [Sem.run_bind, hg, Result.andThen_ok]
  split at H
  ·refine ⟨_, _, ?_, H, rfl⟩
   rw [beq_toListBytes]
   rfl
  ·refine ⟨_, _, ?_, H, rfl⟩
   rw [bne, beq_toListBytes]
   rfl
  ·exact H.elim
 ·next a b =>
  simp only [VR] at hx hy
  cases hb : (yc && b.o.isNone) with
  | false => rw [hb] at H; exact H.elim
  | true =>
   rw [hb] at H
   simp only [cond_true] at H
   rw [Bool.and_eq_true] at hb
   have hbo : b.o = none := by simpa using hb.2
   have hy' : y' = .slice none 0 0 := by unfold SR at hy; rw [hbo] at hy; exact hy.2
   subst hy'
   have ha : ∃ p l c, x' = .slice p l c ∧ p.isNone = isNilS a := by
    unfold SR at hx
    unfold isNilS
    split at hx
    ·next e => obtain ⟨_, rfl⟩ := hx; exact ⟨_, _, _, rfl, by rw [e]; rfl⟩
    ·next e => obtain ⟨_, _, p, c, rfl, _⟩ := hx; exact ⟨_, _, _, rfl, by rw [e]; rfl⟩
   obtain ⟨p, l, c, rfl, hp⟩ := ha
   have hg : (eqGuard op t ox oy (.slice p l c) (.slice none 0 0)).run P w = .ok () w := by cases op <;> rfl
   simp only [Sem.run_bind, hg, Result.andThen_ok]
   have main : ∀ e, (tget T t).d = .sl e → (Op.equalIn 10000 t (.slice p l c) (.slice none 0 0)).run P w = .ok (isNilS a) w := fun e he => by
    obtain ⟨th⟩ := hT.told t (by rw [he]; simp)
    have hu := tdOf_sl (P := P) (d := th.d) (by rw [← th.td, he])
    have hd := th.hd
    rw [hu] at hd
    rw [← hp]
    exact run_equalIn_snil 9999 t e p l c hd
   split at H
   ·next e => exact ⟨_, _, (run_eql_of (.inr (.inl ⟨_, _, _, rfl⟩)) (.inr (.inl rfl)) (main _ e)).1, H, rfl⟩
   ·next e => exact ⟨_, _, (run_eql_of (.inr (.inl ⟨_, _, _, rfl⟩)) (.inr (.inl rfl)) (main _ e)).2, H, rfl⟩
   ·exact H.elim
 ·next a b =>
  simp only [VR] at hx hy
  cases hb : (yc && b.o.isNone) with
  | false => rw [hb] at H; exact H.elim
  | true =>
   rw [hb] at H
   simp only [cond_true] at H
   rw [Bool.and_eq_true] at hb
   have hbo : b.o = none := by simpa using hb.2
   have hy' : y' = .pointer none := by unfold PR at hy; rw [hbo] at hy; exact hy
   subst hy'
   have ha : ∃ p, x' = .pointer p ∧ p.isNone = isNilP a := by
    unfold PR at hx
    unfold isNilP
    split at hx
    ·next e => subst hx; exact ⟨_, rfl, by rw [e]; rfl⟩
    ·next e => obtain ⟨_, p, rfl, _⟩ := hx; exact ⟨_, rfl, by rw [e]; rfl⟩
   obtain ⟨p, rfl, hp⟩ := ha
   have hg : (eqGuard op t ox oy (.pointer p) (.pointer none)).run P w = .ok () w := by cases op <;> rfl
   simp only [Sem.run_bind, hg, Result.andThen_ok]
   have main : (tget T t).d = .ptr → (Op.equalIn 10000 t (.pointer p) (.pointer none)).run P w = .ok (isNilP a) w := fun he => by
    obtain ⟨th⟩ := hT.told t (by rw [he]; simp)
    obtain ⟨u, hu⟩ := tdOf_ptr (P := P) (d := th.d) (by rw [← th.td, he])
    have hd := th.hd
    rw [hu] at hd
    rw [← hp]
    exact run_equalIn_pnil 9999 t u p hd
   split at H
   ·next e => exact ⟨_, _, (run_eql_of (.inr (.inr ⟨_, rfl, rfl⟩)) (.inr (.inr rfl)) (main e)).1, H, rfl⟩
   ·next e => exact ⟨_, _, (run_eql_of (.inr (.inr ⟨_, rfl, rfl⟩)) (.inr (.inr rfl)) (main e)).2, H, rfl⟩
   ·exact H.elim
 ·next a b =>
  simp only [VR] at hx hy
  obtain ⟨dx, rfl, hx, _⟩ := hx
  obtain ⟨dy, rfl, hy, _⟩ := hy
  have main : ∀ k n, intArr T t = some (k, n) → ∀ l m, ints k a = some l → ints k b = some m → l.length = n → m.length = n →
    (eqGuard op t ox oy (.agg dx) (.agg dy)).run P w = .ok () w ∧ (Op.equalIn 10000 t (.agg dx) (.agg dy)).run P w = .ok (l == m) w := by
   intro k n hI l m hl hm hln hmn
   unfold intArr at hI
   split at hI
   ·next n' e he =>
    obtain ⟨th⟩ := hT.told t (by rw [he]; simp)
    have hu := tdOf_arr (P := P) (d := th.d) (by rw [← th.td, he])
    have hd := th.hd
    rw [hu] at hd
    split at hI
    ·next k' hk =>
     cases hz : ((tget T e).size == 1) with
     | false => rw [hz] at hI; cases hI
     | true =>
     rw [hz] at hI
     cases hI
     obtain ⟨te⟩ := hT.told e (by rw [hk]; simp)
     have hue := tdOf_int (P := P) (d := te.d) (by rw [← te.td, hk])
     have hde := te.hd
     rw [hue] at hde
     refine ⟨run_eqGuard_agg w op t ox oy dx dy (eqGuardType_ints hd hde), ?_⟩
     have e1 := ints_VRs hl hx
     have e2 := ints_VRs hm hy
     have e1 : dx = (l.map (Value.int k)).toArray := by rw [← e1]
     have e2 : dy = (m.map (Value.int k)).toArray := by rw [← e2]
     rw [e1, e2]
     have hs1 : te.i.size = 1 := by rw [← te.size]; simpa using hz
     exact run_equalIn_ints 9998 t e n k hd hde (fun w => by rw [run_sizeOf te.hi, hs1]) l m hln hmn
    ·cases hI
   ·cases hI
  split at H
  ·next k n hI =>
   obtain ⟨l, m, hl, hm, hln, hmn, hK⟩ := H
   obtain ⟨h1, h2⟩ := main k n hI l m hl hm hln hmn
   refine ⟨_, .bool (l == m), ?_, hK, rfl⟩
   simp only [Sem.run_bind, h1, Result.andThen_ok, run_eql_struct, h2]
  ·next k n hI =>
   obtain ⟨l, m, hl, hm, hln, hmn, hK⟩ := H
   obtain ⟨h1, h2⟩ := main k n hI l m hl hm hln hmn
   refine ⟨_, .bool (!(l == m)), ?_, hK, rfl⟩
   simp only [Sem.run_bind, h1, Result.andThen_ok, run_neq_struct, h2]
  ·exact H.elim
 ·exact H.elim
theorem exT_sound {t : Nat} {vs : List AVal} {i : Nat} {K : AVal → Prop} (H : exT T t vs i K) : ∃ v, vs[i]? = some v ∧ K v := by
 unfold exT at H
 split at H <;> (obtain ⟨n, h1, h2⟩ := H; exact ⟨_, h1, h2⟩)
theorem extract_sound {t : Nat} {vs : List AVal} {x : Value} (hx : VR μ h (.tuple vs) x) {i : Nat} {K : AVal → Prop} (H : exT T t vs i K) :
  ∃ v d, (Instr.extract x i).run P w = .ok d w ∧ K v ∧ VR μ h v d := by
 simp only [VR] at hx
 obtain ⟨ds, rfl, hx⟩ := hx
 obtain ⟨v, h1, h2⟩ := exT_sound H
 obtain ⟨d, h3, h4⟩ := hx.get h1
 rw [Array.getElem?_toList] at h3
 refine ⟨v, d, ?_, h2, h4⟩
 simp only [Instr.extract, h3]
 rfl
theorem partT_sound (hT : TOK P T) {t : Nat} {cs : List AVal} {ds : List Value} (hx : VRs μ h cs ds) (hall : cs.all AVal.isCell = true) {i : Int} {K : AVal → Prop} (H : partT T t cs i K) :
  0 ≤ i ∧ ∃ v d, (part t ds.toArray i.toNat).run P w = .ok d w ∧ K v ∧ VR μ h v d := by
 have cellcase : ∀ {d v}, P.underlying t = some d → isRowD d = false → cs[i.toNat]? = some v → K v → ∃ v d, (part t ds.toArray i.toNat).run P w = .ok d w ∧ K v ∧ VR μ h v d := by
  intro d v hd hr hv hK
  obtain ⟨d', h3, h4⟩ := hx.get hv
  refine ⟨v, d', ?_, hK, h4⟩
  unfold part
  simp only [Sem.run_bind, run_isAgg hd, hr, Result.andThen_ok, Bool.false_eq_true, if_false, List.getElem?_toArray, h3, Sem.run_pure]
 have rowcase : ∀ (th : Told P T t), isRowD th.d = true → i.toNat + (tget T t).size ≤ cs.length → K (.agg ((cs.drop i.toNat).take (tget T t).size)) → ∃ v d, (part t ds.toArray i.toNat).run P w = .ok d w ∧ K v ∧ VR μ h v d := by
  intro th hr hl hK
  refine ⟨_, .agg ((ds.drop i.toNat).take (tget T t).size).toArray, ?_, hK, ?_⟩
  ·unfold part
   simp only [Sem.run_bind, run_isAgg th.hd, hr, Result.andThen_ok, if_true, run_sizeOf th.hi, Sem.run_pure, th.size]
   congr 2
   apply Array.toList_inj.1
   simp [List.take_drop]
  ·simp only [VR]
   refine ⟨_, rfl, (hx.drop _).take _, ?_⟩
   rw [List.all_eq_true] at *
   intro v hv
   exact hall v (List.mem_of_mem_drop (List.mem_of_mem_take hv))
 unfold partT at H
 have told : (tget T t).d ≠ .other → Nonempty (Told P T t) := hT.told t
 split at H
 ·next e =>
  obtain ⟨n, h0, h1, h2⟩ := H
  obtain ⟨th⟩ := told (by rw [e]; simp)
  exact ⟨h0, cellcase th.hd (by rw [tdOf_int (P := P) (d := th.d) (by rw [← th.td, e])]; rfl) h1 h2⟩
 ·next e =>
  obtain ⟨n, h0, h1, h2⟩ := H
  obtain ⟨th⟩ := told (by rw [e]; simp)
  exact ⟨h0, cellcase th.hd (by rw [tdOf_bool (P := P) (d := th.d) (by rw [← th.td, e])]; rfl) h1 h2⟩
 ·next e =>
  obtain ⟨n, h0, h1, h2⟩ := H
  obtain ⟨th⟩ := told (by rw [e]; simp)
  exact ⟨h0, cellcase th.hd (by rw [tdOf_sl (P := P) (d := th.d) (by rw [← th.td, e])]; rfl) h1 h2⟩
 ·next e =>
  obtain ⟨n, h0, h1, h2⟩ := H
  obtain ⟨th⟩ := told (by rw [e]; simp)
  obtain ⟨u, hu⟩ := tdOf_ptr (P := P) (d := th.d) (by rw [← th.td, e])
  exact ⟨h0, cellcase th.hd (by rw [hu]; rfl) h1 h2⟩
 ·next e =>
  obtain ⟨⟨h0, h1⟩, h2⟩ := H
  obtain ⟨th⟩ := told (by rw [e]; simp)
  exact ⟨h0, rowcase th (by rw [tdOf_arr (P := P) (d := th.d) (by rw [← th.td, e])]; rfl) h1 h2⟩
 ·next e =>
  obtain ⟨⟨h0, h1⟩, h2⟩ := H
  obtain ⟨th⟩ := told (by rw [e]; simp)
  obtain ⟨fs, hu, _⟩ := tdOf_struct (P := P) (d := th.d) (by rw [← th.td, e])
  exact ⟨h0, rowcase th (by rw [hu]; rfl) h1 h2⟩
 ·next e =>
  obtain ⟨n, h0, h1, h2⟩ := H
  obtain ⟨th⟩ := told (by rw [e]; simp)
  exact ⟨h0, cellcase th.hd (by rw [tdOf_str (P := P) (d := th.d) (by rw [← th.td, e])]; rfl) h1 h2⟩
 ·next e =>
  obtain ⟨n, h0, h1, h2⟩ := H
  obtain ⟨th⟩ := told (by rw [e]; simp)
  obtain ⟨_, _, _, hu⟩ := tdOf_func (P := P) (d := th.d) (by rw [← th.td, e])
  exact ⟨h0, cellcase th.hd (by rw [hu]; rfl) h1 h2⟩
 ·next e =>
  obtain ⟨n, h0, h1, h2⟩ := H
  obtain ⟨th⟩ := told (by rw [e]; simp)
  exact ⟨h0, cellcase th.hd (by rw [tdOf_map (P := P) (d := th.d) (by rw [← th.td, e])]; rfl) h1 h2⟩
 ·exact H.elim
def Post (μ : Mu) (h : H) (w : World) (K : AVal → H → Prop) (x : Value) (w' : World) : Prop := ∃ v h' μ', K v h' ∧ Tr μ h w μ' h' w' ∧ VR μ' h' v x
def Sat (P : Program) (f : Nat) (args : List AVal) (h : H) (v : AVal) (h2 : H) : Prop :=
 (∀ (a : Array Value) (w : World), (callFunc f a).run P w = .ok (.enter f a) w) ∧
 ∀ (μ : Mu) (w : World) (ds : List Value), Rel μ h w → VRs μ h args ds → Calls P f ds.toArray w fun e w' => ∃ x μ', e = .returned x ∧ Tr μ h w μ' h2 w' ∧ VR μ' h2 v x
def OpOK (P : Program) (s : Sem Next) (w : World) (R : Value → World → Prop) : Prop :=
 match s.run P w with
 | .ok (.value v) w' => R v w'
 | .ok .skip w' => R (.tuple #[]) w'
 | .ok (.enter f args) w' => Calls P f args w' fun e w'' => ∃ v, e = .returned v ∧ R v w''
 | _ => False
theorem OpOK.val {s : Sem Value} {R : Value → World → Prop} {d w'} (e : s.run P w = .ok d w') (h : R d w') : OpOK P (do pure (.value (← s))) w R := by
 unfold OpOK
 simp only [Sem.run_bind, e, Result.andThen_ok, Sem.run_pure]
 exact h
theorem OpOK.unit {s : Sem Unit} {R : Value → World → Prop} {w'} (e : s.run P w = .ok () w') (h : R (.tuple #[]) w') : OpOK P (do s; pure .skip) w R := by
 unfold OpOK
 simp only [Sem.run_bind, e, Result.andThen_ok, Sem.run_pure]
 exact h
theorem Post.here {K : AVal → H → Prop} (r : Rel μ h w) {v x} (hK : K v h) (hv : VR μ h v x) : Post μ h w K x w := ⟨v, h, μ, hK, Tr.refl r, hv⟩
theorem ev_sound {fr : Frame} {a : Act} (hf : VRs μ h fr a.tmps.toList) (x : Operand) : VR μ h (ev fr x) (a.eval x) := by
 cases x with
 | tmp t =>
  show VR μ h (fr.getD t .undef) (a.tmps.getD t undef)
  rw [List.getD_eq_getElem?_getD]
  cases e : fr[t]? with
  | none => simp [VR]
  | some v =>
   obtain ⟨d, h1, h2⟩ := hf.get e
   rw [Array.getElem?_toList] at h1
   rw [Array.getD_eq_getD_getElem?, h1]
   exact h2
 | const v => exact cv_VR v
 | global g => simp [ev, VR]
 | func f => simp only [ev, VR]; exact ⟨#[], rfl, VRs.nil⟩
theorem callK_sound {S : SatT} {t f : Nat} {args : List AVal} {K : AVal → H → Prop} (H : callK S T t f args h K) : ∃ v h', S f args h v h' ∧ K v h' := by
 unfold callK at H
 split at H <;> (obtain ⟨v, h', h1, h2⟩ := H; exact ⟨_, h', h1, h2⟩)
theorem call_sound {S : SatT} (hS : ∀ f args h v h2, S f args h v h2 → Sat P f args h v h2) (r : Rel μ h w) {t f : Nat} {args : List AVal} {K : AVal → H → Prop} (H : callK S T t f args h K)
  {ds : List Value} (hd : VRs μ h args ds) : OpOK P (callFunc f ds.toArray) w (Post μ h w K) := by
 obtain ⟨v, h', h1, h2⟩ := callK_sound H
 obtain ⟨k1, k2⟩ := hS _ _ _ _ _ h1
 unfold OpOK
 rw [k1]
 exact (k2 μ w ds r hd).mono fun e w' ⟨x, μ', he, ht, hv⟩ => ⟨x, he, v, h', μ', h2, ht, hv⟩
theorem maps_VRs {fr : Frame} {a : Act} (hf : VRs μ h fr a.tmps.toList) (l : List Operand) : VRs μ h (l.map (ev fr)) (l.map a.eval) := by
 refine VRs.mk (by simp) fun i v d h1 h2 => ?_
 rw [List.getElem?_map] at h1 h2
 cases e : l[i]? with
 | none => rw [e] at h1; cases h1
 | some x =>
  rw [e] at h1 h2
  cases h1; cases h2
  exact ev_sound hf x
theorem foldI_sound {f : Int → Int → Int} {m2 : Value → Value → Sem Value} (hm : ∀ k a k' b, m2 (.int k a) (.int k' b) = pure (.int k (f a b))) {k : IntKind} :
  ∀ (l : List AVal) (ds : List Value) (a : Int) (K : AVal → Prop), VRs μ h l ds → foldI f k a l K → ∃ v d, (ds.foldlM m2 (.int k a)).run P w = .ok d w ∧ K v ∧ VR μ h v d
 | [], ds, a, K, hd, H => by
  simp only [VRs] at hd
  subst hd
  exact ⟨_, _, rfl, H, rfl⟩
 | .int k' b :: l, ds, a, K, hd, H => by
  simp only [VRs, VR] at hd
  obtain ⟨d, ds', rfl, rfl, hd⟩ := hd
  unfold foldI at H
  cases hk : sameK k' k with
  | false => rw [hk] at H; exact H.elim
  | true =>
   rw [hk] at H
   simp only [List.foldlM_cons, hm, pure_bind]
   exact foldI_sound hm l ds' _ K hd H
 | .undef :: _, _, _, _, _, H => by simp [foldI] at H
 | .gone :: _, _, _, _, _, H => by simp [foldI] at H
 | .bool _ :: _, _, _, _, _, H => by simp [foldI] at H
 | .str _ :: _, _, _, _, _, H => by simp [foldI] at H
 | .ptr _ :: _, _, _, _, _, H => by simp [foldI] at H
 | .sl _ :: _, _, _, _, _, H => by simp [foldI] at H
 | .func _ _ :: _, _, _, _, _, H => by simp [foldI] at H
 | .nilFunc :: _, _, _, _, _, H => by simp [foldI] at H
 | .map _ :: _, _, _, _, _, H => by simp [foldI] at H
 | .agg _ :: _, _, _, _, _, H => by simp [foldI] at H
 | .tuple _ :: _, _, _, _, _, H => by simp [foldI] at H
end
end Go.Proofs.Ytcoampecbpiecaa.Cl
