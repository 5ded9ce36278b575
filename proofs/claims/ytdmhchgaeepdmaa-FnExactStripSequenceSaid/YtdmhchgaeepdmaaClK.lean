/- The clean machine: a region whose order is drawn comes to what the order of the text comes to. No claim is stated here. -/
import Derived.Test.YtdmhchgaeepdmaaClJ
set_option linter.unusedVariables false
set_option linter.unusedSimpArgs false
namespace Go.Proofs.Ytdmhchgaeepdmaa.Cl
open Go

/-! ### what comes before what -/
theorem testBit_fold (A : Nat → Nat) (x : Nat) : ∀ (l : List Nat) (s0 : Nat), (l.foldl (fun s j => s ||| 2 ^ j ||| A j) s0).testBit x = (s0.testBit x || l.any fun j => decide (j = x) || (A j).testBit x)
  | [], s0 => by simp
  | j :: l, s0 => by
    rw [List.foldl_cons, testBit_fold A x l, Nat.testBit_or, Nat.testBit_or, Nat.testBit_two_pow, List.any_cons, Bool.or_assoc, Bool.or_assoc, Bool.or_assoc]
theorem befs_pre : ∀ (os : List Oper) (acc : List Nat), ∃ rest, befs os acc = acc ++ rest ∧ rest.length = os.length
  | [], acc => ⟨[], by simp [befs], rfl⟩
  | o :: os, acc => by
    obtain ⟨rest, h1, h2⟩ := befs_pre os (acc ++ [(deps o).foldl (fun s j => s ||| 2 ^ j ||| acc.getD j 0) 0])
    refine ⟨(deps o).foldl (fun s j => s ||| 2 ^ j ||| acc.getD j 0) 0 :: rest, ?_, by simp [h2]⟩
    unfold befs
    rw [h1]
    simp
theorem befs_get : ∀ (os : List Oper) (acc : List Nat) (p : Nat) (o : Oper), os[p]? = some o → (∀ d ∈ deps o, d < acc.length + p) →
    ∀ x, bef (befs os acc) (acc.length + p) x = (deps o).any fun j => decide (j = x) || bef (befs os acc) j x
  | [], acc, p, o, h, _, x => by simp at h
  | o' :: os, acc, 0, o, h, hd, x => by
    simp at h
    subst h
    obtain ⟨rest, h1, h2⟩ := befs_pre os (acc ++ [(deps o').foldl (fun s j => s ||| 2 ^ j ||| acc.getD j 0) 0])
    unfold befs
    rw [h1]
    unfold bef
    have e : ((acc ++ [(deps o').foldl (fun s j => s ||| 2 ^ j ||| acc.getD j 0) 0]) ++ rest).getD (acc.length + 0) 0 = (deps o').foldl (fun s j => s ||| 2 ^ j ||| acc.getD j 0) 0 := by
      rw [List.getD_eq_getElem?_getD, List.append_assoc, List.getElem?_append_right (by omega)]
      simp
    rw [e, testBit_fold]
    simp only [Nat.zero_testBit, Bool.false_or]
    rw [Bool.eq_iff_iff, List.any_eq_true, List.any_eq_true]
    have key : ∀ j ∈ deps o', ((acc ++ [(deps o').foldl (fun s j => s ||| 2 ^ j ||| acc.getD j 0) 0]) ++ rest).getD j 0 = acc.getD j 0 := fun j hj => by
      have := hd j hj
      rw [List.getD_eq_getElem?_getD, List.getD_eq_getElem?_getD, List.append_assoc, List.getElem?_append_left (by omega)]
    constructor
    · rintro ⟨j, hj, hx⟩; exact ⟨j, hj, by rw [key j hj]; exact hx⟩
    · rintro ⟨j, hj, hx⟩; exact ⟨j, hj, by rw [key j hj] at hx; exact hx⟩
  | o' :: os, acc, p + 1, o, h, hd, x => by
    have := befs_get os (acc ++ [(deps o').foldl (fun s j => s ||| 2 ^ j ||| acc.getD j 0) 0]) p o (by simpa using h) (fun d hd' => by have := hd d hd'; simp; omega) x
    simp only [List.length_append, List.length_cons, List.length_nil] at this
    rw [show acc.length + (p + 1) = acc.length + (0 + 1) + p by omega]
    unfold befs
    exact this
theorem bef_none {ops : List Oper} {p : Nat} (ho : ops[p]? = none) (x : Nat) : bef (befs ops []) p x = false := by
  obtain ⟨rest, h1, h2⟩ := befs_pre ops []
  unfold bef
  rw [h1, List.getD_eq_getElem?_getD, List.getElem?_eq_none]
  · simp
  · have := List.getElem?_eq_none_iff.1 ho
    simp
    omega
section
variable {ops : List Oper} (hdeps : ∀ (p : Nat) o, ops[p]? = some o → ∀ d ∈ deps o, d < p)
include hdeps
theorem bef_iff {p : Nat} {o : Oper} (ho : ops[p]? = some o) (x : Nat) : bef (befs ops []) p x = true ↔ ∃ d ∈ deps o, d = x ∨ bef (befs ops []) d x = true := by
  have := befs_get ops [] p o ho (fun d hd => by simpa using hdeps p o ho d hd) x
  simp only [List.length_nil, Nat.zero_add] at this
  rw [this, List.any_eq_true]
  simp
theorem bef_lt : ∀ (p x : Nat), bef (befs ops []) p x = true → x < p := by
  intro p
  induction p using Nat.strongRecOn with
  | _ p ih =>
    intro x h
    cases ho : ops[p]? with
    | none => rw [bef_none ho] at h; cases h
    | some o =>
      obtain ⟨d, hd, h1⟩ := (bef_iff hdeps ho x).1 h
      have := hdeps p o ho d hd
      rcases h1 with rfl | h1
      · exact this
      · have := ih d this x h1
        omega
theorem bef_trans : ∀ (c b a : Nat), bef (befs ops []) c b = true → bef (befs ops []) b a = true → bef (befs ops []) c a = true := by
  intro c
  induction c using Nat.strongRecOn with
  | _ c ih =>
    intro b a h1 h2
    cases ho : ops[c]? with
    | none => rw [bef_none ho] at h1; cases h1
    | some o =>
      obtain ⟨d, hd, h3⟩ := (bef_iff hdeps ho b).1 h1
      refine (bef_iff hdeps ho a).2 ⟨d, hd, .inr ?_⟩
      rcases h3 with rfl | h3
      · exact h2
      · exact ih d (hdeps c o ho d hd) b a h3 h2
end
theorem okPairs_spec {ops : List Oper} {b : List Nat} (l : List (Oper × Nat)) : okPairs ops b l = true → ∀ (p q : Nat) x y i j, l[p]? = some (x, i) → l[q]? = some (y, j) → p < q → pairOK ops b i j x y = true ∧ dstApart x y = true := by
  induction l with
  | nil => intro _ p q x y i j h1; simp at h1
  | cons a l ih =>
    intro h p q x y i j h1 h2 hlt
    obtain ⟨x', i'⟩ := a
    have h' : ((l.all fun p => pairOK ops b i' p.2 x' p.1 && dstApart x' p.1) && okPairs ops b l) = true := h
    rw [Bool.and_eq_true, List.all_eq_true] at h'
    cases q with
    | zero => omega
    | succ q =>
      rw [List.getElem?_cons_succ] at h2
      cases p with
      | zero =>
        rw [List.getElem?_cons_zero] at h1
        injection h1 with h1
        injection h1 with h1 h3
        subst h1 h3
        have := h'.1 (y, j) (List.mem_of_getElem? h2)
        rwa [Bool.and_eq_true] at this
      | succ p =>
        rw [List.getElem?_cons_succ] at h1
        exact ih h'.2 p q x y i j h1 h2 (by omega)
theorem okD_spec {ops : List Oper} (h : okD ops (befs ops []) = true) : (∀ (p : Nat) o, ops[p]? = some o → ∀ d ∈ deps o, d < p) ∧
    ∀ (i j : Nat) x y, ops[i]? = some x → ops[j]? = some y → i < j → pairOK ops (befs ops []) i j x y = true ∧ dstApart x y = true := by
  unfold okD at h
  rw [Bool.and_eq_true, List.all_eq_true] at h
  have hz : ∀ (p : Nat) o, ops[p]? = some o → ops.zipIdx[p]? = some (o, p) := fun p o ho => by
    rw [List.getElem?_zipIdx, ho]; simp
  refine ⟨fun p o ho d hd => ?_, fun i j x y hx hy hij => okPairs_spec _ h.2 i j x y i j (hz i x hx) (hz j y hy) hij⟩
  have := h.1 (o, p) (List.mem_of_getElem? (hz p o ho))
  simp only [List.all_eq_true, decide_eq_true_eq] at this
  exact this d hd

/-! ### steps and their orders -/
structure Stp where
  i : Nat
  o : Oper
  fr : Frame
  ex : Bool
  v : AVal
  h : H
  h' : H
section
variable {P : Program} {T : Tab} {S : SatT} {ops : List Oper}
def gOK (ops : List Oper) (fr : Frame) (o : Oper) : Prop :=
  match o.guard with
  | none => True
  | some (j, want) => ∃ d, dstOf ops j = some d ∧ fr.getD d .undef = .bool want
def gNo (ops : List Oper) (fr : Frame) (o : Oper) : Prop :=
  match o.guard with
  | none => False
  | some (j, want) => ∃ d, dstOf ops j = some d ∧ (fr.getD d .undef = .bool (!want) ∨ fr.getD d .undef = .gone)
def agree (ops : List Oper) (o : Oper) (fr fr' : Frame) : Prop := ∀ t ∈ readsOf ops o, fr.getD t .undef = fr'.getD t .undef
/-- What a step tells, asked in another heap. -/
def Tells (S : SatT) (T : Tab) (a : Stp) (h : H) : Prop := opK S T a.o a.fr h fun v h2 => v = a.v ∧ h2 = h
inductive Val (S : SatT) (T : Tab) (ops : List Oper) : Frame → H → List Stp → Frame → H → Prop where
  | nil {fr h} : Val S T ops fr h [] fr h
  | cons {fr h st l fr2 h2} : st.h = h → agree ops st.o fr st.fr → (st.ex = true → gOK ops st.fr st.o ∧ opK S T st.o st.fr st.h fun v h => v = st.v ∧ h = st.h') →
      (st.ex = false → gNo ops st.fr st.o ∧ st.v = .gone ∧ st.h' = st.h) → Val S T ops (put fr st.o.dst st.v) st.h' l fr2 h2 → Val S T ops fr h (st :: l) fr2 h2
/-- A change: carried out, and of the kinds that change the heap. -/
def Stp.chg (a : Stp) : Prop := a.ex = true ∧ isMut a.o.op = true
structure Sim (a b : Stp) : Prop where
  i : a.i = b.i
  o : a.o = b.o
  fr : a.fr = b.fr
  ex : a.ex = b.ex
  v : a.v = b.v
  chg : a.chg → a.h = b.h ∧ a.h' = b.h'
theorem Sim.refl (a : Stp) : Sim a a := ⟨rfl, rfl, rfl, rfl, rfl, fun _ => ⟨rfl, rfl⟩⟩
/-- Of two steps that may stand in either order: the one that changes nothing tells the same on both sides of the other. -/
def Both (S : SatT) (T : Tab) (b : List Nat) (x y : Stp) : Prop := x.ex = true → isMut x.o.op = false → y.chg → unord b x.i y.i = true → Tells S T x y.h ∧ Tells S T x y.h'
theorem Both.sim {b x y x' y'} (h : Both S T b x y) (sx : Sim x x') (sy : Sim y y') : Both S T b x' y' := by
  intro e1 e2 e3 e4
  have m : y.chg := ⟨by rw [sy.ex]; exact e3.1, by rw [sy.o]; exact e3.2⟩
  have := h (by rw [sx.ex]; exact e1) (by rw [sx.o]; exact e2) m (by rw [sx.i, sy.i]; exact e4)
  unfold Tells at *
  rw [← sx.o, ← sx.fr, ← sx.v, ← (sy.chg m).1, ← (sy.chg m).2]
  exact this
theorem getD_put (fr : Frame) (d : Option Nat) (v : AVal) (t : Nat) (h : ∀ d', d = some d' → d' ≠ t) : (put fr d v).getD t .undef = fr.getD t .undef := by
  cases d with
  | none => rfl
  | some d =>
    simp only [put, List.getD_eq_getElem?_getD]
    rw [List.getElem?_set_ne (h d rfl)]
theorem put_comm (fr : Frame) (d e : Option Nat) (u v : AVal) (h : ∀ x y, d = some x → e = some y → x ≠ y) : put (put fr d u) e v = put (put fr e v) d u := by
  cases d with
  | none => rfl
  | some d => cases e with
    | none => rfl
    | some e => simp only [put]; exact List.set_comm _ _ (h d e rfl rfl)
theorem nonmut_same {a : Stp} (hm : isMut a.o.op = false) (h : opK S T a.o a.fr a.h fun v h2 => v = a.v ∧ h2 = a.h') : a.h' = a.h := by
  obtain ⟨R, h1, _, _⟩ := nonmut (S := S) (T := T) a.o a.fr hm
  obtain ⟨v, _, _, e⟩ := (h1 _ _).1 h
  exact e.symm
/-- May two steps change places? -/
structure Apart (ops : List Oper) (b : List Nat) (x y : Stp) : Prop where
  un : unord b x.i y.i = true
  chg : ¬ (isMut x.o.op = true ∧ isMut y.o.op = true)
  xy : ∀ d, x.o.dst = some d → d ∉ readsOf ops y.o
  yx : ∀ d, y.o.dst = some d → d ∉ readsOf ops x.o
  dd : ∀ d e, x.o.dst = some d → y.o.dst = some e → d ≠ e
theorem unord_comm (b : List Nat) (i j : Nat) : unord b i j = unord b j i := by unfold unord; rw [Bool.and_comm]
theorem swap {b : List Nat} {fr h x y l fr2 h2} (H : Val S T ops fr h (x :: y :: l) fr2 h2) (ap : Apart ops b x y) (c1 : Both S T b x y) (c2 : Both S T b y x) :
    ∃ x' y', Sim x x' ∧ Sim y y' ∧ Val S T ops fr h (y' :: x' :: l) fr2 h2 := by
  cases H with
  | cons hx ax ex nx H =>
  cases H with
  | cons hy ay ey ny H =>
  have ay' : agree ops y.o fr y.fr := fun t ht => by rw [← ay t ht, getD_put _ _ _ _ fun d hd e => ap.xy d hd (e ▸ ht)]
  have ax' : agree ops x.o (put fr y.o.dst y.v) x.fr := fun t ht => by rw [getD_put _ _ _ _ fun d hd e => ap.yx d hd (e ▸ ht)]; exact ax t ht
  have hput : put (put fr x.o.dst x.v) y.o.dst y.v = put (put fr y.o.dst y.v) x.o.dst x.v := put_comm _ _ _ _ _ fun d e h1 h2 => ap.dd d e h1 h2
  rw [hput] at H
  by_cases mx : x.chg
  · -- x changes the heap: y does not
    have hyy : y.h' = y.h := by
      cases e : y.ex with
      | false => exact (ny e).2.2
      | true =>
        have : isMut y.o.op = false := by
          cases hm : isMut y.o.op with
          | false => rfl
          | true => exact absurd ⟨mx.2, hm⟩ ap.chg
        exact nonmut_same this (ey e).2
    refine ⟨x, { y with h := h, h' := h }, Sim.refl _, ⟨rfl, rfl, rfl, rfl, rfl, fun m => absurd ⟨mx.2, m.2⟩ ap.chg⟩, ?_⟩
    refine .cons rfl ay' (fun e => ⟨(ey e).1, ?_⟩) (fun e => ⟨(ny e).1, (ny e).2.1, rfl⟩) ?_
    · have hm : isMut y.o.op = false := by
        cases hm : isMut y.o.op with
        | false => rfl
        | true => exact absurd ⟨mx.2, hm⟩ ap.chg
      have := (c2 e hm mx (by rw [unord_comm]; exact ap.un)).1
      rw [hx] at this
      exact this
    · refine .cons hx ax' ex nx ?_
      rw [hyy, hy] at H
      exact H
  · have hxx : x.h' = x.h := by
      cases e : x.ex with
      | false => exact (nx e).2.2
      | true =>
        have : isMut x.o.op = false := by
          cases hm : isMut x.o.op with
          | false => rfl
          | true => exact absurd ⟨e, hm⟩ mx
        exact nonmut_same this (ex e).2
    refine ⟨{ x with h := y.h', h' := y.h' }, y, ⟨rfl, rfl, rfl, rfl, rfl, fun m => absurd m mx⟩, Sim.refl _, ?_⟩
    refine .cons (by rw [hy, hxx, hx]) ay' ey ny ?_
    refine .cons rfl ax' (fun e => ⟨(ex e).1, ?_⟩) (fun e => ⟨(nx e).1, (nx e).2.1, rfl⟩) H
    have hm : isMut x.o.op = false := by
      cases hm : isMut x.o.op with
      | false => rfl
      | true => exact absurd ⟨e, hm⟩ mx
    by_cases my : y.chg
    · exact (c1 e hm my ap.un).2
    · have hyy : y.h' = y.h := by
        cases e : y.ex with
        | false => exact (ny e).2.2
        | true =>
          have : isMut y.o.op = false := by
            cases hm : isMut y.o.op with
            | false => rfl
            | true => exact absurd ⟨e, hm⟩ my
          exact nonmut_same this (ey e).2
      have := (ex e).2
      rw [hxx] at this
      show opK S T x.o x.fr y.h' fun v h2 => v = x.v ∧ h2 = y.h'
      rw [hyy, hy, hxx]
      exact this
/-- Two lists of steps, one by one alike. -/
def Sims : List Stp → List Stp → Prop
  | [], [] => True
  | a :: l, b :: m => Sim a b ∧ Sims l m
  | _, _ => False
theorem Sims.refl : ∀ l, Sims l l
  | [] => trivial
  | a :: l => ⟨Sim.refl a, Sims.refl l⟩
theorem front {b : List Nat} {s : Stp} {post : List Stp} : ∀ (pre : List Stp) {fr h fr2 h2}, Val S T ops fr h (pre ++ s :: post) fr2 h2 →
    (∀ x ∈ pre, Apart ops b x s ∧ Both S T b x s ∧ Both S T b s x) → ∃ pre' s', Sims pre pre' ∧ Sim s s' ∧ Val S T ops fr h (s' :: pre' ++ post) fr2 h2
  | [], fr, h, fr2, h2, hV, _ => ⟨[], s, trivial, Sim.refl s, hV⟩
  | x :: pre, fr, h, fr2, h2, hV, hp => by
    cases hV with
    | cons k1 k2 k3 k4 k5 =>
      obtain ⟨pre', s', q1, q2, q3⟩ := front pre k5 fun y hy => hp y (by simp [hy])
      obtain ⟨p1, p2, p3⟩ := hp x (by simp)
      have hx : Val S T ops fr h (x :: s' :: (pre' ++ post)) fr2 h2 := .cons k1 k2 k3 k4 q3
      have ap : Apart ops b x s' := ⟨by rw [← q2.i]; exact p1.un, by rw [← q2.o]; exact p1.chg, by rw [← q2.o]; exact p1.xy, by rw [← q2.o]; exact p1.yx, by rw [← q2.o]; exact p1.dd⟩
      obtain ⟨x', s'', r1, r2, r3⟩ := swap hx ap (p2.sim (Sim.refl x) q2) (p3.sim q2 (Sim.refl x))
      exact ⟨x' :: pre', s'', ⟨r1, q1⟩, ⟨q2.i.trans r2.i, q2.o.trans r2.o, q2.fr.trans r2.fr, q2.ex.trans r2.ex, q2.v.trans r2.v, fun m => by
        have m1 := q2.chg m
        have m' : s'.chg := ⟨by rw [← q2.ex]; exact m.1, by rw [← q2.o]; exact m.2⟩
        have m2 := r2.chg m'
        exact ⟨m1.1.trans m2.1, m1.2.trans m2.2⟩⟩, r3⟩

/-! ### what a run in the order of the text tells -/
def Rr (S : SatT) (T : Tab) (o : Oper) (fr : Frame) (h : H) (v : AVal) : Prop := opK S T o fr h fun v2 h2 => v2 = v ∧ h2 = h
theorem chk_tells {o : Oper} {fr : Frame} (hm : isMut o.op = false) {h h' : H} {K : Prop} (e : chkK T o fr h h' K) : (∀ v, Rr S T o fr h v → Rr S T o fr h' v) ∧ K := by
  obtain ⟨R, h1, _, h3⟩ := nonmut (S := S) (T := T) o fr hm
  obtain ⟨k1, k2⟩ := h3 h h' K e
  refine ⟨fun v hv => ?_, k2⟩
  obtain ⟨v', a, rfl, _⟩ := (h1 _ _).1 hv
  exact (h1 _ _).2 ⟨v', k1 v' a, rfl, rfl⟩
theorem pure_tells {o : Oper} {fr : Frame} (hm : isMut o.op = false) (hr : isRead o.op = false) (h h' : H) (v : AVal) (e : Rr S T o fr h v) : Rr S T o fr h' v := by
  obtain ⟨R, h1, h2, _⟩ := nonmut (S := S) (T := T) o fr hm
  obtain ⟨v', a, rfl, _⟩ := (h1 _ _).1 e
  exact (h1 _ _).2 ⟨v', h2 hr h h' v' a, rfl, rfl⟩
theorem op_one {o : Oper} {fr : Frame} {h : H} {K : AVal → H → Prop} (e : opK S T o fr h K) : ∃ v h', (opK S T o fr h fun v2 h2 => v2 = v ∧ h2 = h') ∧ K v h' := by
  obtain ⟨R, hR⟩ := Lin.two (opK_lin (S := S) (T := T) (h := h) o fr)
  obtain ⟨v, h', a, b⟩ := (hR _).1 e
  exact ⟨v, h', (hR _).2 ⟨v, h', a, rfl, rfl⟩, b⟩
theorem op_same {o : Oper} {fr : Frame} {h h' : H} {v : AVal} (hm : isMut o.op = false) (e : opK S T o fr h fun v2 h2 => v2 = v ∧ h2 = h') : h' = h := by
  obtain ⟨R, h1, _, _⟩ := nonmut (S := S) (T := T) o fr hm
  obtain ⟨v, _, _, e⟩ := (h1 _ _).1 e
  exact e.symm
theorem chkPend_spec {b : List Nat} {k : Nat} {h' : H} : ∀ (pend : List (Nat × Oper × Frame × H)) (K : Prop), (∀ e ∈ pend, isMut e.2.1.op = false) → chkPend T b k h' pend K →
    K ∧ ∀ e ∈ pend, unord b e.1 k = true → ∀ v, Rr S T e.2.1 e.2.2.1 e.2.2.2 v → Rr S T e.2.1 e.2.2.1 h' v
  | [], K, _, hK => ⟨hK, fun e he => by simp at he⟩
  | (i, o, fr, h) :: l, K, hm, hK => by
    unfold chkPend at hK
    cases hu : unord b i k with
    | false =>
      rw [hu] at hK
      obtain ⟨h1, h2⟩ := chkPend_spec l K (fun e he => hm e (by simp [he])) hK
      refine ⟨h1, fun e he hu' => ?_⟩
      rcases List.mem_cons.1 he with rfl | he
      · rw [hu] at hu'; cases hu'
      · exact h2 e he hu'
    | true =>
      rw [hu] at hK
      obtain ⟨h0, hK⟩ := chk_tells (S := S) (hm (i, o, fr, h) (by simp)) hK
      obtain ⟨h1, h2⟩ := chkPend_spec l K (fun e he => hm e (by simp [he])) hK
      refine ⟨h1, fun e he hu' => ?_⟩
      rcases List.mem_cons.1 he with rfl | he
      · exact h0
      · exact h2 e he hu'
theorem chkPast_spec {b : List Nat} {i : Nat} {o : Oper} {fr : Frame} {h : H} (hm : isMut o.op = false) : ∀ (past : List (Nat × H)) (K : Prop), chkPast T b i o fr h past K →
    K ∧ ∀ e ∈ past, unord b i e.1 = true → ∀ v, Rr S T o fr h v → Rr S T o fr e.2 v
  | [], K, hK => ⟨hK, fun e he => by simp at he⟩
  | (k, h0) :: l, K, hK => by
    unfold chkPast at hK
    cases hu : unord b i k with
    | false =>
      rw [hu] at hK
      obtain ⟨h1, h2⟩ := chkPast_spec hm l K hK
      refine ⟨h1, fun e he hu' => ?_⟩
      rcases List.mem_cons.1 he with rfl | he
      · rw [hu] at hu'; cases hu'
      · exact h2 e he hu'
    | true =>
      rw [hu] at hK
      obtain ⟨h0, hK⟩ := chk_tells (S := S) hm hK
      obtain ⟨h1, h2⟩ := chkPast_spec hm l K hK
      refine ⟨h1, fun e he hu' => ?_⟩
      rcases List.mem_cons.1 he with rfl | he
      · exact h0
      · exact h2 e he hu'
/-- The changes so far, the last one first, each with the heap ahead of it and behind it. -/
def PC (b : List Nat) : List (Nat × H × H) → H → Prop
  | [], _ => True
  | (k, h0, h1) :: rest, h => h1 = h ∧ (∀ e ∈ rest, bef b k e.1 = true) ∧ PC b rest h0
theorem past_both {b : List Nat} {Q : H → Prop} {i : Nat} (htr : ∀ c b' a, bef b c b' = true → bef b b' a = true → bef b c a = true) (hlt : ∀ p x, bef b p x = true → x < p) :
    ∀ (past : List (Nat × H × H)) (h : H), PC b past h → (∀ e ∈ past, e.1 < i) → Q h → (∀ e ∈ past, unord b i e.1 = true → Q e.2.1) → ∀ e ∈ past, unord b i e.1 = true → Q e.2.1 ∧ Q e.2.2
  | [], h, _, _, _, _, e, he, _ => by simp at he
  | (k, h0, h1) :: rest, h, hp, hi, hQ, hq, e, he, hu => by
    obtain ⟨rfl, hb, hp⟩ := hp
    rcases List.mem_cons.1 he with rfl | he'
    · exact ⟨hq _ (by simp) hu, hQ⟩
    · have hk : unord b i k = true := by
        have hb1 := hb e he'
        have h2 := hi (k, h0, h1) (by simp)
        unfold unord at hu ⊢
        rw [Bool.and_eq_true] at hu ⊢
        refine ⟨?_, ?_⟩
        · cases h3 : bef b i k with
          | false => rfl
          | true =>
            have := htr i k e.1 h3 hb1
            rw [this] at hu
            cases hu.1
        · cases h3 : bef b k i with
          | false => rfl
          | true => have := hlt k i h3; simp at h2; omega
      exact past_both htr hlt rest h0 hp (fun e he => hi e (by simp [he])) (hq (k, h0, h1) (by simp) hk) (fun e he => hq e (by simp [he])) e he' hu
theorem run_trace (hok : okD ops (befs ops []) = true) {k : Frame → H → Prop} :
    ∀ (l : List (Oper × Nat)) (past : List (Nat × H × H)) (pend : List (Nat × Oper × Frame × H)) (fr : Frame) (h : H),
      (∀ p ∈ l, ops[p.2]? = some p.1) → l.Pairwise (fun p q => p.2 < q.2) → (∀ e ∈ past, (∃ o, ops[e.1]? = some o ∧ isMut o.op = true) ∧ ∀ p ∈ l, e.1 < p.2) → (∀ e ∈ pend, isMut e.2.1.op = false ∧ ∀ p ∈ l, e.1 < p.2) →
      PC (befs ops []) past h → (∀ e ∈ pend, ∀ p ∈ l, isMut p.1.op = true → unord (befs ops []) e.1 p.2 = true → ∀ v, Rr S T e.2.1 e.2.2.1 e.2.2.2 v → Rr S T e.2.1 e.2.2.1 h v) →
      runDraw S T ops (befs ops []) l (past.map fun e => (e.1, e.2.1)) pend k fr h →
      ∃ L fr2 h2, Val S T ops fr h L fr2 h2 ∧ k fr2 h2 ∧ L.map (fun s => (s.o, s.i)) = l ∧ (∀ x ∈ L, ∀ y ∈ L, Both S T (befs ops []) x y) ∧
        (∀ e ∈ pend, ∀ y ∈ L, y.chg → unord (befs ops []) e.1 y.i = true → ∀ v, Rr S T e.2.1 e.2.2.1 e.2.2.2 v → Rr S T e.2.1 e.2.2.1 y.h v ∧ Rr S T e.2.1 e.2.2.1 y.h' v) ∧
        (∀ e ∈ past, ∀ x ∈ L, x.ex = true → isMut x.o.op = false → unord (befs ops []) x.i e.1 = true → Tells S T x e.2.1 ∧ Tells S T x e.2.2) := by
  obtain ⟨hdeps, hpair⟩ := okD_spec hok
  intro l
  induction l with
  | nil =>
    intro past pend fr h _ _ _ _ _ _ hR
    exact ⟨[], fr, h, .nil, hR, rfl, fun x hx => by simp at hx, fun e _ y hy => by simp at hy, fun e _ x hx => by simp at hx⟩
  | cons p l ih =>
    obtain ⟨o, i⟩ := p
    intro past pend fr h hops hinc hpast hpend hPC hpo hR
    have hmm : ∀ e ∈ past, isMut o.op = true → bef (befs ops []) i e.1 = true := fun e he hm => by
      obtain ⟨⟨o', ho', hm'⟩, hlt⟩ := hpast e he
      have := (hpair e.1 i o' o ho' (hops (o, i) (by simp)) (hlt (o, i) (by simp))).1
      unfold pairOK at this
      rw [hm, hm'] at this
      simpa using this
    have skipOK : gNo ops fr o → runDraw S T ops (befs ops []) l (past.map fun e => (e.1, e.2.1)) pend k (put fr o.dst .gone) h →
      ∃ L fr2 h2, Val S T ops fr h L fr2 h2 ∧ k fr2 h2 ∧ L.map (fun s => (s.o, s.i)) = (o, i) :: l ∧ (∀ x ∈ L, ∀ y ∈ L, Both S T (befs ops []) x y) ∧
        (∀ e ∈ pend, ∀ y ∈ L, y.chg → unord (befs ops []) e.1 y.i = true → ∀ v, Rr S T e.2.1 e.2.2.1 e.2.2.2 v → Rr S T e.2.1 e.2.2.1 y.h v ∧ Rr S T e.2.1 e.2.2.1 y.h' v) ∧
        (∀ e ∈ past, ∀ x ∈ L, x.ex = true → isMut x.o.op = false → unord (befs ops []) x.i e.1 = true → Tells S T x e.2.1 ∧ Tells S T x e.2.2) := by
      intro hg hR
      obtain ⟨L, fr2, h2, q1, q2, q3, q4, q5, q6⟩ := ih past pend (put fr o.dst .gone) h (fun p hp => hops p (by simp [hp])) (List.pairwise_cons.1 hinc).2 (fun e he => ⟨(hpast e he).1, fun p hp => (hpast e he).2 p (by simp [hp])⟩)
        (fun e he => ⟨(hpend e he).1, fun p hp => (hpend e he).2 p (by simp [hp])⟩) hPC (fun e he p hp => hpo e he p (by simp [hp])) hR
      refine ⟨⟨i, o, fr, false, .gone, h, h⟩ :: L, fr2, h2, .cons rfl (fun _ _ => rfl) (fun e => by cases e) (fun _ => ⟨hg, rfl, rfl⟩) q1, q2, by simp [q3], ?_, ?_, ?_⟩
      · intro x hx y hy
        rcases List.mem_cons.1 hx with rfl | hx
        · intro e; cases e
        · rcases List.mem_cons.1 hy with rfl | hy
          · intro _ _ m; cases m.1
          · exact q4 x hx y hy
      · intro e he y hy
        rcases List.mem_cons.1 hy with rfl | hy
        · intro m; cases m.1
        · exact q5 e he y hy
      · intro e he x hx
        rcases List.mem_cons.1 hx with rfl | hx
        · intro e; cases e
        · exact q6 e he x hx
    have stepOK : gOK ops fr o → (stepDraw S T (befs ops []) i o (past.map fun e => (e.1, e.2.1)) pend fr h fun past pend v h => runDraw S T ops (befs ops []) l past pend k (put fr o.dst v) h) →
      ∃ L fr2 h2, Val S T ops fr h L fr2 h2 ∧ k fr2 h2 ∧ L.map (fun s => (s.o, s.i)) = (o, i) :: l ∧ (∀ x ∈ L, ∀ y ∈ L, Both S T (befs ops []) x y) ∧
        (∀ e ∈ pend, ∀ y ∈ L, y.chg → unord (befs ops []) e.1 y.i = true → ∀ v, Rr S T e.2.1 e.2.2.1 e.2.2.2 v → Rr S T e.2.1 e.2.2.1 y.h v ∧ Rr S T e.2.1 e.2.2.1 y.h' v) ∧
        (∀ e ∈ past, ∀ x ∈ L, x.ex = true → isMut x.o.op = false → unord (befs ops []) x.i e.1 = true → Tells S T x e.2.1 ∧ Tells S T x e.2.2) := by
      intro hg hR
      unfold stepDraw at hR
      cases hm : isMut o.op with
      | true =>
        rw [hm] at hR
        simp only [cond_true] at hR
        obtain ⟨v, h', hv, hK⟩ := op_one hR
        obtain ⟨hK, hc⟩ := chkPend_spec (S := S) pend _ (fun e he => (hpend e he).1) hK
        obtain ⟨L, fr2, h2, q1, q2, q3, q4, q5, q6⟩ := ih ((i, h, h') :: past) pend (put fr o.dst v) h' (fun p hp => hops p (by simp [hp])) (List.pairwise_cons.1 hinc).2
          (fun e he => by
            rcases List.mem_cons.1 he with rfl | he
            · exact ⟨⟨o, hops (o, i) (by simp), hm⟩, fun p hp => (List.pairwise_cons.1 hinc).1 p hp⟩
            · exact ⟨(hpast e he).1, fun p hp => (hpast e he).2 p (by simp [hp])⟩)
          (fun e he => ⟨(hpend e he).1, fun p hp => (hpend e he).2 p (by simp [hp])⟩) ⟨rfl, fun e he => hmm e he hm, hPC⟩
          (fun e he p hp hpm hu v hv => by
            refine hc e he ?_ v hv
            have h1 : bef (befs ops []) p.2 i = true := by
              have := (hpair i p.2 o p.1 (hops (o, i) (by simp)) (hops p (by simp [hp])) ((List.pairwise_cons.1 hinc).1 p hp)).1
              unfold pairOK at this
              rw [hm, hpm] at this
              simpa using this
            have h2 := (hpend e he).2 (o, i) (by simp)
            unfold unord at hu ⊢
            rw [Bool.and_eq_true] at hu ⊢
            refine ⟨?_, ?_⟩
            · cases h3 : bef (befs ops []) e.1 i with
              | false => rfl
              | true => have := bef_lt hdeps _ _ h3; simp at h2; omega
            · cases h3 : bef (befs ops []) i e.1 with
              | false => rfl
              | true =>
                have := bef_trans hdeps _ _ _ h1 h3
                rw [this] at hu
                cases hu.2)
          hK
        refine ⟨⟨i, o, fr, true, v, h, h'⟩ :: L, fr2, h2, .cons rfl (fun _ _ => rfl) (fun _ => ⟨hg, hv⟩) (fun e => by cases e) q1, q2, by simp [q3], ?_, ?_, ?_⟩
        · intro x hx y hy
          rcases List.mem_cons.1 hx with rfl | hx
          · intro _ e; simp only at e; rw [hm] at e; cases e
          · rcases List.mem_cons.1 hy with rfl | hy
            · intro e1 e2 _ e4
              exact q6 (i, h, h') (by simp) x hx e1 e2 e4
            · exact q4 x hx y hy
        · intro e he y hy
          rcases List.mem_cons.1 hy with rfl | hy
          · intro _ hu v hv
            exact ⟨hpo e he (o, i) (by simp) hm hu v hv, hc e he hu v hv⟩
          · exact q5 e he y hy
        · intro e he x hx
          rcases List.mem_cons.1 hx with rfl | hx
          · intro _ e; simp only at e; rw [hm] at e; cases e
          · exact q6 e (by simp [he]) x hx
      | false =>
        rw [hm] at hR
        simp only [cond_false] at hR
        have main : ∀ (v : AVal) (pend' : List (Nat × Oper × Frame × H)), (opK S T o fr h fun v2 h2 => v2 = v ∧ h2 = h) → (∀ e ∈ past, unord (befs ops []) i e.1 = true → ∀ v, Rr S T o fr h v → Rr S T o fr e.2.1 v) →
            (∀ e ∈ pend', e ∈ pend ∨ (e = (i, o, fr, h))) → (∀ e ∈ pend, e ∈ pend') → ((i, o, fr, h) ∈ pend' ∨ isRead o.op = false) →
            runDraw S T ops (befs ops []) l (past.map fun e => (e.1, e.2.1)) pend' k (put fr o.dst v) h →
            ∃ L fr2 h2, Val S T ops fr h L fr2 h2 ∧ k fr2 h2 ∧ L.map (fun s => (s.o, s.i)) = (o, i) :: l ∧ (∀ x ∈ L, ∀ y ∈ L, Both S T (befs ops []) x y) ∧
              (∀ e ∈ pend, ∀ y ∈ L, y.chg → unord (befs ops []) e.1 y.i = true → ∀ v, Rr S T e.2.1 e.2.2.1 e.2.2.2 v → Rr S T e.2.1 e.2.2.1 y.h v ∧ Rr S T e.2.1 e.2.2.1 y.h' v) ∧
              (∀ e ∈ past, ∀ x ∈ L, x.ex = true → isMut x.o.op = false → unord (befs ops []) x.i e.1 = true → Tells S T x e.2.1 ∧ Tells S T x e.2.2) := by
          intro v pend' hv hpst hsub hsup hnew hR
          obtain ⟨L, fr2, h2, q1, q2, q3, q4, q5, q6⟩ := ih past pend' (put fr o.dst v) h (fun p hp => hops p (by simp [hp])) (List.pairwise_cons.1 hinc).2 (fun e he => ⟨(hpast e he).1, fun p hp => (hpast e he).2 p (by simp [hp])⟩)
            (fun e he => by
              rcases hsub e he with he | rfl
              · exact ⟨(hpend e he).1, fun p hp => (hpend e he).2 p (by simp [hp])⟩
              · exact ⟨hm, fun p hp => (List.pairwise_cons.1 hinc).1 p hp⟩) hPC
            (fun e he p hp => by
              rcases hsub e he with he | rfl
              · exact hpo e he p (by simp [hp])
              · exact fun _ _ v hv => hv) hR
          refine ⟨⟨i, o, fr, true, v, h, h⟩ :: L, fr2, h2, .cons rfl (fun _ _ => rfl) (fun _ => ⟨hg, hv⟩) (fun e => by cases e) q1, q2, by simp [q3], ?_, ?_, ?_⟩
          · intro x hx y hy
            rcases List.mem_cons.1 hx with rfl | hx
            · rcases List.mem_cons.1 hy with rfl | hy
              · intro _ _ m; have := m.2; simp only at this; rw [hm] at this; cases this
              · intro _ _ m hu
                rcases hnew with hnew | hnew
                · exact q5 (i, o, fr, h) hnew y hy m hu v hv
                · exact ⟨pure_tells hm hnew h _ v hv, pure_tells hm hnew h _ v hv⟩
            · rcases List.mem_cons.1 hy with rfl | hy
              · intro _ _ m; have := m.2; simp only at this; rw [hm] at this; cases this
              · exact q4 x hx y hy
          · intro e he y hy
            rcases List.mem_cons.1 hy with rfl | hy
            · intro m; have := m.2; simp only at this; rw [hm] at this; cases this
            · exact q5 e (hsup e he) y hy
          · intro e he x hx
            rcases List.mem_cons.1 hx with rfl | hx
            · intro _ _ hu
              exact past_both (Q := fun h => Rr S T o fr h v) (i := i) (fun c b a => bef_trans hdeps c b a) (fun p x => bef_lt hdeps p x) past h hPC (fun e he => (hpast e he).2 (o, i) (by simp)) hv (fun e he hu => hpst e he hu v hv) e he hu
            · exact q6 e he x hx
        cases hr : isRead o.op with
        | true =>
          rw [hr] at hR
          simp only [cond_true] at hR
          obtain ⟨v, h', hv, hK⟩ := op_one hR
          have e := op_same hm hv
          subst e
          obtain ⟨hK, hc⟩ := chkPast_spec (S := S) hm _ _ hK
          exact main v ((i, o, fr, h') :: pend) hv (fun e he hu => hc (e.1, e.2.1) (List.mem_map_of_mem he) hu) (fun e he => (List.mem_cons.1 he).symm) (fun e he => by simp [he]) (.inl (by simp)) hK
        | false =>
          rw [hr] at hR
          simp only [cond_false] at hR
          obtain ⟨v, h', hv, hK⟩ := op_one hR
          have e := op_same hm hv
          subst e
          exact main v pend hv (fun e he hu v hv => pure_tells hm hr h' _ v hv) (fun e he => .inl he) (fun e he => he) (.inr hr) hK
    unfold runDraw at hR
    cases hg : o.guard with
    | none =>
      rw [hg] at hR
      exact stepOK (by unfold gOK; rw [hg]; trivial) hR
    | some g =>
      obtain ⟨j, want⟩ := g
      rw [hg] at hR
      simp only at hR
      cases hd : dstOf ops j with
      | none => rw [hd] at hR; exact hR.elim
      | some d =>
        rw [hd] at hR
        simp only at hR
        split at hR
        · next c e =>
          have es := set_same e (by simp)
          cases c <;> cases want <;> simp only [cond_true, cond_false, es] at hR <;> first
            | exact stepOK (by unfold gOK; rw [hg]; exact ⟨d, hd, e⟩) hR
            | exact skipOK (by unfold gNo; rw [hg]; exact ⟨d, hd, .inl e⟩) hR
        · next e => exact skipOK (by unfold gNo; rw [hg]; exact ⟨d, hd, .inr e⟩) hR
        · exact hR.elim
end
end Go.Proofs.Ytdmhchgaeepdmaa.Cl
