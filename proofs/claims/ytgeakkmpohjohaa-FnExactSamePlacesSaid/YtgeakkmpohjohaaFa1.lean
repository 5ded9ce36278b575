/- Texts of the clean machine, joined. No claim is stated here. -/
import Derived.Test.YtgeakkmpohjohaaFa0
import Derived.LoopN
/- The clean machine: an operation sees of the frame and the heap what it reads. No claim is stated here. -/
set_option linter.unusedVariables false
set_option linter.unusedSimpArgs false
namespace Go.Proofs.Ytgeakkmpohjohaa.Cl
open Go
section
variable {T : Tab} {S : SatT} {h : H}
theorem parts_congr {fr fr' : Frame} {ps : Array (Nat × Operand)} (hp : ∀ x ∈ ps.toList.map (·.2), ev fr x = ev fr' x) : parts ps fr = parts ps fr' := by
  unfold parts
  apply List.map_congr_left
  intro p hm
  rw [hp p.2 (List.mem_map_of_mem hm)]
theorem opt_congr {fr fr' : Frame} {o : Option Operand} (hp : ∀ x ∈ o.toArray.toList, ev fr x = ev fr' x) : o.map (ev fr) = o.map (ev fr') := by
  cases o with
  | none => rfl
  | some x => simp only [Option.map_some]; rw [hp x (by simp)]
theorem opK_congr {o : Oper} {fr fr' : Frame} (hp : ∀ x ∈ o.op.operands.toList, ev fr x = ev fr' x) (K : AVal → H → Prop) : opK S T o fr h K = opK S T o fr' h K := by
  unfold opK
  cases ho : o.op with
  | move x => simp only [ho, Op.operands] at hp ⊢; rw [hp x (by simp)]
  | assign x => simp only [ho, Op.operands] at hp ⊢; rw [hp x (by simp)]
  | pick c a b => simp only [ho, Op.operands] at hp ⊢; rw [hp c (by simp), hp a (by simp), hp b (by simp)]
  | alloc t => rfl
  | box t x => simp only [ho, Op.operands] at hp ⊢; rw [hp x (by simp)]
  | build t ps =>
    simp only [ho, Op.operands] at hp ⊢
    rw [parts_congr (fr' := fr') (by simpa using hp)]
  | buildSlice t n ps =>
    simp only [ho, Op.operands] at hp ⊢
    rw [parts_congr (fr' := fr') (by simpa using hp)]
  | load t a => simp only [ho, Op.operands] at hp ⊢; rw [hp a (by simp)]
  | store t a x => simp only [ho, Op.operands] at hp ⊢; rw [hp a (by simp), hp x (by simp)]
  | nilCheck x => simp only [ho, Op.operands] at hp ⊢; rw [hp x (by simp)]
  | binOp op t x y _ => simp only [ho, Op.operands] at hp ⊢; rw [hp x (by simp), hp y (by simp)]
  | unOp op t x => simp only [ho, Op.operands] at hp ⊢; rw [hp x (by simp)]
  | convert s d x => simp only [ho, Op.operands] at hp ⊢; rw [hp x (by simp)]
  | makeFunc fn first cap =>
    simp only [ho, Op.operands] at hp ⊢
    rw [List.map_congr_left (f := ev fr) (g := ev fr') (l := cap.toList) (fun x hx => hp x (by simp; exact .inr (by simpa using hx)))]
  | makeSlice t n c => simp only [ho, Op.operands] at hp ⊢; rw [hp n (by simp), hp c (by simp)]
  | slice t x lo hi mx =>
    simp only [ho, Op.operands] at hp ⊢
    rw [hp x (by simp), opt_congr (fr := fr) (fr' := fr') (o := lo) (fun y hy => hp y (by simp at hy ⊢; simp [hy])), opt_congr (fr := fr) (fr' := fr') (o := hi) (fun y hy => hp y (by simp at hy ⊢; simp [hy]))]
  | fieldAddr t x f => simp only [ho, Op.operands] at hp ⊢; rw [hp x (by simp)]
  | field t x f => simp only [ho, Op.operands] at hp ⊢; rw [hp x (by simp)]
  | indexAddr t x i => simp only [ho, Op.operands] at hp ⊢; rw [hp x (by simp), hp i (by simp)]
  | index t x i => simp only [ho, Op.operands] at hp ⊢; rw [hp x (by simp), hp i (by simp)]
  | extract x i => simp only [ho, Op.operands] at hp ⊢; rw [hp x (by simp)]
  | call c =>
    simp only [ho, Op.operands, Call.operands] at hp ⊢
    have ha : c.args.toList.map (ev fr) = c.args.toList.map (ev fr') := List.map_congr_left fun x hx => hp x (by simp; exact .inr (by simpa using hx))
    rw [ha]
    split
    · rfl
    · next f _ hc =>
      rw [hp f (by rw [hc]; simp)]
    all_goals rfl
  | _ => rfl
theorem readT_same {t : Nat} {p : Pt} {h' : H} {R : AVal → Prop} (e : bif isAggT T t then range h' p.o p.n p.off (tget T t).size = range h p.o p.n p.off (tget T t).size else cell h' p = cell h p) (K : AVal → Prop) :
    ldT T t p h K → ldT T t p h' K := by
  intro hK
  unfold ldT at *
  unfold isAggT at e
  split at hK
  all_goals first
    | (next e1 => rw [e1] at e; simp only [cond_true, cond_false] at e; obtain ⟨n, h1, h2⟩ := hK; exact ⟨n, by rw [e]; exact h1, h2⟩)
    | exact hK.elim
theorem same_eq (o : Oper) (fr : Frame) (hm : isMut o.op = false) (h : H) (K : AVal → H → Prop) : opK S T o fr h K = opK S T o fr h (fun v _ => K v h) := by
  unfold opK
  cases ho : o.op with
  | call c =>
    rw [ho] at hm
    simp only
    unfold isMut at hm
    split <;> first
      | rfl
      | (next hc => simp only [hc] at hm; cases hm)
      | (next hc _ => simp only [hc] at hm; cases hm)
      | (next hc => simp [hc] at hm)
  | _ => first
    | rfl
    | (rw [ho] at hm; simp [isMut] at hm; done)
theorem pure_eq (o : Oper) (fr : Frame) (hm : isMut o.op = false) (hr : isRead o.op = false) (h h0 : H) (K : AVal → H → Prop) : opK S T o fr h K = opK S T o fr h0 (fun v _ => K v h) := by
  unfold opK
  cases ho : o.op with
  | call c =>
    rw [ho] at hm
    simp only
    unfold isMut at hm
    split <;> first
      | rfl
      | (next hc => simp only [hc] at hm; cases hm)
      | (next hc _ => simp only [hc] at hm; cases hm)
      | (next hc => simp [hc] at hm)
  | _ => first
    | rfl
    | (rw [ho] at hm; simp [isMut] at hm; done)
    | (rw [ho] at hr; simp [isRead] at hr; done)
/-- What an operation that changes nothing tells. -/
theorem nonmut (o : Oper) (fr : Frame) (hm : isMut o.op = false) : ∃ R : H → AVal → Prop, (∀ h K, opK S T o fr h K ↔ ∃ v, R h v ∧ K v h) ∧ (isRead o.op = false → ∀ h h' v, R h v → R h' v) ∧
    (∀ h h' K', chkK T o fr h h' K' → (∀ v, R h v → R h' v) ∧ K') := by
  refine ⟨fun h v => opK S T o fr h (fun v2 _ => v2 = v), fun h K => ?_, fun hr h h' v hv => ?_, fun h h' K' hK => ?_⟩
  · rw [same_eq o fr hm h K]
    obtain ⟨R, hR⟩ := Lin.two (opK_lin (S := S) (T := T) (h := h) o fr)
    rw [hR]
    constructor
    · rintro ⟨v, h2, a, b⟩; exact ⟨v, (hR _).2 ⟨v, h2, a, rfl⟩, b⟩
    · rintro ⟨v, a, b⟩
      obtain ⟨v2, h2, c, rfl⟩ := (hR _).1 a
      exact ⟨v2, h2, c, b⟩
  · show opK S T o fr h' _
    rw [pure_eq o fr hm hr h' h]; exact hv
  · unfold chkK at hK
    cases hr : isRead o.op with
    | false =>
      refine ⟨fun v hv => by show opK S T o fr h' _; rw [pure_eq o fr hm hr h' h]; exact hv, ?_⟩
      cases ho : o.op <;> simp only [ho] at hK hr <;> first | exact hK | (simp [isRead] at hr; done)
    | true =>
      cases ho : o.op <;> simp only [ho] at hK hr <;> first | (simp [isRead] at hr; done) | skip
      · next t a =>
        unfold opK
        simp only [ho]
        split at hK
        · next p e =>
          cases hA : isAggT T t with
          | true => rw [hA] at hK; exact ⟨fun v => readT_same (R := fun _ => True) (by rw [hA]; exact hK.1) _, hK.2⟩
          | false => rw [hA] at hK; exact ⟨fun v => readT_same (R := fun _ => True) (by rw [hA]; exact hK.1) _, hK.2⟩
        · next hne =>
          exact ⟨fun v hv => hv.elim, hK⟩
      · next t x lo hi mx =>
        unfold opK
        simp only [ho]
        split at hK
        · next e0 s e1 e2 =>
          simp only [e1, e2]
          refine ⟨fun v hv => ?_, hK.2⟩
          cases mx with
          | some m => exact hv
          | none =>
            simp only at hv ⊢
            split at hv
            · next k1 a k2 b e3 e4 =>
              obtain ⟨hb, h1, h2, h3⟩ := bif_true hv
              rw [hb]
              exact ⟨h1, hK.1, h3⟩
            · exact hv
        · next hne =>
          refine ⟨fun v hv => ?_, hK⟩
          split at hv
          · next e0 s e1 e2 => exact absurd e2 (hne _ _ e1)
          · exact hv
          · exact hv
end
end Go.Proofs.Ytgeakkmpohjohaa.Cl

/- The clean machine: a region whose order is drawn comes to what the order of the text comes to. No claim is stated here. -/
set_option linter.unusedVariables false
set_option linter.unusedSimpArgs false
namespace Go.Proofs.Ytgeakkmpohjohaa.Cl
open Go

/-! ### what comes before what -/
theorem testBit_fold (A : Nat → Nat) (x : Nat) : ∀ (l : List Nat) (s0 : Nat), (l.foldl (fun s j => s ||| 2 ^ j ||| A j) s0).testBit x = (s0.testBit x || l.any fun j => decide (j = x) || (A j).testBit x)
  | [], s0 => by simp
  | j :: l, s0 => by
    rw [List.foldl_cons, testBit_fold A x l, Nat.testBit_or, Nat.testBit_or, Nat.testBit_two_pow, List.any_cons, Bool.or_assoc, Bool.or_assoc, Bool.or_assoc]
theorem befs_pre : ∀ (os : List Oper) (acc : List Nat), ∃ rest, befs os acc = acc ++ rest ∧ rest.length = os.length
  | [], acc => ⟨[], by simp [befs], rfl⟩
  | o :: os, acc => by
    obtain ⟨rest, h1, h2⟩ := befs_pre os (acc ++ [(deps o).foldl (fun s j => s ||| 2 ^ j ||| acc.getD j 0) 0])
    refine ⟨(deps o).foldl (fun s j => s ||| 2 ^ j ||| acc.getD j 0) 0 :: rest, ?_, by simp [h2]⟩
    unfold befs
    rw [h1]
    simp
theorem befs_get : ∀ (os : List Oper) (acc : List Nat) (p : Nat) (o : Oper), os[p]? = some o → (∀ d ∈ deps o, d < acc.length + p) →
    ∀ x, bef (befs os acc) (acc.length + p) x = (deps o).any fun j => decide (j = x) || bef (befs os acc) j x
  | [], acc, p, o, h, _, x => by simp at h
  | o' :: os, acc, 0, o, h, hd, x => by
    simp at h
    subst h
    obtain ⟨rest, h1, h2⟩ := befs_pre os (acc ++ [(deps o').foldl (fun s j => s ||| 2 ^ j ||| acc.getD j 0) 0])
    unfold befs
    rw [h1]
    unfold bef
    have e : ((acc ++ [(deps o').foldl (fun s j => s ||| 2 ^ j ||| acc.getD j 0) 0]) ++ rest).getD (acc.length + 0) 0 = (deps o').foldl (fun s j => s ||| 2 ^ j ||| acc.getD j 0) 0 := by
      rw [List.getD_eq_getElem?_getD, List.append_assoc, List.getElem?_append_right (by omega)]
      simp
    rw [e, testBit_fold]
    simp only [Nat.zero_testBit, Bool.false_or]
    rw [Bool.eq_iff_iff, List.any_eq_true, List.any_eq_true]
    have key : ∀ j ∈ deps o', ((acc ++ [(deps o').foldl (fun s j => s ||| 2 ^ j ||| acc.getD j 0) 0]) ++ rest).getD j 0 = acc.getD j 0 := fun j hj => by
      have := hd j hj
      rw [List.getD_eq_getElem?_getD, List.getD_eq_getElem?_getD, List.append_assoc, List.getElem?_append_left (by omega)]
    constructor
    · rintro ⟨j, hj, hx⟩; exact ⟨j, hj, by rw [key j hj]; exact hx⟩
    · rintro ⟨j, hj, hx⟩; exact ⟨j, hj, by rw [key j hj] at hx; exact hx⟩
  | o' :: os, acc, p + 1, o, h, hd, x => by
    have := befs_get os (acc ++ [(deps o').foldl (fun s j => s ||| 2 ^ j ||| acc.getD j 0) 0]) p o (by simpa using h) (fun d hd' => by have := hd d hd'; simp; omega) x
    simp only [List.length_append, List.length_cons, List.length_nil] at this
    rw [show acc.length + (p + 1) = acc.length + (0 + 1) + p by omega]
    unfold befs
    exact this
theorem bef_none {ops : List Oper} {p : Nat} (ho : ops[p]? = none) (x : Nat) : bef (befs ops []) p x = false := by
  obtain ⟨rest, h1, h2⟩ := befs_pre ops []
  unfold bef
  rw [h1, List.getD_eq_getElem?_getD, List.getElem?_eq_none]
  · simp
  · have := List.getElem?_eq_none_iff.1 ho
    simp
    omega
section
variable {ops : List Oper} (hdeps : ∀ (p : Nat) o, ops[p]? = some o → ∀ d ∈ deps o, d < p)
include hdeps
theorem bef_iff {p : Nat} {o : Oper} (ho : ops[p]? = some o) (x : Nat) : bef (befs ops []) p x = true ↔ ∃ d ∈ deps o, d = x ∨ bef (befs ops []) d x = true := by
  have := befs_get ops [] p o ho (fun d hd => by simpa using hdeps p o ho d hd) x
  simp only [List.length_nil, Nat.zero_add] at this
  rw [this, List.any_eq_true]
  simp
theorem bef_lt : ∀ (p x : Nat), bef (befs ops []) p x = true → x < p := by
  intro p
  induction p using Nat.strongRecOn with
  | _ p ih =>
    intro x h
    cases ho : ops[p]? with
    | none => rw [bef_none ho] at h; cases h
    | some o =>
      obtain ⟨d, hd, h1⟩ := (bef_iff hdeps ho x).1 h
      have := hdeps p o ho d hd
      rcases h1 with rfl | h1
      · exact this
      · have := ih d this x h1
        omega
theorem bef_trans : ∀ (c b a : Nat), bef (befs ops []) c b = true → bef (befs ops []) b a = true → bef (befs ops []) c a = true := by
  intro c
  induction c using Nat.strongRecOn with
  | _ c ih =>
    intro b a h1 h2
    cases ho : ops[c]? with
    | none => rw [bef_none ho] at h1; cases h1
    | some o =>
      obtain ⟨d, hd, h3⟩ := (bef_iff hdeps ho b).1 h1
      refine (bef_iff hdeps ho a).2 ⟨d, hd, .inr ?_⟩
      rcases h3 with rfl | h3
      · exact h2
      · exact ih d (hdeps c o ho d hd) b a h3 h2
end
theorem okPairs_spec {ops : List Oper} {b : List Nat} (l : List (Oper × Nat)) : okPairs ops b l = true → ∀ (p q : Nat) x y i j, l[p]? = some (x, i) → l[q]? = some (y, j) → p < q → pairOK ops b i j x y = true ∧ dstApart x y = true := by
  induction l with
  | nil => intro _ p q x y i j h1; simp at h1
  | cons a l ih =>
    intro h p q x y i j h1 h2 hlt
    obtain ⟨x', i'⟩ := a
    have h' : ((l.all fun p => pairOK ops b i' p.2 x' p.1 && dstApart x' p.1) && okPairs ops b l) = true := h
    rw [Bool.and_eq_true, List.all_eq_true] at h'
    cases q with
    | zero => omega
    | succ q =>
      rw [List.getElem?_cons_succ] at h2
      cases p with
      | zero =>
        rw [List.getElem?_cons_zero] at h1
        injection h1 with h1
        injection h1 with h1 h3
        subst h1 h3
        have := h'.1 (y, j) (List.mem_of_getElem? h2)
        rwa [Bool.and_eq_true] at this
      | succ p =>
        rw [List.getElem?_cons_succ] at h1
        exact ih h'.2 p q x y i j h1 h2 (by omega)
theorem okD_spec {ops : List Oper} (h : okD ops (befs ops []) = true) : (∀ (p : Nat) o, ops[p]? = some o → ∀ d ∈ deps o, d < p) ∧
    ∀ (i j : Nat) x y, ops[i]? = some x → ops[j]? = some y → i < j → pairOK ops (befs ops []) i j x y = true ∧ dstApart x y = true := by
  unfold okD at h
  rw [Bool.and_eq_true, List.all_eq_true] at h
  have hz : ∀ (p : Nat) o, ops[p]? = some o → ops.zipIdx[p]? = some (o, p) := fun p o ho => by
    rw [List.getElem?_zipIdx, ho]; simp
  refine ⟨fun p o ho d hd => ?_, fun i j x y hx hy hij => okPairs_spec _ h.2 i j x y i j (hz i x hx) (hz j y hy) hij⟩
  have := h.1 (o, p) (List.mem_of_getElem? (hz p o ho))
  simp only [List.all_eq_true, decide_eq_true_eq] at this
  exact this d hd

/-! ### steps and their orders -/
structure Stp where
  i : Nat
  o : Oper
  fr : Frame
  ex : Bool
  v : AVal
  h : H
  h' : H
section
variable {P : Program} {T : Tab} {S : SatT} {ops : List Oper}
def gOK (ops : List Oper) (fr : Frame) (o : Oper) : Prop :=
  match o.guard with
  | none => True
  | some (j, want) => ∃ d, dstOf ops j = some d ∧ fr.getD d .undef = .bool want
def gNo (ops : List Oper) (fr : Frame) (o : Oper) : Prop :=
  match o.guard with
  | none => False
  | some (j, want) => ∃ d, dstOf ops j = some d ∧ (fr.getD d .undef = .bool (!want) ∨ fr.getD d .undef = .gone)
def agree (ops : List Oper) (o : Oper) (fr fr' : Frame) : Prop := ∀ t ∈ readsOf ops o, fr.getD t .undef = fr'.getD t .undef
/-- What a step tells, asked in another heap. -/
def Tells (S : SatT) (T : Tab) (a : Stp) (h : H) : Prop := opK S T a.o a.fr h fun v h2 => v = a.v ∧ h2 = h
inductive Val (S : SatT) (T : Tab) (ops : List Oper) : Frame → H → List Stp → Frame → H → Prop where
  | nil {fr h} : Val S T ops fr h [] fr h
  | cons {fr h st l fr2 h2} : st.h = h → agree ops st.o fr st.fr → (st.ex = true → gOK ops st.fr st.o ∧ opK S T st.o st.fr st.h fun v h => v = st.v ∧ h = st.h') →
      (st.ex = false → gNo ops st.fr st.o ∧ st.v = .gone ∧ st.h' = st.h) → Val S T ops (put fr st.o.dst st.v) st.h' l fr2 h2 → Val S T ops fr h (st :: l) fr2 h2
/-- A change: carried out, and of the kinds that change the heap. -/
def Stp.chg (a : Stp) : Prop := a.ex = true ∧ isMut a.o.op = true
structure Sim (a b : Stp) : Prop where
  i : a.i = b.i
  o : a.o = b.o
  fr : a.fr = b.fr
  ex : a.ex = b.ex
  v : a.v = b.v
  chg : a.chg → a.h = b.h ∧ a.h' = b.h'
theorem Sim.refl (a : Stp) : Sim a a := ⟨rfl, rfl, rfl, rfl, rfl, fun _ => ⟨rfl, rfl⟩⟩
/-- Of two steps that may stand in either order: the one that changes nothing tells the same on both sides of the other. -/
def Both (S : SatT) (T : Tab) (b : List Nat) (x y : Stp) : Prop := x.ex = true → isMut x.o.op = false → y.chg → unord b x.i y.i = true → Tells S T x y.h ∧ Tells S T x y.h'
theorem Both.sim {b x y x' y'} (h : Both S T b x y) (sx : Sim x x') (sy : Sim y y') : Both S T b x' y' := by
  intro e1 e2 e3 e4
  have m : y.chg := ⟨by rw [sy.ex]; exact e3.1, by rw [sy.o]; exact e3.2⟩
  have := h (by rw [sx.ex]; exact e1) (by rw [sx.o]; exact e2) m (by rw [sx.i, sy.i]; exact e4)
  unfold Tells at *
  rw [← sx.o, ← sx.fr, ← sx.v, ← (sy.chg m).1, ← (sy.chg m).2]
  exact this
theorem getD_put (fr : Frame) (d : Option Nat) (v : AVal) (t : Nat) (h : ∀ d', d = some d' → d' ≠ t) : (put fr d v).getD t .undef = fr.getD t .undef := by
  cases d with
  | none => rfl
  | some d =>
    simp only [put, List.getD_eq_getElem?_getD]
    rw [List.getElem?_set_ne (h d rfl)]
theorem put_comm (fr : Frame) (d e : Option Nat) (u v : AVal) (h : ∀ x y, d = some x → e = some y → x ≠ y) : put (put fr d u) e v = put (put fr e v) d u := by
  cases d with
  | none => rfl
  | some d => cases e with
    | none => rfl
    | some e => simp only [put]; exact List.set_comm _ _ (h d e rfl rfl)
theorem nonmut_same {a : Stp} (hm : isMut a.o.op = false) (h : opK S T a.o a.fr a.h fun v h2 => v = a.v ∧ h2 = a.h') : a.h' = a.h := by
  obtain ⟨R, h1, _, _⟩ := nonmut (S := S) (T := T) a.o a.fr hm
  obtain ⟨v, _, _, e⟩ := (h1 _ _).1 h
  exact e.symm
/-- May two steps change places? -/
structure Apart (ops : List Oper) (b : List Nat) (x y : Stp) : Prop where
  un : unord b x.i y.i = true
  chg : ¬ (isMut x.o.op = true ∧ isMut y.o.op = true)
  xy : ∀ d, x.o.dst = some d → d ∉ readsOf ops y.o
  yx : ∀ d, y.o.dst = some d → d ∉ readsOf ops x.o
  dd : ∀ d e, x.o.dst = some d → y.o.dst = some e → d ≠ e
theorem unord_comm (b : List Nat) (i j : Nat) : unord b i j = unord b j i := by unfold unord; rw [Bool.and_comm]
theorem swap {b : List Nat} {fr h x y l fr2 h2} (H : Val S T ops fr h (x :: y :: l) fr2 h2) (ap : Apart ops b x y) (c1 : Both S T b x y) (c2 : Both S T b y x) :
    ∃ x' y', Sim x x' ∧ Sim y y' ∧ Val S T ops fr h (y' :: x' :: l) fr2 h2 := by
  cases H with
  | cons hx ax ex nx H =>
  cases H with
  | cons hy ay ey ny H =>
  have ay' : agree ops y.o fr y.fr := fun t ht => by rw [← ay t ht, getD_put _ _ _ _ fun d hd e => ap.xy d hd (e ▸ ht)]
  have ax' : agree ops x.o (put fr y.o.dst y.v) x.fr := fun t ht => by rw [getD_put _ _ _ _ fun d hd e => ap.yx d hd (e ▸ ht)]; exact ax t ht
  have hput : put (put fr x.o.dst x.v) y.o.dst y.v = put (put fr y.o.dst y.v) x.o.dst x.v := put_comm _ _ _ _ _ fun d e h1 h2 => ap.dd d e h1 h2
  rw [hput] at H
  by_cases mx : x.chg
  · -- x changes the heap: y does not
    have hyy : y.h' = y.h := by
      cases e : y.ex with
      | false => exact (ny e).2.2
      | true =>
        have : isMut y.o.op = false := by
          cases hm : isMut y.o.op with
          | false => rfl
          | true => exact absurd ⟨mx.2, hm⟩ ap.chg
        exact nonmut_same this (ey e).2
    refine ⟨x, { y with h := h, h' := h }, Sim.refl _, ⟨rfl, rfl, rfl, rfl, rfl, fun m => absurd ⟨mx.2, m.2⟩ ap.chg⟩, ?_⟩
    refine .cons rfl ay' (fun e => ⟨(ey e).1, ?_⟩) (fun e => ⟨(ny e).1, (ny e).2.1, rfl⟩) ?_
    · have hm : isMut y.o.op = false := by
        cases hm : isMut y.o.op with
        | false => rfl
        | true => exact absurd ⟨mx.2, hm⟩ ap.chg
      have := (c2 e hm mx (by rw [unord_comm]; exact ap.un)).1
      rw [hx] at this
      exact this
    · refine .cons hx ax' ex nx ?_
      rw [hyy, hy] at H
      exact H
  · have hxx : x.h' = x.h := by
      cases e : x.ex with
      | false => exact (nx e).2.2
      | true =>
        have : isMut x.o.op = false := by
          cases hm : isMut x.o.op with
          | false => rfl
          | true => exact absurd ⟨e, hm⟩ mx
        exact nonmut_same this (ex e).2
    refine ⟨{ x with h := y.h', h' := y.h' }, y, ⟨rfl, rfl, rfl, rfl, rfl, fun m => absurd m mx⟩, Sim.refl _, ?_⟩
    refine .cons (by rw [hy, hxx, hx]) ay' ey ny ?_
    refine .cons rfl ax' (fun e => ⟨(ex e).1, ?_⟩) (fun e => ⟨(nx e).1, (nx e).2.1, rfl⟩) H
    have hm : isMut x.o.op = false := by
      cases hm : isMut x.o.op with
      | false => rfl
      | true => exact absurd ⟨e, hm⟩ mx
    by_cases my : y.chg
    · exact (c1 e hm my ap.un).2
    · have hyy : y.h' = y.h := by
        cases e : y.ex with
        | false => exact (ny e).2.2
        | true =>
          have : isMut y.o.op = false := by
            cases hm : isMut y.o.op with
            | false => rfl
            | true => exact absurd ⟨e, hm⟩ my
          exact nonmut_same this (ey e).2
      have := (ex e).2
      rw [hxx] at this
      show opK S T x.o x.fr y.h' fun v h2 => v = x.v ∧ h2 = y.h'
      rw [hyy, hy, hxx]
      exact this
/-- Two lists of steps, one by one alike. -/
def Sims : List Stp → List Stp → Prop
  | [], [] => True
  | a :: l, b :: m => Sim a b ∧ Sims l m
  | _, _ => False
theorem Sims.refl : ∀ l, Sims l l
  | [] => trivial
  | a :: l => ⟨Sim.refl a, Sims.refl l⟩
theorem front {b : List Nat} {s : Stp} {post : List Stp} : ∀ (pre : List Stp) {fr h fr2 h2}, Val S T ops fr h (pre ++ s :: post) fr2 h2 →
    (∀ x ∈ pre, Apart ops b x s ∧ Both S T b x s ∧ Both S T b s x) → ∃ pre' s', Sims pre pre' ∧ Sim s s' ∧ Val S T ops fr h (s' :: pre' ++ post) fr2 h2
  | [], fr, h, fr2, h2, hV, _ => ⟨[], s, trivial, Sim.refl s, hV⟩
  | x :: pre, fr, h, fr2, h2, hV, hp => by
    cases hV with
    | cons k1 k2 k3 k4 k5 =>
      obtain ⟨pre', s', q1, q2, q3⟩ := front pre k5 fun y hy => hp y (by simp [hy])
      obtain ⟨p1, p2, p3⟩ := hp x (by simp)
      have hx : Val S T ops fr h (x :: s' :: (pre' ++ post)) fr2 h2 := .cons k1 k2 k3 k4 q3
      have ap : Apart ops b x s' := ⟨by rw [← q2.i]; exact p1.un, by rw [← q2.o]; exact p1.chg, by rw [← q2.o]; exact p1.xy, by rw [← q2.o]; exact p1.yx, by rw [← q2.o]; exact p1.dd⟩
      obtain ⟨x', s'', r1, r2, r3⟩ := swap hx ap (p2.sim (Sim.refl x) q2) (p3.sim q2 (Sim.refl x))
      exact ⟨x' :: pre', s'', ⟨r1, q1⟩, ⟨q2.i.trans r2.i, q2.o.trans r2.o, q2.fr.trans r2.fr, q2.ex.trans r2.ex, q2.v.trans r2.v, fun m => by
        have m1 := q2.chg m
        have m' : s'.chg := ⟨by rw [← q2.ex]; exact m.1, by rw [← q2.o]; exact m.2⟩
        have m2 := r2.chg m'
        exact ⟨m1.1.trans m2.1, m1.2.trans m2.2⟩⟩, r3⟩

/-! ### what a run in the order of the text tells -/
def Rr (S : SatT) (T : Tab) (o : Oper) (fr : Frame) (h : H) (v : AVal) : Prop := opK S T o fr h fun v2 h2 => v2 = v ∧ h2 = h
theorem chk_tells {o : Oper} {fr : Frame} (hm : isMut o.op = false) {h h' : H} {K : Prop} (e : chkK T o fr h h' K) : (∀ v, Rr S T o fr h v → Rr S T o fr h' v) ∧ K := by
  obtain ⟨R, h1, _, h3⟩ := nonmut (S := S) (T := T) o fr hm
  obtain ⟨k1, k2⟩ := h3 h h' K e
  refine ⟨fun v hv => ?_, k2⟩
  obtain ⟨v', a, rfl, _⟩ := (h1 _ _).1 hv
  exact (h1 _ _).2 ⟨v', k1 v' a, rfl, rfl⟩
theorem pure_tells {o : Oper} {fr : Frame} (hm : isMut o.op = false) (hr : isRead o.op = false) (h h' : H) (v : AVal) (e : Rr S T o fr h v) : Rr S T o fr h' v := by
  obtain ⟨R, h1, h2, _⟩ := nonmut (S := S) (T := T) o fr hm
  obtain ⟨v', a, rfl, _⟩ := (h1 _ _).1 e
  exact (h1 _ _).2 ⟨v', h2 hr h h' v' a, rfl, rfl⟩
theorem op_one {o : Oper} {fr : Frame} {h : H} {K : AVal → H → Prop} (e : opK S T o fr h K) : ∃ v h', (opK S T o fr h fun v2 h2 => v2 = v ∧ h2 = h') ∧ K v h' := by
  obtain ⟨R, hR⟩ := Lin.two (opK_lin (S := S) (T := T) (h := h) o fr)
  obtain ⟨v, h', a, b⟩ := (hR _).1 e
  exact ⟨v, h', (hR _).2 ⟨v, h', a, rfl, rfl⟩, b⟩
theorem op_same {o : Oper} {fr : Frame} {h h' : H} {v : AVal} (hm : isMut o.op = false) (e : opK S T o fr h fun v2 h2 => v2 = v ∧ h2 = h') : h' = h := by
  obtain ⟨R, h1, _, _⟩ := nonmut (S := S) (T := T) o fr hm
  obtain ⟨v, _, _, e⟩ := (h1 _ _).1 e
  exact e.symm
theorem chkPend_spec {b : List Nat} {k : Nat} {h' : H} : ∀ (pend : List (Nat × Oper × Frame × H)) (K : Prop), (∀ e ∈ pend, isMut e.2.1.op = false) → chkPend T b k h' pend K →
    K ∧ ∀ e ∈ pend, unord b e.1 k = true → ∀ v, Rr S T e.2.1 e.2.2.1 e.2.2.2 v → Rr S T e.2.1 e.2.2.1 h' v
  | [], K, _, hK => ⟨hK, fun e he => by simp at he⟩
  | (i, o, fr, h) :: l, K, hm, hK => by
    unfold chkPend at hK
    cases hu : unord b i k with
    | false =>
      rw [hu] at hK
      obtain ⟨h1, h2⟩ := chkPend_spec l K (fun e he => hm e (by simp [he])) hK
      refine ⟨h1, fun e he hu' => ?_⟩
      rcases List.mem_cons.1 he with rfl | he
      · rw [hu] at hu'; cases hu'
      · exact h2 e he hu'
    | true =>
      rw [hu] at hK
      obtain ⟨h0, hK⟩ := chk_tells (S := S) (hm (i, o, fr, h) (by simp)) hK
      obtain ⟨h1, h2⟩ := chkPend_spec l K (fun e he => hm e (by simp [he])) hK
      refine ⟨h1, fun e he hu' => ?_⟩
      rcases List.mem_cons.1 he with rfl | he
      · exact h0
      · exact h2 e he hu'
theorem chkPast_spec {b : List Nat} {i : Nat} {o : Oper} {fr : Frame} {h : H} (hm : isMut o.op = false) : ∀ (past : List (Nat × H)) (K : Prop), chkPast T b i o fr h past K →
    K ∧ ∀ e ∈ past, unord b i e.1 = true → ∀ v, Rr S T o fr h v → Rr S T o fr e.2 v
  | [], K, hK => ⟨hK, fun e he => by simp at he⟩
  | (k, h0) :: l, K, hK => by
    unfold chkPast at hK
    cases hu : unord b i k with
    | false =>
      rw [hu] at hK
      obtain ⟨h1, h2⟩ := chkPast_spec hm l K hK
      refine ⟨h1, fun e he hu' => ?_⟩
      rcases List.mem_cons.1 he with rfl | he
      · rw [hu] at hu'; cases hu'
      · exact h2 e he hu'
    | true =>
      rw [hu] at hK
      obtain ⟨h0, hK⟩ := chk_tells (S := S) hm hK
      obtain ⟨h1, h2⟩ := chkPast_spec hm l K hK
      refine ⟨h1, fun e he hu' => ?_⟩
      rcases List.mem_cons.1 he with rfl | he
      · exact h0
      · exact h2 e he hu'
/-- The changes so far, the last one first, each with the heap ahead of it and behind it. -/
def PC (b : List Nat) : List (Nat × H × H) → H → Prop
  | [], _ => True
  | (k, h0, h1) :: rest, h => h1 = h ∧ (∀ e ∈ rest, bef b k e.1 = true) ∧ PC b rest h0
theorem past_both {b : List Nat} {Q : H → Prop} {i : Nat} (htr : ∀ c b' a, bef b c b' = true → bef b b' a = true → bef b c a = true) (hlt : ∀ p x, bef b p x = true → x < p) :
    ∀ (past : List (Nat × H × H)) (h : H), PC b past h → (∀ e ∈ past, e.1 < i) → Q h → (∀ e ∈ past, unord b i e.1 = true → Q e.2.1) → ∀ e ∈ past, unord b i e.1 = true → Q e.2.1 ∧ Q e.2.2
  | [], h, _, _, _, _, e, he, _ => by simp at he
  | (k, h0, h1) :: rest, h, hp, hi, hQ, hq, e, he, hu => by
    obtain ⟨rfl, hb, hp⟩ := hp
    rcases List.mem_cons.1 he with rfl | he'
    · exact ⟨hq _ (by simp) hu, hQ⟩
    · have hk : unord b i k = true := by
        have hb1 := hb e he'
        have h2 := hi (k, h0, h1) (by simp)
        unfold unord at hu ⊢
        rw [Bool.and_eq_true] at hu ⊢
        refine ⟨?_, ?_⟩
        · cases h3 : bef b i k with
          | false => rfl
          | true =>
            have := htr i k e.1 h3 hb1
            rw [this] at hu
            cases hu.1
        · cases h3 : bef b k i with
          | false => rfl
          | true => have := hlt k i h3; simp at h2; omega
      exact past_both htr hlt rest h0 hp (fun e he => hi e (by simp [he])) (hq (k, h0, h1) (by simp) hk) (fun e he => hq e (by simp [he])) e he' hu
theorem run_trace (hok : okD ops (befs ops []) = true) {k : Frame → H → Prop} :
    ∀ (l : List (Oper × Nat)) (past : List (Nat × H × H)) (pend : List (Nat × Oper × Frame × H)) (fr : Frame) (h : H),
      (∀ p ∈ l, ops[p.2]? = some p.1) → l.Pairwise (fun p q => p.2 < q.2) → (∀ e ∈ past, (∃ o, ops[e.1]? = some o ∧ isMut o.op = true) ∧ ∀ p ∈ l, e.1 < p.2) → (∀ e ∈ pend, isMut e.2.1.op = false ∧ ∀ p ∈ l, e.1 < p.2) →
      PC (befs ops []) past h → (∀ e ∈ pend, ∀ p ∈ l, isMut p.1.op = true → unord (befs ops []) e.1 p.2 = true → ∀ v, Rr S T e.2.1 e.2.2.1 e.2.2.2 v → Rr S T e.2.1 e.2.2.1 h v) →
      runDraw S T ops (befs ops []) l (past.map fun e => (e.1, e.2.1)) pend k fr h →
      ∃ L fr2 h2, Val S T ops fr h L fr2 h2 ∧ k fr2 h2 ∧ L.map (fun s => (s.o, s.i)) = l ∧ (∀ x ∈ L, ∀ y ∈ L, Both S T (befs ops []) x y) ∧
        (∀ e ∈ pend, ∀ y ∈ L, y.chg → unord (befs ops []) e.1 y.i = true → ∀ v, Rr S T e.2.1 e.2.2.1 e.2.2.2 v → Rr S T e.2.1 e.2.2.1 y.h v ∧ Rr S T e.2.1 e.2.2.1 y.h' v) ∧
        (∀ e ∈ past, ∀ x ∈ L, x.ex = true → isMut x.o.op = false → unord (befs ops []) x.i e.1 = true → Tells S T x e.2.1 ∧ Tells S T x e.2.2) := by
  obtain ⟨hdeps, hpair⟩ := okD_spec hok
  intro l
  induction l with
  | nil =>
    intro past pend fr h _ _ _ _ _ _ hR
    exact ⟨[], fr, h, .nil, hR, rfl, fun x hx => by simp at hx, fun e _ y hy => by simp at hy, fun e _ x hx => by simp at hx⟩
  | cons p l ih =>
    obtain ⟨o, i⟩ := p
    intro past pend fr h hops hinc hpast hpend hPC hpo hR
    have hmm : ∀ e ∈ past, isMut o.op = true → bef (befs ops []) i e.1 = true := fun e he hm => by
      obtain ⟨⟨o', ho', hm'⟩, hlt⟩ := hpast e he
      have := (hpair e.1 i o' o ho' (hops (o, i) (by simp)) (hlt (o, i) (by simp))).1
      unfold pairOK at this
      rw [hm, hm'] at this
      simpa using this
    have skipOK : gNo ops fr o → runDraw S T ops (befs ops []) l (past.map fun e => (e.1, e.2.1)) pend k (put fr o.dst .gone) h →
      ∃ L fr2 h2, Val S T ops fr h L fr2 h2 ∧ k fr2 h2 ∧ L.map (fun s => (s.o, s.i)) = (o, i) :: l ∧ (∀ x ∈ L, ∀ y ∈ L, Both S T (befs ops []) x y) ∧
        (∀ e ∈ pend, ∀ y ∈ L, y.chg → unord (befs ops []) e.1 y.i = true → ∀ v, Rr S T e.2.1 e.2.2.1 e.2.2.2 v → Rr S T e.2.1 e.2.2.1 y.h v ∧ Rr S T e.2.1 e.2.2.1 y.h' v) ∧
        (∀ e ∈ past, ∀ x ∈ L, x.ex = true → isMut x.o.op = false → unord (befs ops []) x.i e.1 = true → Tells S T x e.2.1 ∧ Tells S T x e.2.2) := by
      intro hg hR
      obtain ⟨L, fr2, h2, q1, q2, q3, q4, q5, q6⟩ := ih past pend (put fr o.dst .gone) h (fun p hp => hops p (by simp [hp])) (List.pairwise_cons.1 hinc).2 (fun e he => ⟨(hpast e he).1, fun p hp => (hpast e he).2 p (by simp [hp])⟩)
        (fun e he => ⟨(hpend e he).1, fun p hp => (hpend e he).2 p (by simp [hp])⟩) hPC (fun e he p hp => hpo e he p (by simp [hp])) hR
      refine ⟨⟨i, o, fr, false, .gone, h, h⟩ :: L, fr2, h2, .cons rfl (fun _ _ => rfl) (fun e => by cases e) (fun _ => ⟨hg, rfl, rfl⟩) q1, q2, by simp [q3], ?_, ?_, ?_⟩
      · intro x hx y hy
        rcases List.mem_cons.1 hx with rfl | hx
        · intro e; cases e
        · rcases List.mem_cons.1 hy with rfl | hy
          · intro _ _ m; cases m.1
          · exact q4 x hx y hy
      · intro e he y hy
        rcases List.mem_cons.1 hy with rfl | hy
        · intro m; cases m.1
        · exact q5 e he y hy
      · intro e he x hx
        rcases List.mem_cons.1 hx with rfl | hx
        · intro e; cases e
        · exact q6 e he x hx
    have stepOK : gOK ops fr o → (stepDraw S T (befs ops []) i o (past.map fun e => (e.1, e.2.1)) pend fr h fun past pend v h => runDraw S T ops (befs ops []) l past pend k (put fr o.dst v) h) →
      ∃ L fr2 h2, Val S T ops fr h L fr2 h2 ∧ k fr2 h2 ∧ L.map (fun s => (s.o, s.i)) = (o, i) :: l ∧ (∀ x ∈ L, ∀ y ∈ L, Both S T (befs ops []) x y) ∧
        (∀ e ∈ pend, ∀ y ∈ L, y.chg → unord (befs ops []) e.1 y.i = true → ∀ v, Rr S T e.2.1 e.2.2.1 e.2.2.2 v → Rr S T e.2.1 e.2.2.1 y.h v ∧ Rr S T e.2.1 e.2.2.1 y.h' v) ∧
        (∀ e ∈ past, ∀ x ∈ L, x.ex = true → isMut x.o.op = false → unord (befs ops []) x.i e.1 = true → Tells S T x e.2.1 ∧ Tells S T x e.2.2) := by
      intro hg hR
      unfold stepDraw at hR
      cases hm : isMut o.op with
      | true =>
        rw [hm] at hR
        simp only [cond_true] at hR
        obtain ⟨v, h', hv, hK⟩ := op_one hR
        obtain ⟨hK, hc⟩ := chkPend_spec (S := S) pend _ (fun e he => (hpend e he).1) hK
        obtain ⟨L, fr2, h2, q1, q2, q3, q4, q5, q6⟩ := ih ((i, h, h') :: past) pend (put fr o.dst v) h' (fun p hp => hops p (by simp [hp])) (List.pairwise_cons.1 hinc).2
          (fun e he => by
            rcases List.mem_cons.1 he with rfl | he
            · exact ⟨⟨o, hops (o, i) (by simp), hm⟩, fun p hp => (List.pairwise_cons.1 hinc).1 p hp⟩
            · exact ⟨(hpast e he).1, fun p hp => (hpast e he).2 p (by simp [hp])⟩)
          (fun e he => ⟨(hpend e he).1, fun p hp => (hpend e he).2 p (by simp [hp])⟩) ⟨rfl, fun e he => hmm e he hm, hPC⟩
          (fun e he p hp hpm hu v hv => by
            refine hc e he ?_ v hv
            have h1 : bef (befs ops []) p.2 i = true := by
              have := (hpair i p.2 o p.1 (hops (o, i) (by simp)) (hops p (by simp [hp])) ((List.pairwise_cons.1 hinc).1 p hp)).1
              unfold pairOK at this
              rw [hm, hpm] at this
              simpa using this
            have h2 := (hpend e he).2 (o, i) (by simp)
            unfold unord at hu ⊢
            rw [Bool.and_eq_true] at hu ⊢
            refine ⟨?_, ?_⟩
            · cases h3 : bef (befs ops []) e.1 i with
              | false => rfl
              | true => have := bef_lt hdeps _ _ h3; simp at h2; omega
            · cases h3 : bef (befs ops []) i e.1 with
              | false => rfl
              | true =>
                have := bef_trans hdeps _ _ _ h1 h3
                rw [this] at hu
                cases hu.2)
          hK
        refine ⟨⟨i, o, fr, true, v, h, h'⟩ :: L, fr2, h2, .cons rfl (fun _ _ => rfl) (fun _ => ⟨hg, hv⟩) (fun e => by cases e) q1, q2, by simp [q3], ?_, ?_, ?_⟩
        · intro x hx y hy
          rcases List.mem_cons.1 hx with rfl | hx
          · intro _ e; simp only at e; rw [hm] at e; cases e
          · rcases List.mem_cons.1 hy with rfl | hy
            · intro e1 e2 _ e4
              exact q6 (i, h, h') (by simp) x hx e1 e2 e4
            · exact q4 x hx y hy
        · intro e he y hy
          rcases List.mem_cons.1 hy with rfl | hy
          · intro _ hu v hv
            exact ⟨hpo e he (o, i) (by simp) hm hu v hv, hc e he hu v hv⟩
          · exact q5 e he y hy
        · intro e he x hx
          rcases List.mem_cons.1 hx with rfl | hx
          · intro _ e; simp only at e; rw [hm] at e; cases e
          · exact q6 e (by simp [he]) x hx
      | false =>
        rw [hm] at hR
        simp only [cond_false] at hR
        have main : ∀ (v : AVal) (pend' : List (Nat × Oper × Frame × H)), (opK S T o fr h fun v2 h2 => v2 = v ∧ h2 = h) → (∀ e ∈ past, unord (befs ops []) i e.1 = true → ∀ v, Rr S T o fr h v → Rr S T o fr e.2.1 v) →
            (∀ e ∈ pend', e ∈ pend ∨ (e = (i, o, fr, h))) → (∀ e ∈ pend, e ∈ pend') → ((i, o, fr, h) ∈ pend' ∨ isRead o.op = false) →
            runDraw S T ops (befs ops []) l (past.map fun e => (e.1, e.2.1)) pend' k (put fr o.dst v) h →
            ∃ L fr2 h2, Val S T ops fr h L fr2 h2 ∧ k fr2 h2 ∧ L.map (fun s => (s.o, s.i)) = (o, i) :: l ∧ (∀ x ∈ L, ∀ y ∈ L, Both S T (befs ops []) x y) ∧
              (∀ e ∈ pend, ∀ y ∈ L, y.chg → unord (befs ops []) e.1 y.i = true → ∀ v, Rr S T e.2.1 e.2.2.1 e.2.2.2 v → Rr S T e.2.1 e.2.2.1 y.h v ∧ Rr S T e.2.1 e.2.2.1 y.h' v) ∧
              (∀ e ∈ past, ∀ x ∈ L, x.ex = true → isMut x.o.op = false → unord (befs ops []) x.i e.1 = true → Tells S T x e.2.1 ∧ Tells S T x e.2.2) := by
          intro v pend' hv hpst hsub hsup hnew hR
          obtain ⟨L, fr2, h2, q1, q2, q3, q4, q5, q6⟩ := ih past pend' (put fr o.dst v) h (fun p hp => hops p (by simp [hp])) (List.pairwise_cons.1 hinc).2 (fun e he => ⟨(hpast e he).1, fun p hp => (hpast e he).2 p (by simp [hp])⟩)
            (fun e he => by
              rcases hsub e he with he | rfl
              · exact ⟨(hpend e he).1, fun p hp => (hpend e he).2 p (by simp [hp])⟩
              · exact ⟨hm, fun p hp => (List.pairwise_cons.1 hinc).1 p hp⟩) hPC
            (fun e he p hp => by
              rcases hsub e he with he | rfl
              · exact hpo e he p (by simp [hp])
              · exact fun _ _ v hv => hv) hR
          refine ⟨⟨i, o, fr, true, v, h, h⟩ :: L, fr2, h2, .cons rfl (fun _ _ => rfl) (fun _ => ⟨hg, hv⟩) (fun e => by cases e) q1, q2, by simp [q3], ?_, ?_, ?_⟩
          · intro x hx y hy
            rcases List.mem_cons.1 hx with rfl | hx
            · rcases List.mem_cons.1 hy with rfl | hy
              · intro _ _ m; have := m.2; simp only at this; rw [hm] at this; cases this
              · intro _ _ m hu
                rcases hnew with hnew | hnew
                · exact q5 (i, o, fr, h) hnew y hy m hu v hv
                · exact ⟨pure_tells hm hnew h _ v hv, pure_tells hm hnew h _ v hv⟩
            · rcases List.mem_cons.1 hy with rfl | hy
              · intro _ _ m; have := m.2; simp only at this; rw [hm] at this; cases this
              · exact q4 x hx y hy
          · intro e he y hy
            rcases List.mem_cons.1 hy with rfl | hy
            · intro m; have := m.2; simp only at this; rw [hm] at this; cases this
            · exact q5 e (hsup e he) y hy
          · intro e he x hx
            rcases List.mem_cons.1 hx with rfl | hx
            · intro _ _ hu
              exact past_both (Q := fun h => Rr S T o fr h v) (i := i) (fun c b a => bef_trans hdeps c b a) (fun p x => bef_lt hdeps p x) past h hPC (fun e he => (hpast e he).2 (o, i) (by simp)) hv (fun e he hu => hpst e he hu v hv) e he hu
            · exact q6 e he x hx
        cases hr : isRead o.op with
        | true =>
          rw [hr] at hR
          simp only [cond_true] at hR
          obtain ⟨v, h', hv, hK⟩ := op_one hR
          have e := op_same hm hv
          subst e
          obtain ⟨hK, hc⟩ := chkPast_spec (S := S) hm _ _ hK
          exact main v ((i, o, fr, h') :: pend) hv (fun e he hu => hc (e.1, e.2.1) (List.mem_map_of_mem he) hu) (fun e he => (List.mem_cons.1 he).symm) (fun e he => by simp [he]) (.inl (by simp)) hK
        | false =>
          rw [hr] at hR
          simp only [cond_false] at hR
          obtain ⟨v, h', hv, hK⟩ := op_one hR
          have e := op_same hm hv
          subst e
          exact main v pend hv (fun e he hu v hv => pure_tells hm hr h' _ v hv) (fun e he => .inl he) (fun e he => he) (.inr hr) hK
    unfold runDraw at hR
    cases hg : o.guard with
    | none =>
      rw [hg] at hR
      exact stepOK (by unfold gOK; rw [hg]; trivial) hR
    | some g =>
      obtain ⟨j, want⟩ := g
      rw [hg] at hR
      simp only at hR
      cases hd : dstOf ops j with
      | none => rw [hd] at hR; exact hR.elim
      | some d =>
        rw [hd] at hR
        simp only at hR
        split at hR
        · next c e =>
          have es := set_same e (by simp)
          cases c <;> cases want <;> simp only [cond_true, cond_false, es] at hR <;> first
            | exact stepOK (by unfold gOK; rw [hg]; exact ⟨d, hd, e⟩) hR
            | exact skipOK (by unfold gNo; rw [hg]; exact ⟨d, hd, .inl e⟩) hR
        · next e => exact skipOK (by unfold gNo; rw [hg]; exact ⟨d, hd, .inr e⟩) hR
        · exact hR.elim
end
end Go.Proofs.Ytgeakkmpohjohaa.Cl

/- The clean machine: dead places filled. No claim is stated here. -/
set_option linter.unusedVariables false
set_option linter.unusedSimpArgs false
namespace Go.Proofs.Ytgeakkmpohjohaa.Cl
open Go
abbrev Fil := Nat → Option (List AVal)
def fillO (f : Option (List AVal)) (x : AObj) : AObj := match x, f with
  | .dead, some cs => .own cs
  | x, _ => x
def fill (F : Fil) (h : H) : H := h.mapIdx fun i x => fillO (F i) x
theorem fill_len (F : Fil) (h : H) : (fill F h).length = h.length := by simp [fill]
theorem fill_get (F : Fil) (h : H) (i : Nat) : (fill F h)[i]? = (h[i]?).map (fillO (F i)) := by simp [fill, List.getElem?_mapIdx]
theorem fillO_live {f : Option (List AVal)} {x : AObj} (h : x ≠ .dead) : fillO f x = x := by
  unfold fillO
  cases x <;> first | rfl | exact absurd rfl h
theorem fill_live {F : Fil} {h : H} {i : Nat} {x : AObj} (e : h[i]? = some x) (hx : x ≠ .dead) : (fill F h)[i]? = some x := by
  rw [fill_get, e]; simp [fillO_live hx]
theorem fill_none (h : H) : fill (fun _ => none) h = h := by
  apply List.ext_getElem?
  intro i
  rw [fill_get]
  cases h[i]? with
  | none => rfl
  | some x => cases x <;> rfl
theorem fill_fill (F G : Fil) (h : H) : fill F (fill G h) = fill (fun i => (G i).orElse fun _ => F i) h := by
  apply List.ext_getElem?
  intro i
  rw [fill_get, fill_get, fill_get]
  cases h[i]? with
  | none => rfl
  | some x => cases x <;> cases hg : G i <;> simp [fillO]
theorem fill_set (F : Fil) (h : H) (n : Nat) {x : AObj} (hx : x ≠ .dead) : fill F (h.set n x) = (fill F h).set n x := by
  apply List.ext_getElem?
  intro i
  rw [fill_get, List.getElem?_set, List.getElem?_set, fill_len]
  split
  · split
    · simp [fillO_live hx]
    · rfl
  · rw [fill_get]
theorem fill_app (F : Fil) (h : H) {x : AObj} (hx : x ≠ .dead) : fill F (h ++ [x]) = fill F h ++ [x] := by
  apply List.ext_getElem?
  intro i
  rw [fill_get]
  by_cases hi : i < h.length
  · rw [List.getElem?_append_left hi, List.getElem?_append_left (by rw [fill_len]; exact hi), fill_get]
  · rw [List.getElem?_append_right (by omega), List.getElem?_append_right (by rw [fill_len]; omega), fill_len]
    cases hq : [x][i - h.length]? with
    | none => rfl
    | some y =>
      have : y = x := by
        have := List.mem_of_getElem? hq
        simpa using this
      subst this
      simp [fillO_live hx]
/-- One place filled. -/
def one1 (n : Nat) (cs : List AVal) : Fil := fun i => if i = n then some cs else none
theorem set_fill {h : H} {n : Nat} (cs : List AVal) (e : h[n]? = some .dead) : h.set n (.own cs) = fill (one1 n cs) h := by
  apply List.ext_getElem?
  intro i
  rw [fill_get, List.getElem?_set]
  unfold one1
  have hl := (List.getElem?_eq_some_iff.1 e).1
  by_cases hi : n = i
  · subst hi
    rw [if_pos rfl, if_pos hl, if_pos rfl, e]; rfl
  · rw [if_neg hi, if_neg (fun e => hi e.symm)]
    cases h[i]? with
    | none => rfl
    | some x => cases x <;> rfl
/-! ### reading and writing in a filled heap -/
section
variable {h : H} (F : Fil)
theorem cells_fill {o n cs} (e : cells h o n = some cs) : cells (fill F h) o n = some cs := by
  unfold cells at e ⊢
  split at e
  · next c hc => rw [fill_live hc (by simp)]; exact e
  · next c hc => rw [fill_live hc (by simp)]; exact e
  · cases e
theorem owned_fill {o n cs} (e : owned h o n = some cs) : owned (fill F h) o n = some cs := by
  unfold owned at e ⊢
  split at e
  · next c hc => rw [fill_live hc (by simp)]; exact e
  · cases e
theorem range_fill {o n off k cs} (e : range h o n off k = some cs) : range (fill F h) o n off k = some cs := by
  unfold range at e ⊢
  cases o with
  | none => exact e
  | some o =>
    simp only at e ⊢
    obtain ⟨c, h1, h2⟩ := Option.bind_eq_some_iff.1 e
    rw [cells_fill F h1]; exact h2
theorem cell_fill {p v} (e : cell h p = some v) : cell (fill F h) p = some v := by
  unfold cell at e ⊢
  cases ho : p.o with
  | none => rw [ho] at e; exact e
  | some o =>
    rw [ho] at e
    simp only at e ⊢
    obtain ⟨c, h1, h2⟩ := Option.bind_eq_some_iff.1 e
    rw [cells_fill F h1]; exact h2
theorem put1_fill {p v h'} (e : put1 h p v = some h') : put1 (fill F h) p v = some (fill F h') := by
  unfold put1 at e ⊢
  cases ho : p.o with
  | none => rw [ho] at e; cases e
  | some o =>
    rw [ho] at e
    simp only at e ⊢
    obtain ⟨c, h1, h2⟩ := Option.bind_eq_some_iff.1 e
    rw [owned_fill F h1]
    simp only [Option.bind_some]
    split at h2
    · next hl => cases h2; rw [if_pos hl, fill_set F _ _ (by simp)]
    · cases h2
theorem putN_fill {o n off vs h'} (e : putN h o n off vs = some h') : putN (fill F h) o n off vs = some (fill F h') := by
  unfold putN at e ⊢
  cases o with
  | none => cases e
  | some o =>
    simp only at e ⊢
    obtain ⟨c, h1, h2⟩ := Option.bind_eq_some_iff.1 e
    rw [owned_fill F h1]
    simp only [Option.bind_some]
    split at h2
    · next hl => cases h2; rw [if_pos hl, fill_set F _ _ (by simp)]
    · cases h2
theorem sread_fill {s cs} (e : sread h s = some cs) : sread (fill F h) s = some cs := by
  unfold sread at e ⊢
  split
  · next hz => rw [if_pos hz] at e; exact e
  · next hz => rw [if_neg hz] at e; exact range_fill F e
theorem okS_fill {s} (e : okS h s) : okS (fill F h) s := by
  unfold okS at e ⊢
  cases ho : s.o with
  | none => trivial
  | some o =>
    rw [ho] at e
    simp only at e ⊢
    cases hc : cells h o s.n with
    | none => rw [hc] at e; cases e
    | some c => rw [cells_fill F hc]; rfl
variable {T : Tab} {S : SatT}
theorem ldT_fill {t p K} (e : ldT T t p h K) : ldT T t p (fill F h) K := by
  unfold ldT at e ⊢
  split at e
  · obtain ⟨x, a, b⟩ := e; exact ⟨x, cell_fill F a, b⟩
  · obtain ⟨x, a, b⟩ := e; exact ⟨x, cell_fill F a, b⟩
  · obtain ⟨x, a, b⟩ := e; exact ⟨x, cell_fill F a, b⟩
  · obtain ⟨x, a, b⟩ := e; exact ⟨x, cell_fill F a, b⟩
  · obtain ⟨x, a, b⟩ := e; exact ⟨x, range_fill F a, b⟩
  · obtain ⟨x, a, b⟩ := e; exact ⟨x, range_fill F a, b⟩
  · obtain ⟨x, a, b⟩ := e; exact ⟨x, cell_fill F a, b⟩
  · obtain ⟨x, a, b⟩ := e; exact ⟨x, cell_fill F a, b⟩
  · obtain ⟨x, a, b⟩ := e; exact ⟨x, cell_fill F a, b⟩
  · exact e
theorem st1_fill {p v K} (e : st1 p v h K) : st1 p v (fill F h) fun h2 => ∃ h1, K h1 ∧ h2 = fill F h1 := by
  obtain ⟨h', a, b⟩ := e; exact ⟨_, put1_fill F a, _, b, rfl⟩
theorem stN_fill {p k vs K} (e : stN p k vs h K) : stN p k vs (fill F h) fun h2 => ∃ h1, K h1 ∧ h2 = fill F h1 := by
  obtain ⟨h', a, b, c⟩ := e; exact ⟨_, a, putN_fill F b, _, c, rfl⟩
theorem stT_fill {t p v K} (e : stT T t p v h K) : stT T t p v (fill F h) fun h2 => ∃ h1, K h1 ∧ h2 = fill F h1 := by
  unfold stT at e ⊢
  cases hA : isAggT T t with
  | true =>
    rw [hA] at e
    simp only [cond_true] at e ⊢
    split at e
    · exact stN_fill F e
    · exact e.elim
  | false =>
    rw [hA] at e
    simp only [cond_false] at e ⊢
    cases hc : (v.isCell && (tget T t).size == 1) with
    | true => rw [hc] at e; exact st1_fill F e
    | false => rw [hc] at e; exact e.elim
theorem App_fill {z s m xs s' h'} (e : App z s m xs h s' h') : App z s m xs (fill F h) s' (fill F h') := by
  cases e with
  | zero a => exact .zero a
  | fresh a b =>
    rw [fill_app F _ (by simp)]
    have := App.fresh (z := z) (xs := xs) (h := fill F h) a b
    rw [fill_len] at this
    exact this
  | fits a b c d e => exact .fits a b c d (putN_fill F e)
  | grows a b c d e f => rw [fill_set F _ _ (by simp)]; exact .grows a b c d e (owned_fill F f)
  | moves a b c d f =>
    rw [fill_app F _ (by simp), fill_set F _ _ (by simp)]
    have := App.moves (h := fill F h) (xs := xs) a b c d (owned_fill F f)
    rw [fill_len] at this
    exact this
theorem app_fill {s x z K} (e : app s x z h K) : app s x z (fill F h) fun s' h2 => ∃ h1, K s' h1 ∧ h2 = fill F h1 := by
  obtain ⟨xs, s', h', a, b, c, d, k⟩ := e
  exact ⟨xs, s', _, sread_fill F a, b, c, App_fill F d, _, k, rfl⟩
theorem copyS_fill {s x z K} (e : copyS s x z h K) : copyS s x z (fill F h) fun n h2 => ∃ h1, K n h1 ∧ h2 = fill F h1 := by
  obtain ⟨xs, h', a, b, c, d, k⟩ := e
  exact ⟨xs, _, range_fill F a, b, c, putN_fill F d, _, k, rfl⟩
theorem clearS_fill {s z K} (e : clearS s z h K) : clearS s z (fill F h) fun h2 => ∃ h1, K h1 ∧ h2 = fill F h1 := by
  unfold clearS at e ⊢
  split
  · next hz => rw [if_pos hz] at e; exact ⟨_, e, rfl⟩
  · next hz =>
    rw [if_neg hz] at e
    obtain ⟨h', a, b, k⟩ := e
    exact ⟨_, a, putN_fill F b, _, k, rfl⟩
theorem cut_fill {s z lo hi K} (e : cut s z lo hi h K) : cut s z lo hi (fill F h) K := by
  obtain ⟨a, b, c⟩ := e
  exact ⟨a, okS_fill F b, c⟩
theorem cut_lin (s z lo hi) : Lin (cut s z lo hi h) := (((Lin.ret _).and _).and _).and _ |>.and _
theorem callK_fill {t f args h'} {v : AVal} (hc : ∀ v, S f args h v h' → S f args (fill F h) v (fill F h')) (e : callK S T t f args h fun v2 h2 => v2 = v ∧ h2 = h') :
    callK S T t f args (fill F h) fun v2 h2 => v2 = v ∧ h2 = fill F h' := by
  unfold callK at e ⊢
  split at e <;> (obtain ⟨x, h1, a, b, rfl⟩ := e; exact ⟨x, _, hc _ a, b, rfl⟩)
theorem rr_fill {o : Oper} {fr : Frame} {v : AVal} (hm : isMut o.op = false) (e : Rr S T o fr h v) : Rr S T o fr (fill F h) v := by
  unfold Rr at e ⊢
  cases hr : isRead o.op with
  | false =>
    rw [pure_eq o fr hm hr h (fill F h)] at e
    rw [same_eq o fr hm (fill F h)]
    exact Lin.mono (opK_lin (S := S) (T := T) (h := fill F h) o fr) (K := fun p => p.1 = v ∧ h = h) (K' := fun p => p.1 = v ∧ fill F h = fill F h) (fun p hp => ⟨hp.1, rfl⟩) e
  | true =>
    unfold opK at e ⊢
    cases ho : o.op <;> rw [ho] at hr <;> first
      | (simp [isRead] at hr; done)
      | skip
    · simp only [ho] at e ⊢
      split at e
      · next p he => exact Lin.mono (ldT_lin _ _) (K := fun v2 => v2 = v ∧ True) (fun v2 h => ⟨h.1, trivial⟩) (ldT_fill F e)
      · exact e.elim
    · simp only [ho] at e ⊢
      split at e
      · split at e
        · next a b ea eb =>
          obtain ⟨hz, e⟩ := bif_true e
          rw [hz]
          exact cut_fill F e
        · exact e.elim
      · split at e
        · obtain ⟨hz, e⟩ := bif_true e
          rw [hz]
          obtain ⟨a, b, c, d⟩ := e
          exact ⟨a, b, c, d⟩
        · exact e.elim
      · exact e.elim
/-- What an operation does in a heap it does in the filled heap, too. -/
theorem opK_fill {o : Oper} {fr : Frame} {v : AVal} {h' : H} (ha : isAlloc o.op = false) (hc : ∀ f args v, (∀ {μ w ds}, VRs μ h fr ds → Rel μ h w → ∃ ds2, VRs μ h args ds2) → S f args h v h' → S f args (fill F h) v (fill F h'))
    (e : opK S T o fr h fun v2 h2 => v2 = v ∧ h2 = h') : opK S T o fr (fill F h) fun v2 h2 => v2 = v ∧ h2 = fill F h' := by
  have dn : ∀ {v2 : AVal} {h2 : H}, (∃ h1, (v2 = v ∧ h1 = h') ∧ h2 = fill F h1) → v2 = v ∧ h2 = fill F h' := fun ⟨_, ⟨a, b⟩, c⟩ => ⟨a, by rw [c, b]⟩
  cases hm : isMut o.op with
  | false =>
    have hh := op_same hm e
    subst hh
    exact rr_fill F hm e
  | true =>
    unfold opK at e ⊢
    cases ho : o.op <;> rw [ho] at hm ha <;> first
      | (simp [isMut] at hm; done)
      | (simp [isAlloc] at ha; done)
      | skip
    · simp only [ho] at e ⊢
      split at e
      · next p he => exact Lin.mono (stT_lin _ _ _) (K := fun h2 => ∃ h1, (AVal.gone = v ∧ h1 = h') ∧ h2 = fill F h1) (fun h2 hx => dn hx) (stT_fill F e)
      · exact e.elim
    · next c =>
      simp only [ho] at e ⊢
      split at e
      · exact callK_fill F (fun v => hc _ _ v fun {μ w ds} hf r => ⟨_, maps_VRs (a := ⟨ds.toArray, []⟩) (by simpa using hf) _⟩) e
      · obtain ⟨f, cap, a, b⟩ := e
        refine ⟨f, cap, a, callK_fill F (fun v => hc _ _ v fun {μ w ds} hf r => ?_) b⟩
        next g hg _ =>
        have hv := ev_sound (a := ⟨ds.toArray, []⟩) (μ := μ) (h := h) (fr := fr) (by simpa using hf) g
        rw [a] at hv
        simp only [VR] at hv
        obtain ⟨dc, _, hdc⟩ := hv
        exact ⟨_, VRs.append (maps_VRs (a := ⟨ds.toArray, []⟩) (by simpa using hf) _) hdc⟩
      · next hcal => simp [isMut, hcal] at hm
      · split at e
        · obtain ⟨hz, e⟩ := bif_true e
          rw [hz]
          exact Lin.mono (app_lin _ _ _) (K := fun p => ∃ h1, (AVal.sl p.1 = v ∧ h1 = h') ∧ p.2 = fill F h1) (K' := fun p => AVal.sl p.1 = v ∧ p.2 = fill F h') (fun p hx => dn hx) (app_fill F e)
        · exact e.elim
      · split at e
        · obtain ⟨hz, e⟩ := bif_true e
          rw [hz]
          exact Lin.mono (copyS_lin _ _ _) (K := fun p => ∃ h1, (AVal.int .i64 p.1 = v ∧ h1 = h') ∧ p.2 = fill F h1) (K' := fun p => AVal.int .i64 p.1 = v ∧ p.2 = fill F h') (fun p hx => dn hx) (copyS_fill F e)
        · exact e.elim
      · split at e
        · obtain ⟨hz, e⟩ := bif_true e
          rw [hz]
          exact Lin.mono (clearS_lin _ _) (K := fun h2 => ∃ h1, (AVal.gone = v ∧ h1 = h') ∧ h2 = fill F h1) (fun h2 hx => dn hx) (clearS_fill F e)
        · exact e.elim
      · next hcal => simp [isMut, hcal] at hm
      · next hcal => simp [isMut, hcal] at hm
      · exact e.elim
end
end Go.Proofs.Ytgeakkmpohjohaa.Cl

/- The clean machine: objects laid in other places of the heap; calls in a heap with filled places. No claim is stated here. -/
set_option linter.unusedVariables false
set_option linter.unusedSimpArgs false
namespace Go.Proofs.Ytgeakkmpohjohaa.Cl
open Go
abbrev live (h : H) (o : Nat) : Prop := (inf h o).isSome = true
mutual
def al (h : H) : AVal → Prop
  | .ptr p => ∀ o, p.o = some o → live h o
  | .sl s => ∀ o, s.o = some o → live h o
  | .map r => ∀ o, r = some o → live h o
  | .func _ cap => als h cap
  | .agg cs => als h cs
  | .tuple vs => als h vs
  | .undef => True | .gone => True | .bool _ => True | .int _ _ => True | .str _ => True | .nilFunc => True
def als (h : H) : List AVal → Prop
  | [] => True
  | c :: cs => al h c ∧ als h cs
end
mutual
theorem VR.al {μ h} : ∀ {c v}, VR μ h c v → al h c
  | .undef, v, _ => by simp only [Cl.al]
  | .gone, v, _ => by simp only [Cl.al]
  | .bool b, v, _ => by simp only [Cl.al]
  | .int k n, v, _ => by simp only [Cl.al]
  | .str _, v, _ => by simp only [Cl.al]
  | .nilFunc, v, _ => by simp only [Cl.al]
  | .ptr p, v, r => by
    simp only [VR, PR] at r
    simp only [Cl.al]
    intro o e
    rw [e] at r
    exact r.1
  | .sl p, v, r => by
    simp only [VR, SR] at r
    simp only [Cl.al]
    intro o e
    rw [e] at r
    exact r.1
  | .map p, v, r => by
    simp only [VR, MR] at r
    simp only [Cl.al]
    intro o e
    rw [e] at r
    exact r.1
  | .func f cap, v, r => by
    simp only [VR] at r
    simp only [Cl.al]
    obtain ⟨ds, e, r⟩ := r
    exact VRs.al r
  | .agg cs, v, r => by
    simp only [VR] at r
    simp only [Cl.al]
    obtain ⟨ds, e, r, c⟩ := r
    exact VRs.al r
  | .tuple cs, v, r => by
    simp only [VR] at r
    simp only [Cl.al]
    obtain ⟨ds, e, r⟩ := r
    exact VRs.al r
theorem VRs.al {μ h} : ∀ {cs ds}, VRs μ h cs ds → als h cs
  | [], ds, _ => by simp only [als]
  | c :: cs, ds, r => by
    simp only [VRs] at r
    obtain ⟨d, ds', e, h1, h2⟩ := r
    simp only [als]
    exact ⟨VR.al h1, VRs.al h2⟩
end
mutual
theorem al_both {h1 h2 h : H} (hb : ∀ o, live h1 o → live h2 o → live h o) : ∀ {c}, al h1 c → al h2 c → al h c
  | .undef, _, _ => by simp only [al]
  | .gone, _, _ => by simp only [al]
  | .bool b, _, _ => by simp only [al]
  | .int k n, _, _ => by simp only [al]
  | .str _, _, _ => by simp only [al]
  | .nilFunc, _, _ => by simp only [al]
  | .ptr p, a, b => by simp only [al] at *; exact fun o e => hb o (a o e) (b o e)
  | .sl p, a, b => by simp only [al] at *; exact fun o e => hb o (a o e) (b o e)
  | .map p, a, b => by simp only [al] at *; exact fun o e => hb o (a o e) (b o e)
  | .func f cap, a, b => by simp only [al] at *; exact als_both hb a b
  | .agg cap, a, b => by simp only [al] at *; exact als_both hb a b
  | .tuple cap, a, b => by simp only [al] at *; exact als_both hb a b
theorem als_both {h1 h2 h : H} (hb : ∀ o, live h1 o → live h2 o → live h o) : ∀ {cs}, als h1 cs → als h2 cs → als h cs
  | [], _, _ => by simp only [als]
  | c :: cs, a, b => by simp only [als] at *; exact ⟨al_both hb a.1 b.1, als_both hb a.2 b.2⟩
end
/-- Two heaps that have the same objects, in the same places, as far as a third one has them. -/
def Agree (h : H) (μ1 : Mu) (h1 : H) (μ2 : Mu) (h2 : H) : Prop := ∀ o, live h o → inf h1 o = inf h2 o ∧ μ1 o = μ2 o
mutual
theorem VR.to {h μ1 h1 μ2 h2} (A : Agree h μ1 h1 μ2 h2) : ∀ {c v}, al h c → VR μ1 h1 c v → VR μ2 h2 c v
  | .undef, v, _, _ => by simp only [VR]
  | .gone, v, _, r => by simpa only [VR] using r
  | .bool b, v, _, r => by simpa only [VR] using r
  | .int k n, v, _, r => by simpa only [VR] using r
  | .str _, v, _, r => by simpa only [VR] using r
  | .nilFunc, v, _, r => by simpa only [VR] using r
  | .ptr p, v, a, r => by
    simp only [VR, PR, al] at *
    split
    · next e => rw [e] at r; exact r
    · next o e =>
      rw [e] at r
      obtain ⟨e1, e2⟩ := A o (a o e)
      rw [← e1, ← e2]
      exact r
  | .sl p, v, a, r => by
    simp only [VR, SR, al] at *
    split
    · next e => rw [e] at r; exact r
    · next o e =>
      rw [e] at r
      obtain ⟨e1, e2⟩ := A o (a o e)
      rw [← e1, ← e2]
      exact r
  | .map p, v, a, r => by
    simp only [VR, MR, al] at *
    split
    · exact r
    · next o =>
      obtain ⟨e1, e2⟩ := A o (a o rfl)
      rw [← e1, ← e2]
      exact r
  | .func f cap, v, a, r => by
    simp only [VR, al] at *
    obtain ⟨ds, e, r⟩ := r
    exact ⟨ds, e, VRs.to A a r⟩
  | .agg cs, v, a, r => by
    simp only [VR, al] at *
    obtain ⟨ds, e, r, c⟩ := r
    exact ⟨ds, e, VRs.to A a r, c⟩
  | .tuple cs, v, a, r => by
    simp only [VR, al] at *
    obtain ⟨ds, e, r⟩ := r
    exact ⟨ds, e, VRs.to A a r⟩
theorem VRs.to {h μ1 h1 μ2 h2} (A : Agree h μ1 h1 μ2 h2) : ∀ {cs ds}, als h cs → VRs μ1 h1 cs ds → VRs μ2 h2 cs ds
  | [], ds, _, r => by simpa only [VRs] using r
  | c :: cs, ds, a, r => by
    simp only [VRs, als] at *
    obtain ⟨d, ds', e, h1, h2⟩ := r
    exact ⟨d, ds', e, VR.to A a.1 h1, VRs.to A a.2 h2⟩
end
theorem live_of {h : H} {o : Nat} {t m : Nat} (e : inf h o = some (t, m)) : live h o := by unfold live; rw [e]; rfl
theorem inf_own {h : H} {o : Nat} {cs} (e : h[o]? = some (.own cs)) : inf h o = some (0, cs.length) := by unfold inf; rw [e]
theorem inf_ro {h : H} {o : Nat} {cs} (e : h[o]? = some (.ro cs)) : inf h o = some (1, cs.length) := by unfold inf; rw [e]
theorem inf_mp {h : H} {o : Nat} {cs} (e : h[o]? = some (.mp cs)) : inf h o = some (2, 0) := by unfold inf; rw [e]
theorem inf_dead {h : H} {o : Nat} (e : h[o]? = some .dead) : inf h o = none := by unfold inf; rw [e]
theorem inf_none {h : H} {o : Nat} (e : h[o]? = none) : inf h o = none := by unfold inf; rw [e]
theorem not_dead {h : H} {o : Nat} (l : live h o) : h[o]? ≠ some .dead := fun e => by unfold live at l; rw [inf_dead e] at l; cases l
theorem dead_of {h : H} {o : Nat} (hl : o < h.length) (e : inf h o = none) : h[o]? = some .dead := by
  unfold inf at e
  split at e <;> first | (cases e; done) | skip
  next hn1 hn2 hn3 hn4 =>
  rw [List.getElem?_eq_getElem hl] at *
  cases hx : h[o] with
  | own cs => rw [hx] at hn1; exact absurd rfl (hn1 cs)
  | ro cs => rw [hx] at hn2; exact absurd rfl (hn2 cs)
  | mp cs => rw [hx] at hn3; exact absurd rfl (hn3 cs)
  | lost n => rw [hx] at hn4; exact absurd rfl (hn4 n)
  | dead => rfl
section
variable {P : Program} {T : Tab} {S : SatT}
theorem inf_fill_live {F : Fil} {h : H} {o : Nat} (l : live h o) : inf (fill F h) o = inf h o := by
  have hd := not_dead l
  unfold inf
  rw [fill_get]
  cases hx : h[o]? with
  | none => rfl
  | some x =>
    have : x ≠ .dead := fun e => hd (by rw [hx, e])
    simp only [Option.map_some, fillO_live this]
/-- A heap of which a filled one tells, told alone. -/
theorem Rel.unfill {μ μ0 : Mu} {F : Fil} {h : H} {w w0 : World} (r : Rel μ (fill F h) w) (r0 : Rel μ0 h w0) : Rel μ h w := by
  have A : Agree h μ (fill F h) μ h := fun o l => ⟨inf_fill_live l, rfl⟩
  refine ⟨fun o cs e => ?_, fun o cs e i v hv => ?_, fun o es e => ?_, fun o o' t m t' m' e1 ht e2 hz hne hb => ?_⟩
  · obtain ⟨h1, h2, h3, h4⟩ := r.own o cs (fill_live e (by simp))
    refine ⟨h1, h2, h3, fun i v hv => ?_⟩
    obtain ⟨k1, d, k2, k3⟩ := h4 i v hv
    obtain ⟨_, _, _, q4⟩ := r0.own o cs e
    obtain ⟨_, _, _, q⟩ := q4 i v hv
    exact ⟨k1, d, k2, k3.to A q.al⟩
  · obtain ⟨k1, d, k2, k3⟩ := r.ro o cs (fill_live e (by simp)) i v hv
    obtain ⟨_, _, _, q⟩ := r0.ro o cs e i v hv
    exact ⟨k1, d, k2, k3.to A q.al⟩
  · obtain ⟨h1, ms, ck, h2, h3, h4⟩ := r.mp o es (fill_live e (by simp))
    refine ⟨h1, ms, ck, h2, h3, fun i k v hv => ?_⟩
    obtain ⟨k1, m, k2, k3, k4⟩ := h4 i k v hv
    obtain ⟨_, _, _, _, _, q4⟩ := r0.mp o es e
    obtain ⟨_, _, _, q5, q6⟩ := q4 i k v hv
    exact ⟨k1, m, k2, k3.to A q5.al, k4.to A q6.al⟩
  · exact r.sep o o' t m t' m' (by rw [inf_fill_live (live_of e1)]; exact e1) ht (by rw [inf_fill_live (live_of e2)]; exact e2) hz hne hb
/-- The places filled are dead ones. -/
def Fits (F : Fil) (h : H) : Prop := ∀ o cs, F o = some cs → h[o]? = some .dead
theorem VR.unfill {μ : Mu} {F : Fil} {h : H} {c v} (a : Cl.al h c) (r : VR μ (fill F h) c v) : VR μ h c v := r.to (fun o l => ⟨inf_fill_live l, rfl⟩) a
theorem VRs.unfill {μ : Mu} {F : Fil} {h : H} {c v} (a : als h c) (r : VRs μ (fill F h) c v) : VRs μ h c v := r.to (fun o l => ⟨inf_fill_live l, rfl⟩) a
theorem inf_fill_at {F : Fil} {h : H} {o : Nat} {cs} (hF : F o = some cs) (e : h[o]? = some .dead) : (fill F h)[o]? = some (.own cs) := by
  rw [fill_get, e, Option.map_some, hF]; rfl
/-- What a step brings about beside filled places. -/
theorem Tr.fill {μ μ' : Mu} {F : Fil} {h h' : H} {w w' : World} (hF : Fits F h) (hF' : Fits F h') (r : Rel μ (fill F h) w) (t : Tr μ h w μ' h' w') :
    ∃ μ2, Tr μ (Cl.fill F h) w μ2 (Cl.fill F h') w' ∧ ∀ {c v}, VR μ' h' c v → VR μ2 (Cl.fill F h') c v := by
  classical
  have hm2 : ∀ o, live h' o → F o = none := fun o l => by
    cases e : F o with
    | none => rfl
    | some cs => exact absurd (hF' o cs e) (not_dead l)
  refine ⟨fun o => if (F o).isSome then μ o else μ' o, ?_⟩
  generalize hμ : (fun o => if (F o).isSome then μ o else μ' o) = μ2
  have m1 : ∀ o, F o = none → μ2 o = μ' o := fun o e => by rw [← hμ]; simp [e]
  have m2 : ∀ o cs, F o = some cs → μ2 o = μ o := fun o cs e => by rw [← hμ]; simp [e]
  have A : Agree h' μ' h' μ2 (Cl.fill F h') := fun o l => ⟨(inf_fill_live l).symm, (m1 o (hm2 o l)).symm⟩
  have hinf : ∀ o t m, inf (Cl.fill F h') o = some (t, m) → (∃ cs, F o = some cs ∧ inf (Cl.fill F h) o = some (t, m) ∧ t = 0) ∨ (F o = none ∧ inf h' o = some (t, m)) := by
    intro o t m e
    cases hf : F o with
    | none =>
      refine .inr ⟨rfl, ?_⟩
      unfold inf at e ⊢
      rw [fill_get] at e
      cases hx : h'[o]? with
      | none => rw [hx] at e; cases e
      | some x =>
        rw [hx] at e
        simp only [Option.map_some, hf] at e
        have : fillO none x = x := by cases x <;> rfl
        rw [this] at e
        exact e
    | some cs =>
      rw [inf_own (inf_fill_at hf (hF' o cs hf))] at e
      refine .inl ⟨cs, rfl, ?_, ?_⟩
      · rw [inf_own (inf_fill_at hf (hF o cs hf))]; exact e
      · cases e; rfl
  have hst : Step μ (Cl.fill F h) μ2 (Cl.fill F h') := by
    refine ⟨by rw [fill_len, fill_len]; exact t.step.len, fun o l => ?_, fun o ty m ho e => ?_⟩
    · cases hf : F o with
      | some cs => rw [inf_own (inf_fill_at hf (hF' o cs hf))]; rfl
      | none =>
        have l' : live h o := by
          unfold live inf at *
          rw [fill_get] at l
          cases hx : h[o]? with
          | none => rw [hx] at l; cases l
          | some x =>
            rw [hx] at l
            simp only [Option.map_some, hf] at l
            have : fillO none x = x := by cases x <;> rfl
            rw [this] at l
            exact l
        have := t.step.alive o l'
        show (inf (Cl.fill F h') o).isSome = true
        rw [inf_fill_live this]; exact this
    · rw [fill_len] at ho
      rcases hinf o ty m e with ⟨cs, hf, e2, _⟩ | ⟨hf, e2⟩
      · exact ⟨ty, m, e2, Nat.le_refl _, fun _ => ⟨rfl, m2 o cs hf⟩, .inl rfl⟩
      · obtain ⟨t', n, e3, h1, h2, h3⟩ := t.step.same o ty m ho e2
        refine ⟨t', n, by rw [inf_fill_live (live_of e3)]; exact e3, h1, fun hmn => by rw [m1 o hf]; exact h2 hmn, h3⟩
  have hblk : ∀ o cs, F o = some cs → (μ o).b < w.heap.size ∧ w'.heap[(μ o).b]? = w.heap[(μ o).b]? := by
    intro o cs hf
    have hq := inf_fill_at hf (hF o cs hf)
    obtain ⟨h1, _⟩ := r.own o cs hq
    refine ⟨h1, t.keep.block _ h1 ?_⟩
    rintro ⟨o', ty, m, e, ht, hb⟩
    have hne : o ≠ o' := fun e2 => by subst e2; exact not_dead (live_of e) (hF o cs hf)
    exact r.sep o o' 0 cs.length ty m (inf_own hq) (by decide) (by rw [inf_fill_live (live_of e)]; exact e) ⟨fun h => absurd h ht.1, ht.2⟩ hne hb.symm
  have hcell : ∀ o cs i, F o = some cs → w'.cell? (place (μ o) i) = w.cell? (place (μ o) i) ∧ w'.frozen? (place (μ o) i) = w.frozen? (place (μ o) i) := by
    intro o cs i hf
    have := (hblk o cs hf).2
    unfold World.cell? World.frozen?
    simp only [place]
    rw [this]
    exact ⟨rfl, rfl⟩
  refine ⟨⟨⟨fun o cs e => ?_, fun o cs e i v hv => ?_, fun o es e => ?_, fun o o' ty m ty' m' e1 ht e2 hz hne hb => ?_⟩, hst, ⟨t.keep.os, t.keep.tape, t.keep.output, t.keep.size, fun k hk hn => ?_⟩, fun b hb => ?_, fun b hb => ?_⟩, fun {c v} hv => hv.to A hv.al⟩
  · cases hf : F o with
    | some cs' =>
      have e' := inf_fill_at hf (hF' o cs' hf)
      rw [e'] at e
      cases e
      obtain ⟨h1, h2, h3, h4⟩ := r.own o cs (inf_fill_at hf (hF o cs hf))
      rw [m2 o cs hf]
      refine ⟨Nat.lt_of_lt_of_le h1 t.keep.size, h2, fun i hi => ?_, fun i v hv => ?_⟩
      · rw [(hcell o cs i hf).1, (hcell o cs i hf).2]; exact h3 i hi
      · obtain ⟨k1, d, k2, k3⟩ := h4 i v hv
        exact ⟨k1, d, by rw [(hcell o cs i hf).1]; exact k2, k3.step hst⟩
    | none =>
      have e' : h'[o]? = some (.own cs) := by
        rw [fill_get] at e
        cases hx : h'[o]? with
        | none => rw [hx] at e; cases e
        | some x =>
          rw [hx] at e
          simp only [Option.map_some, hf] at e
          have : fillO none x = x := by cases x <;> rfl
          rw [this] at e
          exact e
      obtain ⟨h1, h2, h3, h4⟩ := t.rel.own o cs e'
      rw [m1 o hf]
      refine ⟨h1, h2, h3, fun i v hv => ?_⟩
      obtain ⟨k1, d, k2, k3⟩ := h4 i v hv
      exact ⟨k1, d, k2, k3.to A k3.al⟩
  · have hf : F o = none := by
      cases hf : F o with
      | none => rfl
      | some cs' => rw [inf_fill_at hf (hF' o cs' hf)] at e; cases e
    have e' : h'[o]? = some (.ro cs) := by
      rw [fill_get] at e
      cases hx : h'[o]? with
      | none => rw [hx] at e; cases e
      | some x =>
        rw [hx] at e
        simp only [Option.map_some, hf] at e
        have : fillO none x = x := by cases x <;> rfl
        rw [this] at e
        exact e
    obtain ⟨k1, d, k2, k3⟩ := t.rel.ro o cs e' i v hv
    rw [m1 o hf]
    exact ⟨k1, d, k2, k3.to A k3.al⟩
  · have hf : F o = none := by
      cases hf : F o with
      | none => rfl
      | some cs' => rw [inf_fill_at hf (hF' o cs' hf)] at e; cases e
    have e' : h'[o]? = some (.mp es) := by
      rw [fill_get] at e
      cases hx : h'[o]? with
      | none => rw [hx] at e; cases e
      | some x =>
        rw [hx] at e
        simp only [Option.map_some, hf] at e
        have : fillO none x = x := by cases x <;> rfl
        rw [this] at e
        exact e
    obtain ⟨h1, ms, ck, h2, h3, h4⟩ := t.rel.mp o es e'
    rw [m1 o hf]
    refine ⟨h1, ms, ck, h2, h3, fun i k v hv => ?_⟩
    obtain ⟨k1, m, k2, k3, k4⟩ := h4 i k v hv
    exact ⟨k1, m, k2, k3.to A k3.al, k4.to A k4.al⟩
  · have cross : ∀ o cs o' ty' m', F o = some cs → F o' = none → inf h' o' = some (ty', m') → ((ty' = 1 → 0 < m') ∧ ty' ≠ 3) → (μ o).b = (μ' o').b → False := by
      intro o cs o' ty' m' hf hf' e2 hz hb
      have hq := inf_fill_at hf (hF o cs hf)
      rcases t.has (μ' o').b ⟨o', ty', m', e2, hz, rfl⟩ with ⟨o2, t2, m2', e3, hz2, hb2⟩ | hsz
      · have hne : o ≠ o2 := fun e => by subst e; exact not_dead (live_of e3) (hF o cs hf)
        exact r.sep o o2 0 cs.length t2 m2' (inf_own hq) (by decide) (by rw [inf_fill_live (live_of e3)]; exact e3) hz2 hne (by rw [hb2, hb])
      · have := (hblk o cs hf).1
        omega
    rcases hinf o ty m e1 with ⟨cs, hf, e3, _⟩ | ⟨hf, e3⟩
    · rcases hinf o' ty' m' e2 with ⟨cs', hf', e4, _⟩ | ⟨hf', e4⟩
      · rw [m2 o cs hf, m2 o' cs' hf'] at hb
        exact r.sep o o' ty m ty' m' e3 ht e4 hz hne hb
      · rw [m2 o cs hf, m1 o' hf'] at hb
        exact cross o cs o' ty' m' hf hf' e4 hz hb
    · rcases hinf o' ty' m' e2 with ⟨cs', hf', e4, _⟩ | ⟨hf', e4⟩
      · rw [m1 o hf, m2 o' cs' hf'] at hb
        exact cross o' cs' o ty m hf' hf e3 ⟨fun h => absurd h ht.1, ht.2⟩ hb.symm
      · rw [m1 o hf, m1 o' hf'] at hb
        exact t.rel.sep o o' ty m ty' m' e3 ht e4 hz hne hb
  · refine t.keep.block k hk fun hm => hn ?_
    obtain ⟨o, ty, m, e, ht, hb⟩ := hm
    exact ⟨o, ty, m, by rw [inf_fill_live (live_of e)]; exact e, ht, hb⟩
  · obtain ⟨o, ty, m, e, ht, hb⟩ := hb
    rcases hinf o ty m e with ⟨cs, hf, e2, _⟩ | ⟨hf, e2⟩
    · rw [m2 o cs hf] at hb
      exact .inl ⟨o, ty, m, e2, ht, hb⟩
    · rw [m1 o hf] at hb
      rcases t.mine b ⟨o, ty, m, e2, ht, hb⟩ with ⟨o2, t2, m2', e3, ht2, hb2⟩ | hs
      · exact .inl ⟨o2, t2, m2', by rw [inf_fill_live (live_of e3)]; exact e3, ht2, hb2⟩
      · exact .inr hs
  · obtain ⟨o, ty, m, e, ht, hb⟩ := hb
    rcases hinf o ty m e with ⟨cs, hf, e2, _⟩ | ⟨hf, e2⟩
    · rw [m2 o cs hf] at hb
      exact .inl ⟨o, ty, m, e2, ht, hb⟩
    · rw [m1 o hf] at hb
      rcases t.has b ⟨o, ty, m, e2, ht, hb⟩ with ⟨o2, t2, m2', e3, ht2, hb2⟩ | hs
      · exact .inl ⟨o2, t2, m2', by rw [inf_fill_live (live_of e3)]; exact e3, ht2, hb2⟩
      · exact .inr hs
/-- A call in a heap with filled places. -/
theorem Sat.fill {F : Fil} {f : Nat} {args : List AVal} {h h' : H} {v : AVal} (hF : Fits F h) (hF' : Fits F h') {μ0 : Mu} {w0 : World} {ds0 : List Value} (r0 : Rel μ0 h w0) (a0 : VRs μ0 h args ds0)
    (s : Sat P f args h v h') : Sat P f args (Cl.fill F h) v (Cl.fill F h') := by
  refine ⟨s.1, fun μ w ds r hd => ?_⟩
  refine (s.2 μ w ds (r.unfill r0) (hd.unfill a0.al)).mono fun e w' ⟨x, μ', he, ht, hv⟩ => ?_
  obtain ⟨μ2, t2, k⟩ := ht.fill hF hF' r
  exact ⟨x, μ2, he, t2, k hv⟩
end
end Go.Proofs.Ytgeakkmpohjohaa.Cl

/- The clean machine: an allocation at a place of its own. No claim is stated here. -/
set_option linter.unusedVariables false
set_option linter.unusedSimpArgs false
namespace Go.Proofs.Ytgeakkmpohjohaa.Cl
open Go
section
variable {P : Program} {T : Tab} {S : SatT}
theorem alloc_own {o : Oper} {fr : Frame} {v : AVal} {h1 : H} (ha : isAlloc o.op = true) (e : opK S T o fr [] fun v2 h2 => v2 = v ∧ h2 = h1) :
    ∃ cs, h1 = [.own cs] ∧ ((∃ n off, v = .ptr ⟨some 0, n, off⟩) ∨ ∃ n off len sz, v = .sl ⟨some 0, n, off, len, sz⟩) ∧ ∀ g, opK S T o fr g fun v2 h2 => v2 = v.at_ g.length ∧ h2 = g ++ [.own cs] := by
  unfold opK at e ⊢
  cases ho : o.op <;> rw [ho] at ha <;> first
    | (simp [isAlloc] at ha; done)
    | skip
  · simp only [ho] at e ⊢
    obtain ⟨hz, e⟩ := bif_true e
    obtain ⟨rfl, rfl⟩ := e
    refine ⟨_, rfl, .inl ⟨_, _, rfl⟩, fun g => ?_⟩
    rw [hz]
    exact ⟨rfl, rfl⟩
  · next t x =>
    simp only [ho] at e ⊢
    cases hA : isAggT T t with
    | true =>
      rw [hA] at e
      simp only [cond_true] at e ⊢
      split at e
      · obtain ⟨hl, rfl, rfl⟩ := e
        exact ⟨_, rfl, .inl ⟨_, _, rfl⟩, fun g => ⟨hl, rfl, rfl⟩⟩
      · exact e.elim
    | false =>
      rw [hA] at e
      simp only [cond_false] at e ⊢
      obtain ⟨hz, e⟩ := bif_true e
      obtain ⟨rfl, rfl⟩ := e
      refine ⟨_, rfl, .inl ⟨_, _, rfl⟩, fun g => ?_⟩
      rw [hz]
      exact ⟨rfl, rfl⟩
  · next t n ps =>
    simp only [ho] at e ⊢
    split at e
    · next ee he =>
      obtain ⟨hz, e⟩ := bif_true e
      rw [hz]
      obtain ⟨cs, ⟨rfl, rfl⟩, k⟩ := Lin.wit (fillK_lin _ _ _ _) e
      exact ⟨cs, rfl, .inr ⟨_, _, _, _, rfl⟩, fun g => Lin.mono (fillK_lin _ _ _ _) (fun x hx => by subst hx; exact ⟨rfl, rfl⟩) k⟩
    · exact e.elim
  · next t n c =>
    simp only [ho] at e ⊢
    split at e
    · obtain ⟨hz, e⟩ := bif_true e
      rw [hz]
      obtain ⟨hl, rfl, rfl⟩ := e
      exact ⟨_, rfl, .inr ⟨_, _, _, _, rfl⟩, fun g => ⟨hl, rfl, rfl⟩⟩
    · exact e.elim
theorem opA_inv {o : Oper} {fr : Frame} {h : H} {p : Nat} {K : AVal → H → Prop} (ha : isAlloc o.op = true) (e : opA S T o fr h p K) :
    ∃ (v1 : AVal) (cs : List AVal), K (v1.at_ p) (h.set p (.own cs)) ∧ ((∃ n off, v1 = .ptr ⟨some 0, n, off⟩) ∨ ∃ n off len sz, v1 = .sl ⟨some 0, n, off, len, sz⟩) ∧ (∀ g, opK S T o fr g fun v2 h2 => v2 = v1.at_ g.length ∧ h2 = g ++ [.own cs]) ∧
      ∀ g q K', K' (v1.at_ q) (g.set q (.own cs)) → opA S T o fr g q K' := by
  unfold opA at e
  obtain ⟨v1, h1, e1, e2⟩ := op_one e
  obtain ⟨cs, rfl, k1, k2⟩ := alloc_own ha e1
  refine ⟨v1, cs, e2, k1, k2, fun g q K' hK => ?_⟩
  unfold opA
  exact Lin.mono (opK_lin (S := S) (T := T) (h := []) o fr) (K := fun x => x.1 = v1 ∧ x.2 = [.own cs]) (K' := fun x => match x.2 with | [y] => K' (x.1.at_ q) (g.set q y) | _ => False) (fun x hx => by rw [hx.1, hx.2]; exact hK) e1
theorem val_run {s : Sem Value} {w : World} {R : Value → World → Prop} (e : OpOK P (do pure (.value (← s))) w R) : ∃ x w1, (do pure (.value (← s)) : Sem Next).run P w = .ok (.value x) w1 ∧ R x w1 := by
  unfold OpOK at e
  rw [Sem.run_bind] at e ⊢
  cases hs : s.run P w with
  | ok x w1 =>
    rw [hs] at e
    simp only [Result.andThen_ok, Sem.run_pure] at e ⊢
    exact ⟨x, w1, rfl, e⟩
  | _ =>
    rw [hs] at e
    simp [Result.andThen] at e
theorem alloc_val {o : Oper} {ρ : Operand → Value} {w : World} {R : Value → World → Prop} (ha : isAlloc o.op = true) (e : OpOK P (execOp ρ o) w R) : ∃ x w1, (execOp ρ o).run P w = .ok (.value x) w1 ∧ R x w1 := by
  unfold execOp at e ⊢
  cases ho : o.op <;> rw [ho] at ha <;> first
    | (simp [isAlloc] at ha; done)
    | (simp only [ho] at e ⊢; exact val_run e)
theorem Step.dead (μ : Mu) (h : H) : Step μ h μ (h ++ [.dead]) :=
  ⟨by simp, fun o e => by rw [inf_push h _ o (isSome_lt e)]; exact e, fun o t m ho e => ⟨t, m, by rw [inf_push h _ o ho] at e; exact e, Nat.le_refl _, fun _ => ⟨rfl, rfl⟩, .inl rfl⟩⟩
theorem inf_dead_end (h : H) (o : Nat) : inf (h ++ [.dead]) o = inf h o := by
  by_cases hl : o < h.length
  · exact inf_push _ _ _ hl
  · have h1 : inf h o = none := inf_none (List.getElem?_eq_none (by omega))
    rw [h1]
    unfold inf
    rw [List.getElem?_append_right (by omega)]
    cases hq : o - h.length with
    | zero => rfl
    | succ n => rfl
theorem get_dead_end {h : H} {o : Nat} {x : AObj} (hx : x ≠ .dead) (e : (h ++ [.dead])[o]? = some x) : h[o]? = some x := by
  rw [List.getElem?_append] at e
  split at e
  · exact e
  · next hl =>
    cases hq : o - h.length with
    | zero => rw [hq] at e; cases e; exact absurd rfl hx
    | succ n => rw [hq] at e; cases e
theorem Tr.dead1 {μ h w} (r : Rel μ h w) : Tr μ h w μ (h ++ [.dead]) w := by
  have st := Step.dead μ h
  refine ⟨⟨fun o cs e => ?_, fun o cs e i v hv => ?_, fun o es e => ?_, fun o o' t m t' m' e1 ht e2 hz hne hb => ?_⟩, st, Keep.refl _ _, fun b hb => ?_, fun b hb => ?_⟩
  · obtain ⟨h1, h2, h3, h4⟩ := r.own o cs (get_dead_end (by simp) e)
    exact ⟨h1, h2, h3, fun i v hv => (h4 i v hv).imp id fun ⟨d, a, b⟩ => ⟨d, a, b.step st⟩⟩
  · exact (r.ro o cs (get_dead_end (by simp) e) i v hv).imp id fun ⟨d, a, b⟩ => ⟨d, a, b.step st⟩
  · obtain ⟨h1, ms, ck, h2, h3, h4⟩ := r.mp o es (get_dead_end (by simp) e)
    exact ⟨h1, ms, ck, h2, h3, fun i k v hv => (h4 i k v hv).imp id fun ⟨d, a, b, c⟩ => ⟨d, a, b.step st, c.step st⟩⟩
  · rw [inf_dead_end] at e1 e2; exact r.sep o o' t m t' m' e1 ht e2 hz hne hb
  · obtain ⟨o, t, m, e, x⟩ := hb; rw [inf_dead_end] at e; exact .inl ⟨o, t, m, e, x⟩
  · obtain ⟨o, t, m, e, x⟩ := hb; rw [inf_dead_end] at e; exact .inl ⟨o, t, m, e, x⟩
theorem Tr.deads {μ w} : ∀ (k : Nat) {h : H}, Rel μ h w → Tr μ h w μ (h ++ List.replicate k .dead) w
  | 0, h, r => by simpa using Tr.refl r
  | k + 1, h, r => by
    have t1 := Tr.dead1 r
    have t2 := Tr.deads k t1.rel
    rw [List.append_assoc] at t2
    exact t1.trans t2
/-- An allocation, told of at a place of its own. -/
theorem opA_sound (hS : ∀ f args h v h2, S f args h v h2 → Sat P f args h v h2) (hT : TOK P T) {μ0 μ : Mu} {h0 h : H} {w0 w : World} {o : Oper} {fr : Frame} {a : Act} {p : Nat} {K : AVal → H → Prop} (T0 : Tr μ0 h0 w0 μ h w) (hp : h0.length ≤ p) (hd : h[p]? = some .dead)
    (hf : VRs μ h fr a.tmps.toList) (ha : isAlloc o.op = true) (e : opA S T o fr h p K) :
    OpOK P (execOp a.eval o) w fun x w' => ∃ v h' μ', K v h' ∧ Tr μ0 h0 w0 μ' h' w' ∧ VR μ' h' v x ∧ VRs μ' h' fr a.tmps.toList := by
  obtain ⟨v1, cs, hK, hform, hg, _⟩ := opA_inv ha e
  obtain ⟨x, w1, run1, v, h', μ1, ⟨rfl, rfl⟩, t1, vx⟩ := alloc_val ha (op_sound hS hT T0.rel hf (hg h))
  have td := Tr.dead1 T0.rel
  obtain ⟨x', w1', run2, v, h', μ3, ⟨rfl, rfl⟩, t3, _⟩ := alloc_val ha (op_sound hS hT td.rel (hf.step td.step) (hg (h ++ [AObj.dead])))
  have hpl : p < h.length := (List.getElem?_eq_some_iff.1 hd).1
  have hnew : (h ++ [.own cs])[h.length]? = some (AObj.own cs) := by simp
  have halive : ∀ (i : Nat) v, cs[i]? = some v → al h v := by
    intro i v hv
    obtain ⟨_, _, _, q1⟩ := t1.rel.own h.length cs hnew
    obtain ⟨_, _, _, q3⟩ := t3.rel.own (h ++ [AObj.dead]).length cs (by simp)
    obtain ⟨_, _, _, k1⟩ := q1 i v hv
    obtain ⟨_, _, _, k3⟩ := q3 i v hv
    refine al_both (fun o l1 l3 => ?_) k1.al k3.al
    by_cases ho : o < h.length
    · unfold live at *; rwa [inf_push _ _ _ ho] at l1
    · exfalso
      have := isSome_lt l1
      simp at this
      have : o = h.length := by omega
      subst this
      exact not_dead l3 (by rw [List.getElem?_append_left (by simp)]; simp)
  have hset : (h.set p (.own cs))[p]? = some (AObj.own cs) := by simp [hpl]
  have hother : ∀ o, o ≠ p → (h.set p (.own cs))[o]? = h[o]? := fun o hne => by rw [List.getElem?_set, if_neg (fun e => hne e.symm)]
  have hinf : ∀ o, o ≠ p → inf (h.set p (.own cs)) o = inf h o := fun o hne => by unfold inf; rw [hother o hne]
  have hmu1 : ∀ o, live h o → μ1 o = μ o := fun o l => by
    unfold live at l
    cases hq : inf h o with
    | none => rw [hq] at l; cases l
    | some tm =>
      obtain ⟨ty, m⟩ := tm
      obtain ⟨_, n, e1, _, e3, _⟩ := t1.step.same o ty m (isSome_lt (live_of hq)) (by rw [inf_push _ _ _ (isSome_lt (live_of hq))]; exact hq)
      rw [hq] at e1
      cases e1
      exact (e3 rfl).2
  generalize hμ : (fun o => if o = p then μ1 h.length else μ1 o) = μ2
  have m1 : ∀ o, o ≠ p → μ2 o = μ1 o := fun o e => by rw [← hμ]; simp [e]
  have m2 : μ2 p = μ1 h.length := by rw [← hμ]; simp
  have A : Agree h μ1 (h ++ [.own cs]) μ2 (h.set p (.own cs)) := fun o l => by
    have hne : o ≠ p := fun e => by subst e; exact not_dead l hd
    exact ⟨by rw [inf_push _ _ _ (isSome_lt l), hinf o hne], (m1 o hne).symm⟩
  -- where an object of the new heap lies in the other one
  have hphi : ∀ o t m, inf (h.set p (.own cs)) o = some (t, m) → ∃ o', inf (h ++ [.own cs]) o' = some (t, m) ∧ μ2 o = μ1 o' ∧ (o' = if o = p then h.length else o) := by
    intro o t m e
    by_cases hne : o = p
    · subst hne
      rw [inf_own hset] at e
      exact ⟨h.length, by rw [inf_own hnew]; exact e, m2, by simp⟩
    · rw [hinf o hne] at e
      exact ⟨o, by rw [inf_push _ _ _ (isSome_lt (live_of e))]; exact e, m1 o hne, by simp [hne]⟩
  have hrel : Rel μ2 (h.set p (.own cs)) w1 := by
    refine ⟨fun o c e => ?_, fun o c e i v hv => ?_, fun o es e => ?_, fun o o' t m t' m' e1 ht e2 hz hne hb => ?_⟩
    · by_cases hne : o = p
      · subst hne
        rw [hset] at e
        cases e
        obtain ⟨h1, h2, h3, h4⟩ := t1.rel.own h.length cs hnew
        rw [m2]
        refine ⟨h1, h2, h3, fun i v hv => ?_⟩
        obtain ⟨k1, d, k2, k3⟩ := h4 i v hv
        exact ⟨k1, d, k2, k3.to A (halive i v hv)⟩
      · rw [hother o hne] at e
        have hl : o < h.length := (List.getElem?_eq_some_iff.1 e).1
        obtain ⟨h1, h2, h3, h4⟩ := t1.rel.own o c (by rw [List.getElem?_append_left hl]; exact e)
        rw [m1 o hne]
        refine ⟨h1, h2, h3, fun i v hv => ?_⟩
        obtain ⟨k1, d, k2, k3⟩ := h4 i v hv
        obtain ⟨_, _, _, q4⟩ := T0.rel.own o c e
        obtain ⟨_, _, _, q⟩ := q4 i v hv
        exact ⟨k1, d, k2, k3.to A q.al⟩
    · have hne : o ≠ p := fun e2 => by subst e2; rw [hset] at e; cases e
      rw [hother o hne] at e
      have hl : o < h.length := (List.getElem?_eq_some_iff.1 e).1
      obtain ⟨k1, d, k2, k3⟩ := t1.rel.ro o c (by rw [List.getElem?_append_left hl]; exact e) i v hv
      obtain ⟨_, _, _, q⟩ := T0.rel.ro o c e i v hv
      rw [m1 o hne]
      exact ⟨k1, d, k2, k3.to A q.al⟩
    · have hne : o ≠ p := fun e2 => by subst e2; rw [hset] at e; cases e
      rw [hother o hne] at e
      have hl : o < h.length := (List.getElem?_eq_some_iff.1 e).1
      obtain ⟨h1, ms, ck, h2, h3, h4⟩ := t1.rel.mp o es (by rw [List.getElem?_append_left hl]; exact e)
      rw [m1 o hne]
      refine ⟨h1, ms, ck, h2, h3, fun i k v hv => ?_⟩
      obtain ⟨k1, m, k2, k3, k4⟩ := h4 i k v hv
      obtain ⟨_, _, _, _, _, q4⟩ := T0.rel.mp o es e
      obtain ⟨_, _, _, q5, q6⟩ := q4 i k v hv
      exact ⟨k1, m, k2, k3.to A q5.al, k4.to A q6.al⟩
    · obtain ⟨a1, b1, c1, d1⟩ := hphi o t m e1
      obtain ⟨a2, b2, c2, d2⟩ := hphi o' t' m' e2
      rw [c1, c2] at hb
      have l1 := inf_lt e1
      have l2 := inf_lt e2
      simp at l1 l2
      refine t1.rel.sep a1 a2 t m t' m' b1 ht b2 hz (fun e => hne ?_) hb
      rw [d1, d2] at e
      split at e <;> split at e <;> omega
  have tt := T0.trans t1
  have hlen := T0.step.len
  refine (?_ : OpOK P (execOp a.eval o) w _)
  unfold OpOK
  rw [run1]
  refine ⟨_, _, μ2, hK, ⟨hrel, ⟨by simpa using hlen, fun o l => ?_, fun o t m ho e => ?_⟩, tt.keep, fun b hb => ?_, fun b hb => ?_⟩, ?_, (hf.step t1.step).to A hf.al⟩
  · have hl0 := isSome_lt l
    have hne : o ≠ p := by omega
    rw [hinf o hne]; exact T0.step.alive o l
  · have hne : o ≠ p := by omega
    rw [hinf o hne] at e
    obtain ⟨t', n, e1, e2, e3, e4⟩ := T0.step.same o t m ho e
    exact ⟨t', n, e1, e2, fun hmn => ⟨(e3 hmn).1, by rw [m1 o hne, hmu1 o (live_of e), (e3 hmn).2]⟩, e4⟩
  · obtain ⟨o, t, m, e, ht, hb⟩ := hb
    obtain ⟨a1, b1, c1, _⟩ := hphi o t m e
    exact tt.mine b ⟨a1, t, m, b1, ht, by rw [← c1]; exact hb⟩
  · obtain ⟨o, t, m, e, ht, hb⟩ := hb
    obtain ⟨a1, b1, c1, _⟩ := hphi o t m e
    exact tt.has b ⟨a1, t, m, b1, ht, by rw [← c1]; exact hb⟩
  · have e1 : inf (h ++ [.own cs]) h.length = inf (h.set p (.own cs)) p := by rw [inf_own hnew, inf_own hset]
    rcases hform with ⟨n, off, rfl⟩ | ⟨n, off, len, sz, rfl⟩
    · simp only [AVal.at_, VR, PR] at vx ⊢
      rw [← e1, m2]; exact vx
    · simp only [AVal.at_, VR, SR] at vx ⊢
      rw [← e1, m2]; exact vx
end
end Go.Proofs.Ytgeakkmpohjohaa.Cl

/- The clean machine: a region whose order is drawn, with allocations in any order. No claim is stated here. -/
set_option linter.unusedVariables false
set_option linter.unusedSimpArgs false
namespace Go.Proofs.Ytgeakkmpohjohaa.Cl
open Go
section
variable {P : Program} {T : Tab} {S : SatT} {ops : List Oper} {n k : Nat}
theorem alloc_mut {o : Op} (h : isAlloc o = true) : isMut o = true := by cases o <;> first | rfl | (simp [isAlloc] at h)
/-- An operation, an allocation at the place of its own. -/
def opX (S : SatT) (T : Tab) (n i : Nat) (o : Oper) (fr : Frame) (h : H) (K : AVal → H → Prop) : Prop :=
  bif isAlloc o.op then opA S T o fr h (n + i) K else opK S T o fr h K
inductive ValX (S : SatT) (T : Tab) (ops : List Oper) (n : Nat) : Frame → H → List Stp → Frame → H → Prop where
  | nil {fr h} : ValX S T ops n fr h [] fr h
  | cons {fr h st l fr2 h2} : st.h = h → agree ops st.o fr st.fr → (st.ex = true → gOK ops st.fr st.o ∧ opX S T n st.i st.o st.fr st.h fun v h => v = st.v ∧ h = st.h') →
      (st.ex = false → gNo ops st.fr st.o ∧ st.v = .gone ∧ st.h' = st.h) → ValX S T ops n (put fr st.o.dst st.v) st.h' l fr2 h2 → ValX S T ops n fr h (st :: l) fr2 h2
/-- Places that may be filled under a step. -/
def Room (n k i : Nat) (h : H) (F : Fil) : Prop := ∀ o cs, F o = some cs → n ≤ o ∧ o < n + k ∧ o ≠ n + i ∧ h[o]? = some .dead
structure Good (S : SatT) (T : Tab) (n k : Nat) (a : Stp) : Prop where
  fil : a.chg → ∀ F, Room n k a.i a.h F → opX S T n a.i a.o a.fr (fill F a.h) fun v h2 => v = a.v ∧ h2 = fill F a.h'
  ded : a.chg → ∀ o, n ≤ o → o < n + k → a.h'[o]? = some .dead → a.h[o]? = some .dead
  own : a.ex = true → isAlloc a.o.op = true → a.i < k ∧ a.h[n + a.i]? = some .dead
structure SimX (n k : Nat) (a b : Stp) : Prop where
  i : a.i = b.i
  o : a.o = b.o
  fr : a.fr = b.fr
  ex : a.ex = b.ex
  v : a.v = b.v
  chg : a.chg → ∃ F, Room n k a.i a.h F ∧ b.h = fill F a.h ∧ b.h' = fill F a.h'
theorem SimX.refl (a : Stp) : SimX n k a a := ⟨rfl, rfl, rfl, rfl, rfl, fun _ => ⟨fun _ => none, (fun o cs e => by cases e), (fill_none _).symm, (fill_none _).symm⟩⟩
theorem Sim.x {a b : Stp} (s : Sim a b) : SimX n k a b := ⟨s.i, s.o, s.fr, s.ex, s.v, fun c => ⟨fun _ => none, (fun o cs e => by cases e), by rw [fill_none]; exact (s.chg c).1.symm, by rw [fill_none]; exact (s.chg c).2.symm⟩⟩
theorem fill_dead {F : Fil} {h : H} {o : Nat} (e : (fill F h)[o]? = some .dead) : h[o]? = some .dead ∧ F o = none := by
  rw [fill_get] at e
  cases hx : h[o]? with
  | none => rw [hx] at e; cases e
  | some x =>
    rw [hx] at e
    simp only [Option.map_some, Option.some.injEq] at e
    cases x <;> cases hf : F o <;> simp_all [fillO]
theorem dead_fill {F : Fil} {h : H} {o : Nat} (e : h[o]? = some .dead) (hf : F o = none) : (fill F h)[o]? = some .dead := by
  rw [fill_get, e, Option.map_some, hf]; rfl
theorem SimX.chg_iff {a b : Stp} (s : SimX n k a b) : a.chg ↔ b.chg := by unfold Stp.chg; rw [s.ex, s.o]
theorem Room.none_at {i : Nat} {h : H} {F : Fil} (r : Room n k i h F) : F (n + i) = none := by
  cases e : F (n + i) with
  | none => rfl
  | some cs => exact absurd rfl (r _ cs e).2.2.1
theorem Good.sim {a b : Stp} (g : Good S T n k a) (s : SimX n k a b) : Good S T n k b := by
  refine ⟨fun c G hG => ?_, fun c o h1 h2 h3 => ?_, fun he ha => ?_⟩
  · have c' := s.chg_iff.2 c
    obtain ⟨F, hF, e1, e2⟩ := s.chg c'
    rw [e1] at hG
    rw [e1, e2, fill_fill, fill_fill, ← s.i, ← s.o, ← s.fr, ← s.v]
    refine g.fil c' _ fun o cs ho => ?_
    cases hf : F o with
    | some cs' => exact hF o cs' hf
    | none =>
      rw [hf] at ho
      obtain ⟨q1, q2, q3, q4⟩ := hG o cs (by simpa using ho)
      rw [← s.i] at q3
      exact ⟨q1, q2, q3, (fill_dead q4).1⟩
  · have c' := s.chg_iff.2 c
    obtain ⟨F, hF, e1, e2⟩ := s.chg c'
    rw [e2] at h3
    obtain ⟨k1, k2⟩ := fill_dead h3
    rw [e1]
    exact dead_fill (g.ded c' o h1 h2 k1) k2
  · rw [← s.ex] at he
    rw [← s.o] at ha
    obtain ⟨q1, q2⟩ := g.own he ha
    obtain ⟨F, hF, e1, e2⟩ := s.chg ⟨he, alloc_mut ha⟩
    rw [← s.i, e1]
    exact ⟨q1, dead_fill q2 hF.none_at⟩
theorem Both.simX {b x y x' y'} (h : Both S T b x y) (sx : SimX n k x x') (sy : SimX n k y y') : Both S T b x' y' := by
  intro e1 e2 e3 e4
  have m := sy.chg_iff.2 e3
  rw [← sx.o] at e2
  obtain ⟨h1, h2⟩ := h (by rw [sx.ex]; exact e1) e2 m (by rw [sx.i, sy.i]; exact e4)
  obtain ⟨F, hF, q1, q2⟩ := sy.chg m
  unfold Tells at *
  rw [← sx.o, ← sx.fr, ← sx.v, q1, q2]
  exact ⟨rr_fill F e2 h1, rr_fill F e2 h2⟩
structure ApartX (ops : List Oper) (b : List Nat) (x y : Stp) : Prop where
  ne : x.i ≠ y.i
  un : unord b x.i y.i = true
  chg : isMut x.o.op = true → isMut y.o.op = true → isAlloc y.o.op = true
  xy : ∀ d, x.o.dst = some d → d ∉ readsOf ops y.o
  yx : ∀ d, y.o.dst = some d → d ∉ readsOf ops x.o
  dd : ∀ d e, x.o.dst = some d → y.o.dst = some e → d ≠ e
theorem nonmutX {a : Stp} (hm : isMut a.o.op = false) : (opX S T n a.i a.o a.fr a.h fun v h => v = a.v ∧ h = a.h') → (opK S T a.o a.fr a.h fun v h => v = a.v ∧ h = a.h') ∧ a.h' = a.h := by
  intro e
  have ha : isAlloc a.o.op = false := by
    cases h : isAlloc a.o.op with
    | false => rfl
    | true => rw [alloc_mut h] at hm; cases hm
  unfold opX at e
  rw [ha] at e
  exact ⟨e, nonmut_same hm e⟩
/-- A step that does not change the heap keeps it. -/
theorem still {a : Stp} (ex : a.ex = true → gOK ops a.fr a.o ∧ opX S T n a.i a.o a.fr a.h fun v h => v = a.v ∧ h = a.h') (no : a.ex = false → gNo ops a.fr a.o ∧ a.v = .gone ∧ a.h' = a.h) (hc : ¬ a.chg) : a.h' = a.h := by
  cases e : a.ex with
  | false => exact (no e).2.2
  | true =>
    have : isMut a.o.op = false := by
      cases hm : isMut a.o.op with
      | false => rfl
      | true => exact absurd ⟨e, hm⟩ hc
    exact (nonmutX this (ex e).2).2
theorem opX_non {a : Stp} {fr : Frame} {h : H} {K : AVal → H → Prop} (hm : isMut a.o.op = false) : opX S T n a.i a.o fr h K = opK S T a.o fr h K := by
  have ha : isAlloc a.o.op = false := by
    cases h : isAlloc a.o.op with
    | false => rfl
    | true => rw [alloc_mut h] at hm; cases hm
  unfold opX; rw [ha]; rfl
/-- Two steps change places; the second one is no allocation that is carried out. -/
theorem swapX {b : List Nat} {fr h x y l fr2 h2} (H : ValX S T ops n fr h (x :: y :: l) fr2 h2) (ap : ApartX ops b x y) (hy : ¬ (y.ex = true ∧ isAlloc y.o.op = true)) (c1 : Both S T b x y) (c2 : Both S T b y x) :
    ∃ x' y', Sim x x' ∧ Sim y y' ∧ ValX S T ops n fr h (y' :: x' :: l) fr2 h2 := by
  cases H with
  | cons hx ax ex nx H =>
  cases H with
  | cons hyh ay ey ny H =>
  have ay' : agree ops y.o fr y.fr := fun t ht => by rw [← ay t ht, getD_put _ _ _ _ fun d hd e => ap.xy d hd (e ▸ ht)]
  have ax' : agree ops x.o (put fr y.o.dst y.v) x.fr := fun t ht => by rw [getD_put _ _ _ _ fun d hd e => ap.yx d hd (e ▸ ht)]; exact ax t ht
  have hput : put (put fr x.o.dst x.v) y.o.dst y.v = put (put fr y.o.dst y.v) x.o.dst x.v := put_comm _ _ _ _ _ fun d e h1 h2 => ap.dd d e h1 h2
  rw [hput] at H
  by_cases mx : x.chg
  · have my : ¬ y.chg := fun m => hy ⟨m.1, ap.chg mx.2 m.2⟩
    have hyy := still ey ny my
    refine ⟨x, { y with h := h, h' := h }, Sim.refl _, ⟨rfl, rfl, rfl, rfl, rfl, fun m => absurd m my⟩, ?_⟩
    refine .cons rfl ay' (fun e => ⟨(ey e).1, ?_⟩) (fun e => ⟨(ny e).1, (ny e).2.1, rfl⟩) ?_
    · have hm : isMut y.o.op = false := by
        cases hm : isMut y.o.op with
        | false => rfl
        | true => exact absurd ⟨e, hm⟩ my
      have := (c2 e hm mx (by rw [unord_comm]; exact ap.un)).1
      rw [hx] at this
      show opX S T n y.i y.o y.fr h _
      rw [opX_non hm]
      exact this
    · refine .cons hx ax' ex nx ?_
      rw [hyy, hyh] at H
      exact H
  · have hxx := still ex nx mx
    refine ⟨{ x with h := y.h', h' := y.h' }, y, ⟨rfl, rfl, rfl, rfl, rfl, fun m => absurd m mx⟩, Sim.refl _, ?_⟩
    refine .cons (by rw [hyh, hxx, hx]) ay' ey ny ?_
    refine .cons rfl ax' (fun e => ⟨(ex e).1, ?_⟩) (fun e => ⟨(nx e).1, (nx e).2.1, rfl⟩) H
    have hm : isMut x.o.op = false := by
      cases hm : isMut x.o.op with
      | false => rfl
      | true => exact absurd ⟨e, hm⟩ mx
    show opX S T n x.i x.o x.fr y.h' _
    rw [opX_non hm]
    by_cases my : y.chg
    · exact (c1 e hm my ap.un).2
    · have hyy := still ey ny my
      have := (nonmutX hm (ex e).2).1
      rw [hxx] at this
      show opK S T x.o x.fr y.h' fun v h2 => v = x.v ∧ h2 = y.h'
      rw [hyy, hyh, hxx]
      exact this
theorem fill_set_dead {h : H} {p : Nat} {cs : List AVal} (e : h[p]? = some .dead) : h.set p (.own cs) = fill (one1 p cs) h := set_fill cs e
theorem room_one {p i : Nat} {h : H} {cs : List AVal} (h1 : n ≤ p) (h2 : p < n + k) (h3 : p ≠ n + i) (e : h[p]? = some .dead) : Room n k i h (one1 p cs) := by
  intro o cs' ho
  unfold one1 at ho
  split at ho
  · next e2 => subst e2; exact ⟨h1, h2, h3, e⟩
  · cases ho
/-- An allocation goes ahead of another step. -/
theorem swapA {b : List Nat} {fr h x y l fr2 h2} (H : ValX S T ops n fr h (x :: y :: l) fr2 h2) (ap : ApartX ops b x y) (hye : y.ex = true) (hya : isAlloc y.o.op = true) (hyi : y.i < k) (hyd : y.h[n + y.i]? = some .dead) (gx : Good S T n k x) :
    ∃ x' y', SimX n k x x' ∧ (y'.i = y.i ∧ y'.o = y.o ∧ y'.fr = y.fr ∧ y'.ex = y.ex ∧ y'.v = y.v ∧ y'.h = h ∧ h[n + y.i]? = some .dead) ∧ ValX S T ops n fr h (y' :: x' :: l) fr2 h2 := by
  cases H with
  | cons hx ax ex nx H =>
  cases H with
  | cons hyh ay ey ny H =>
  have ay' : agree ops y.o fr y.fr := fun t ht => by rw [← ay t ht, getD_put _ _ _ _ fun d hd e => ap.xy d hd (e ▸ ht)]
  have ax' : agree ops x.o (put fr y.o.dst y.v) x.fr := fun t ht => by rw [getD_put _ _ _ _ fun d hd e => ap.yx d hd (e ▸ ht)]; exact ax t ht
  have hput : put (put fr x.o.dst x.v) y.o.dst y.v = put (put fr y.o.dst y.v) x.o.dst x.v := put_comm _ _ _ _ _ fun d e h1 h2 => ap.dd d e h1 h2
  rw [hput] at H
  have hp2 : n + y.i < n + k := by omega
  have hne : n + y.i ≠ n + x.i := fun e => ap.ne (by omega)
  rw [hyh] at hyd
  have hxd : x.h[n + y.i]? = some .dead := by
    by_cases mx : x.chg
    · exact gx.ded mx _ (by omega) hp2 hyd
    · rw [← still ex nx mx]; exact hyd
  obtain ⟨v1, cs, ⟨e1, e2⟩, _, _, hA⟩ := opA_inv (S := S) (T := T) (K := fun v h => v = y.v ∧ h = y.h') hya (show opA S T y.o y.fr y.h (n + y.i) _ by have := (ey hye).2; unfold opX at this; rw [hya] at this; exact this)
  rw [hyh] at e2
  have hF : Room n k x.i x.h (one1 (n + y.i) cs) := room_one (by omega) hp2 hne hxd
  refine ⟨{ x with h := fill (one1 (n + y.i) cs) x.h, h' := fill (one1 (n + y.i) cs) x.h' }, { y with h := h, h' := h.set (n + y.i) (.own cs) }, ⟨rfl, rfl, rfl, rfl, rfl, fun _ => ⟨_, hF, rfl, rfl⟩⟩, ⟨rfl, rfl, rfl, rfl, rfl, rfl, by rw [← hx]; exact hxd⟩, ?_⟩
  refine .cons rfl ay' (fun e => ⟨(ey e).1, ?_⟩) (fun e => by rw [show _ = y.ex from rfl, hye] at e; cases e) ?_
  · show opX S T n y.i y.o y.fr h _
    unfold opX
    rw [hya]
    exact hA h (n + y.i) (fun v h2 => v = y.v ∧ h2 = h.set (n + y.i) (.own cs)) ⟨e1, rfl⟩
  · refine .cons (by show fill _ x.h = h.set _ _; rw [hx] at hxd ⊢; exact (set_fill cs hxd).symm) ax' (fun e => ⟨(ex e).1, ?_⟩) (fun e => ⟨(nx e).1, (nx e).2.1, by show fill _ x.h' = fill _ x.h; rw [(nx e).2.2]⟩) ?_
    · by_cases mx : x.chg
      · exact gx.fil mx _ hF
      · have hm : isMut x.o.op = false := by
          cases hm : isMut x.o.op with
          | false => rfl
          | true => exact absurd ⟨e, hm⟩ mx
        obtain ⟨q1, q2⟩ := nonmutX hm (ex e).2
        show opX S T n x.i x.o x.fr _ _
        rw [opX_non hm]
        rw [q2] at q1
        have := rr_fill (one1 (n + y.i) cs) hm q1
        show opK S T x.o x.fr (fill _ x.h) fun v h2 => v = x.v ∧ h2 = fill _ x.h'
        rw [q2]
        exact this
    · show ValX S T ops n _ (fill _ x.h') l fr2 h2
      rw [← set_fill cs hyd, e2]
      exact H
def SimsX (n k : Nat) : List Stp → List Stp → Prop
  | [], [] => True
  | a :: l, b :: m => SimX n k a b ∧ SimsX n k l m
  | _, _ => False
theorem SimsX.refl : ∀ l, SimsX n k l l
  | [] => trivial
  | a :: l => ⟨SimX.refl a, SimsX.refl l⟩
theorem Sims.x : ∀ {l m}, Sims l m → SimsX n k l m
  | [], [], _ => trivial
  | a :: l, b :: m, h => ⟨h.1.x, Sims.x h.2⟩
  | [], _ :: _, h => h.elim
  | _ :: _, [], h => h.elim
theorem frontN {b : List Nat} {s : Stp} {post : List Stp} : ∀ (pre : List Stp) {fr h fr2 h2}, ValX S T ops n fr h (pre ++ s :: post) fr2 h2 → ¬ (s.ex = true ∧ isAlloc s.o.op = true) →
    (∀ x ∈ pre, ApartX ops b x s ∧ Both S T b x s ∧ Both S T b s x) → ∃ pre' s', Sims pre pre' ∧ Sim s s' ∧ ValX S T ops n fr h (s' :: pre' ++ post) fr2 h2
  | [], fr, h, fr2, h2, hV, _, _ => ⟨[], s, trivial, Sim.refl s, hV⟩
  | x :: pre, fr, h, fr2, h2, hV, hs, hp => by
    cases hV with
    | cons k1 k2 k3 k4 k5 =>
      obtain ⟨pre', s', q1, q2, q3⟩ := frontN pre k5 hs fun y hy => hp y (by simp [hy])
      obtain ⟨p1, p2, p3⟩ := hp x (by simp)
      have hx : ValX S T ops n fr h (x :: s' :: (pre' ++ post)) fr2 h2 := .cons k1 k2 k3 k4 q3
      have ap : ApartX ops b x s' := ⟨by rw [← q2.i]; exact p1.ne, by rw [← q2.i]; exact p1.un, by rw [← q2.o]; exact p1.chg, by rw [← q2.o]; exact p1.xy, by rw [← q2.o]; exact p1.yx, by rw [← q2.o]; exact p1.dd⟩
      obtain ⟨x', s'', r1, r2, r3⟩ := swapX hx ap (by rw [← q2.ex, ← q2.o]; exact hs) (p2.sim (Sim.refl x) q2) (p3.sim q2 (Sim.refl x))
      exact ⟨x' :: pre', s'', ⟨r1, q1⟩, ⟨q2.i.trans r2.i, q2.o.trans r2.o, q2.fr.trans r2.fr, q2.ex.trans r2.ex, q2.v.trans r2.v, fun m => by
        have m1 := q2.chg m
        have m' : s'.chg := ⟨by rw [← q2.ex]; exact m.1, by rw [← q2.o]; exact m.2⟩
        have m2 := r2.chg m'
        exact ⟨m1.1.trans m2.1, m1.2.trans m2.2⟩⟩, r3⟩
theorem frontA {b : List Nat} {s : Stp} {post : List Stp} (hse : s.ex = true) (hsa : isAlloc s.o.op = true) (hsi : s.i < k) (hsd : s.h[n + s.i]? = some .dead) : ∀ (pre : List Stp) {fr h fr2 h2}, ValX S T ops n fr h (pre ++ s :: post) fr2 h2 →
    (∀ x ∈ pre, ApartX ops b x s ∧ Good S T n k x) →
    ∃ pre' s', SimsX n k pre pre' ∧ (s'.i = s.i ∧ s'.o = s.o ∧ s'.fr = s.fr ∧ s'.ex = s.ex ∧ s'.v = s.v ∧ s'.h = h ∧ h[n + s.i]? = some .dead) ∧ ValX S T ops n fr h (s' :: pre' ++ post) fr2 h2
  | [], fr, h, fr2, h2, hV, _ => by
    cases hV with
    | cons k1 k2 k3 k4 k5 => exact ⟨[], s, trivial, ⟨rfl, rfl, rfl, rfl, rfl, k1, by rw [← k1]; exact hsd⟩, .cons k1 k2 k3 k4 k5⟩
  | x :: pre, fr, h, fr2, h2, hV, hp => by
    cases hV with
    | cons k1 k2 k3 k4 k5 =>
      obtain ⟨pre', s', q1, ⟨i1, i2, i3, i4, i5, i6, i7⟩, q3⟩ := frontA hse hsa hsi hsd pre k5 fun y hy => hp y (by simp [hy])
      obtain ⟨p1, p2⟩ := hp x (by simp)
      have hx : ValX S T ops n fr h (x :: s' :: (pre' ++ post)) fr2 h2 := .cons k1 k2 k3 k4 q3
      have ap : ApartX ops b x s' := ⟨by rw [i1]; exact p1.ne, by rw [i1]; exact p1.un, by rw [i2]; exact p1.chg, by rw [i2]; exact p1.xy, by rw [i2]; exact p1.yx, by rw [i2]; exact p1.dd⟩
      obtain ⟨x', s'', r1, ⟨j1, j2, j3, j4, j5, j6, j7⟩, r3⟩ := swapA hx ap (i4.trans hse) (by rw [i2]; exact hsa) (by rw [i1]; exact hsi) (by rw [i6, i1]; exact i7) p2
      exact ⟨x' :: pre', s'', ⟨r1, q1⟩, ⟨j1.trans i1, j2.trans i2, j3.trans i3, j4.trans i4, j5.trans i5, j6, by rw [i1] at j7; exact j7⟩, r3⟩
/-- A step ahead of others. -/
theorem frontX {b : List Nat} {s : Stp} {post : List Stp} (pre : List Stp) {fr h fr2 h2} (hV : ValX S T ops n fr h (pre ++ s :: post) fr2 h2) (gs : Good S T n k s)
    (hp : ∀ x ∈ pre, ApartX ops b x s ∧ Both S T b x s ∧ Both S T b s x ∧ Good S T n k x) :
    ∃ pre' s', SimsX n k pre pre' ∧ (s'.i = s.i ∧ s'.o = s.o ∧ s'.ex = s.ex ∧ (s.ex = true → isAlloc s.o.op = true → h[n + s.i]? = some .dead)) ∧ ValX S T ops n fr h (s' :: pre' ++ post) fr2 h2 := by
  by_cases hc : s.ex = true ∧ isAlloc s.o.op = true
  · obtain ⟨g1, g2⟩ := gs.own hc.1 hc.2
    obtain ⟨pre', s', q1, ⟨i1, i2, i3, i4, i5, i6, i7⟩, q3⟩ := frontA hc.1 hc.2 g1 g2 pre hV fun x hx => ⟨(hp x hx).1, (hp x hx).2.2.2⟩
    exact ⟨pre', s', q1, ⟨i1, i2, i4, fun _ _ => i7⟩, q3⟩
  · obtain ⟨pre', s', q1, q2, q3⟩ := frontN pre hV hc fun x hx => ⟨(hp x hx).1, (hp x hx).2.1, (hp x hx).2.2.1⟩
    exact ⟨pre', s', q1.x, ⟨q2.i.symm, q2.o.symm, q2.ex.symm, fun h1 h2 => absurd ⟨h1, h2⟩ hc⟩, q3⟩
end
end Go.Proofs.Ytgeakkmpohjohaa.Cl

/- The clean machine: a region with allocations in any order, told in one order. No claim is stated here. -/
set_option linter.unusedVariables false
set_option linter.unusedSimpArgs false
namespace Go.Proofs.Ytgeakkmpohjohaa.Cl
open Go
theorem okPairsE_pair {ops : List Oper} {b : List Nat} : ∀ (l : List (Oper × Nat)), okPairsE ops b l = true → l.Pairwise fun p q => pairE ops b p q = true
  | [], _ => .nil
  | p :: l, h => by
    have h' : ((l.all fun q => pairE ops b p q) && okPairsE ops b l) = true := h
    rw [Bool.and_eq_true, List.all_eq_true] at h'
    exact .cons h'.1 (okPairsE_pair l h'.2)
theorem lateGo_mem (ops : List Oper) : ∀ (fuel : Nat) (dn : List Nat), ∀ p ∈ lateGo ops fuel dn, p ∈ ops.zipIdx
  | 0, dn, p, h => by simp [lateGo] at h
  | fuel + 1, dn, p, h => by
    unfold lateGo at h
    split at h
    · next q hq =>
      rcases List.mem_cons.1 h with rfl | h
      · exact List.mem_of_find?_eq_some hq
      · exact lateGo_mem ops fuel _ p h
    · split at h
      · next q hq =>
        rcases List.mem_cons.1 h with rfl | h
        · exact List.mem_of_find?_eq_some hq
        · exact lateGo_mem ops fuel _ p h
      · simp at h
theorem late2Go_mem (ops : List Oper) (b : List Nat) : ∀ (fuel : Nat) (dn : List Nat), ∀ p ∈ late2Go ops b fuel dn, p ∈ ops.zipIdx
  | 0, dn, p, h => by simp [late2Go] at h
  | fuel + 1, dn, p, h => by
    unfold late2Go at h
    split at h
    · next q hq =>
      rcases List.mem_cons.1 h with rfl | h
      · exact List.mem_of_find?_eq_some hq
      · exact late2Go_mem ops b fuel _ p h
    · split at h
      · split at h
        · next q hq =>
          rcases List.mem_cons.1 h with rfl | h
          · exact List.mem_of_find?_eq_some hq
          · exact late2Go_mem ops b fuel _ p h
        · simp at h
      · split at h
        · next q hq =>
          rcases List.mem_cons.1 h with rfl | h
          · exact List.mem_of_find?_eq_some hq
          · exact late2Go_mem ops b fuel _ p h
        · simp at h
theorem pairE_ne {ops : List Oper} {b : List Nat} {p q : Oper × Nat} (h : pairE ops b p q = true) : p.2 ≠ q.2 := fun e => by
  unfold pairE at h
  simp [e] at h
theorem pairE_bef {ops : List Oper} {b : List Nat} {p q : Oper × Nat} (h : pairE ops b p q = true) : bef b p.2 q.2 = false := by
  unfold pairE at h
  simp only [Bool.and_eq_true] at h
  simpa using h.1.1.2
section
variable {P : Program} {T : Tab}
theorem callK_mono {S S' : SatT} (hS : ∀ f args h v h2, S f args h v h2 → S' f args h v h2) {t f args h K} (e : callK S T t f args h K) : callK S' T t f args h K := by
  unfold callK at e ⊢
  split at e <;> (obtain ⟨x, h1, a, b⟩ := e; exact ⟨x, h1, hS _ _ _ _ _ a, b⟩)
theorem opK_mono {S S' : SatT} (hS : ∀ f args h v h2, S f args h v h2 → S' f args h v h2) {o : Oper} {fr : Frame} {h : H} {K : AVal → H → Prop} (e : opK S T o fr h K) : opK S' T o fr h K := by
  unfold opK at e ⊢
  cases ho : o.op with
  | call c =>
    simp only [ho] at e ⊢
    split at e
    · exact callK_mono hS e
    · obtain ⟨f, cap, a, b⟩ := e; exact ⟨f, cap, a, callK_mono hS b⟩
    all_goals exact e
  | _ => simp only [ho] at e ⊢ <;> exact e
theorem opA_mono {S S' : SatT} (hS : ∀ f args h v h2, S f args h v h2 → S' f args h v h2) {o : Oper} {fr : Frame} {h : H} {p : Nat} {K : AVal → H → Prop} (e : opA S T o fr h p K) : opA S' T o fr h p K := opK_mono hS e
theorem OpOK.wit {s : Sem Next} {w : World} {R : Value → World → Prop} (e : OpOK P s w R) : ∃ x w', R x w' := by
  unfold OpOK at e
  split at e
  · exact ⟨_, _, e⟩
  · exact ⟨_, _, e⟩
  · obtain ⟨_, w', _, ⟨v, _, r⟩, _⟩ := e []
    exact ⟨v, w', r⟩
  · exact e.elim
/-- A world behind an operation. -/
theorem world_op {S : SatT} (hS : ∀ f args h v h2, S f args h v h2 → Sat P f args h v h2) (hT : TOK P T) {μ0 μ : Mu} {h0 h : H} {w0 w : World} {o : Oper} {fr : Frame} {ds : List Value} {v : AVal} {h' : H} (T0 : Tr μ0 h0 w0 μ h w) (hf : VRs μ h fr ds)
    (e : opK S T o fr h fun v2 h2 => v2 = v ∧ h2 = h') : (∃ μ' w' ds', Tr μ0 h0 w0 μ' h' w' ∧ VRs μ' h' (put fr o.dst v) ds') ∧ ∃ μ', Step μ h μ' h' := by
  obtain ⟨x, w', v', h'', μ', ⟨rfl, rfl⟩, t, vx⟩ := (op_sound hS hT T0.rel (a := ⟨ds.toArray, []⟩) (by simpa using hf) e).wit
  exact ⟨⟨μ', w', _, T0.trans t, put_VRs (a := ⟨ds.toArray, []⟩) (by simpa using hf.step t.step) vx⟩, μ', t.step⟩
theorem step_dead {μ μ' : Mu} {h h' : H} (s : Step μ h μ' h') {o : Nat} (e : h[o]? = some .dead) : h'[o]? = some .dead := by
  have hl := (List.getElem?_eq_some_iff.1 e).1
  refine dead_of (Nat.lt_of_lt_of_le hl s.len) ?_
  cases hq : inf h' o with
  | none => rfl
  | some tm =>
    obtain ⟨t, m⟩ := tm
    obtain ⟨_, n, e1, _⟩ := s.same o t m hl hq
    rw [inf_dead e] at e1
    cases e1
theorem dead_back {μ μ' : Mu} {h h' : H} (s : Step μ h μ' h') {o : Nat} (hl : o < h.length) (e : h'[o]? = some .dead) : h[o]? = some .dead := by
  refine dead_of hl ?_
  cases hq : inf h o with
  | none => rfl
  | some tm => exact absurd e (not_dead (s.alive o (by rw [hq]; rfl)))
theorem good_op {S : SatT} (hS : ∀ f args h v h2, S f args h v h2 → Sat P f args h v h2) (hT : TOK P T) {μ0 μ : Mu} {h0 h : H} {w0 w : World} {n k i : Nat} {o : Oper} {fr : Frame} {ds : List Value} {v : AVal} {h' : H} (T0 : Tr μ0 h0 w0 μ h w) (hf : VRs μ h fr ds)
    (hlen : n + k ≤ h.length) (ha : isAlloc o.op = false) (e : opK S T o fr h fun v2 h2 => v2 = v ∧ h2 = h') : Good (Sat P) T n k ⟨i, o, fr, true, v, h, h'⟩ := by
  obtain ⟨_, μ', st⟩ := world_op hS hT T0 hf e
  refine ⟨fun _ F hF => ?_, fun _ o h1 h2 h3 => dead_back st (by show o < h.length; omega) h3, fun _ h1 => by (have h1' : isAlloc o.op = true := h1); rw [ha] at h1'; cases h1'⟩
  have hF1 : Fits F h := fun o cs e => (hF o cs e).2.2.2
  have hF2 : Fits F h' := fun o cs e => step_dead st (hF1 o cs e)
  show opX (Sat P) T n i o fr (fill F h) _
  unfold opX
  rw [ha]
  exact opK_fill F ha (fun f args v hargs s => by
    obtain ⟨ds2, hd⟩ := hargs hf T0.rel
    exact s.fill hF1 hF2 T0.rel hd) (opK_mono hS e)
theorem chkPendE_spec {S : SatT} {b : List Nat} {k : Nat} {past : List (Nat × H)} {h' : H} : ∀ (pend : List (Nat × Oper × Frame × H)) (K : Prop), (∀ e ∈ pend, isMut e.2.1.op = false) → chkPendE T b k past h' pend K →
    K ∧ ∀ e ∈ pend, unord b e.1 k = true → (∃ z rest, past = z :: rest ∧ bef b z.1 e.1 = true) → ∀ v, Rr S T e.2.1 e.2.2.1 e.2.2.2 v → Rr S T e.2.1 e.2.2.1 h' v
  | [], K, _, hK => ⟨hK, fun e he => by simp at he⟩
  | (i, o, fr, h) :: l, K, hm, hK => by
    unfold chkPendE at hK
    cases hu : (unord b i k && lastDep b past i) with
    | false =>
      rw [hu] at hK
      obtain ⟨h1, h2⟩ := chkPendE_spec (S := S) l K (fun e he => hm e (by simp [he])) hK
      refine ⟨h1, fun e he hu' hz => ?_⟩
      rcases List.mem_cons.1 he with rfl | he
      · obtain ⟨z, rest, rfl, hz⟩ := hz
        have hu'' : unord b i k = true := hu'
        have hz' : bef b z.1 i = true := hz
        rw [hu'', Bool.true_and] at hu
        have hu3 : bef b z.1 i = false := hu
        rw [hz'] at hu3; cases hu3
      · exact h2 e he hu' hz
    | true =>
      rw [hu] at hK
      obtain ⟨h0, hK⟩ := chk_tells (S := S) (hm (i, o, fr, h) (by simp)) hK
      obtain ⟨h1, h2⟩ := chkPendE_spec (S := S) l K (fun e he => hm e (by simp [he])) hK
      refine ⟨h1, fun e he hu' hz => ?_⟩
      rcases List.mem_cons.1 he with rfl | he
      · exact h0
      · exact h2 e he hu' hz
/-- The changes so far, the last one first, each with the heap ahead of it and behind it. -/
def PCx : List (Nat × H × H) → H → Prop
  | [], _ => True
  | (k, h0, h1) :: rest, h => h1 = h ∧ PCx rest h0
theorem chkPastE_spec {S : SatT} {b : List Nat} {i : Nat} {o : Oper} {fr : Frame} {h : H} {v : AVal} (hm : isMut o.op = false) (hv : Rr S T o fr h v) : ∀ (past : List (Nat × H × H)) (g : H) (nx : Option H) (K : Prop), PCx past g → (nx = none → Rr S T o fr g v) → (∀ x, nx = some x → x = g) →
    chkPastE T b i o fr h nx (past.map fun e => (e.1, e.2.1)) K → K ∧ ∀ e ∈ past, unord b i e.1 = true → Rr S T o fr e.2.1 v ∧ Rr S T o fr e.2.2 v
  | [], g, nx, K, _, _, _, hK => ⟨by cases nx <;> exact hK, fun e he => by simp at he⟩
  | (k, h0, h1) :: l, g, nx, K, hp, hn, hs, hK => by
    obtain ⟨rfl, hp⟩ := hp
    simp only [List.map_cons] at hK
    unfold chkPastE at hK
    cases hu : unord b i k with
    | false =>
      rw [hu] at hK
      obtain ⟨q1, q2⟩ := chkPastE_spec hm hv l h0 (some h0) K hp (fun e => by cases e) (fun x e => by cases e; rfl) hK
      refine ⟨q1, fun e he hu' => ?_⟩
      rcases List.mem_cons.1 he with rfl | he
      · rw [hu] at hu'; cases hu'
      · exact q2 e he hu'
    | true =>
      rw [hu] at hK
      simp only [cond_true] at hK
      have fin : Rr S T o fr h1 v → chkK T o fr h h0 (chkPastE T b i o fr h none (l.map fun e => (e.1, e.2.1)) K) → K ∧ ∀ e ∈ (k, h0, h1) :: l, unord b i e.1 = true → Rr S T o fr e.2.1 v ∧ Rr S T o fr e.2.2 v := by
        intro r1 hK
        obtain ⟨c0, hK⟩ := chk_tells (S := S) hm hK
        obtain ⟨q1, q2⟩ := chkPastE_spec hm hv l h0 none K hp (fun _ => c0 v hv) (fun x e => by cases e) hK
        refine ⟨q1, fun e he hu' => ?_⟩
        rcases List.mem_cons.1 he with rfl | he
        · exact ⟨c0 v hv, r1⟩
        · exact q2 e he hu'
      cases nx with
      | none => exact fin (hn rfl) hK
      | some x =>
        obtain rfl := hs x rfl
        obtain ⟨c1, hK⟩ := chk_tells (S := S) hm hK
        exact fin (c1 v hv) hK
theorem slot_trace {S : SatT} (hS : ∀ f args h v h2, S f args h v h2 → Sat P f args h v h2) (hT : TOK P T) {ops : List Oper} {b : List Nat} {k : Frame → H → Prop} {μ0 : Mu} {h0 : H} {w0 : World} :
    ∀ (l : List (Oper × Nat)) (past : List (Nat × H × H)) (pend : List (Nat × Oper × Frame × H)) (fr : Frame) (h : H),
      (∀ p ∈ l, p.2 < ops.length) → (l.Pairwise fun p q => pairE ops b p q = true) → (∀ e ∈ pend, isMut e.2.1.op = false ∧ (∀ p ∈ l, bef b e.1 p.2 = false) ∧ ((∀ v, Rr (Sat P) T e.2.1 e.2.2.1 e.2.2.2 v → Rr (Sat P) T e.2.1 e.2.2.1 h v) ∨ ∃ z rest, past = z :: rest ∧ bef b z.1 e.1 = true)) → PCx past h →
      h0.length + ops.length ≤ h.length → (∀ p ∈ l, isAlloc p.1.op = true → h[h0.length + p.2]? = some .dead) → (∃ μ w ds, Tr μ0 h0 w0 μ h w ∧ VRs μ h fr ds) →
      runSlot S T ops b h0.length l (past.map fun e => (e.1, e.2.1)) pend k fr h →
      ∃ L fr2 h2, ValX (Sat P) T ops h0.length fr h L fr2 h2 ∧ k fr2 h2 ∧ L.map (fun s => (s.o, s.i)) = l ∧ (∀ x ∈ L, Good (Sat P) T h0.length ops.length x) ∧ (∀ x ∈ L, ∀ y ∈ L, Both (Sat P) T b x y) ∧
        (∀ e ∈ pend, ∀ y ∈ L, y.chg → unord b e.1 y.i = true → ∀ v, Rr (Sat P) T e.2.1 e.2.2.1 e.2.2.2 v → Rr (Sat P) T e.2.1 e.2.2.1 y.h v ∧ Rr (Sat P) T e.2.1 e.2.2.1 y.h' v) ∧
        (∀ e ∈ past, ∀ x ∈ L, x.ex = true → isMut x.o.op = false → unord b x.i e.1 = true → Tells (Sat P) T x e.2.1 ∧ Tells (Sat P) T x e.2.2) := by
  intro l
  induction l with
  | nil =>
    intro past pend fr h _ _ _ _ _ _ _ hR
    exact ⟨[], fr, h, .nil, hR, rfl, fun x hx => by simp at hx, fun x hx => by simp at hx, fun e _ y hy => by simp at hy, fun e _ x hx => by simp at hx⟩
  | cons p l ih =>
    obtain ⟨o, i⟩ := p
    intro past pend fr h hlt hpw hpend hPC hlen hdead hworld hR
    have hpw' := List.pairwise_cons.1 hpw
    have hine : ∀ p ∈ l, i ≠ p.2 := fun p hp e => by
      have := hpw'.1 p hp
      unfold pairE at this
      simp [e] at this
    have skipOK : gNo ops fr o → runSlot S T ops b h0.length l (past.map fun e => (e.1, e.2.1)) pend k (put fr o.dst .gone) h →
      ∃ L fr2 h2, ValX (Sat P) T ops h0.length fr h L fr2 h2 ∧ k fr2 h2 ∧ L.map (fun s => (s.o, s.i)) = (o, i) :: l ∧ (∀ x ∈ L, Good (Sat P) T h0.length ops.length x) ∧ (∀ x ∈ L, ∀ y ∈ L, Both (Sat P) T b x y) ∧
        (∀ e ∈ pend, ∀ y ∈ L, y.chg → unord b e.1 y.i = true → ∀ v, Rr (Sat P) T e.2.1 e.2.2.1 e.2.2.2 v → Rr (Sat P) T e.2.1 e.2.2.1 y.h v ∧ Rr (Sat P) T e.2.1 e.2.2.1 y.h' v) ∧
        (∀ e ∈ past, ∀ x ∈ L, x.ex = true → isMut x.o.op = false → unord b x.i e.1 = true → Tells (Sat P) T x e.2.1 ∧ Tells (Sat P) T x e.2.2) := by
      intro hg hR
      obtain ⟨μ, w, ds, t0, hf⟩ := hworld
      obtain ⟨L, fr2, h2, q1, q2, q3, q4, q5, q6, q7⟩ := ih past pend (put fr o.dst .gone) h (fun p hp => hlt p (by simp [hp])) hpw'.2 (fun e he => ⟨(hpend e he).1, fun p hp => (hpend e he).2.1 p (by simp [hp]), (hpend e he).2.2⟩) hPC hlen (fun p hp => hdead p (by simp [hp]))
        ⟨μ, w, _, t0, put_VRs (a := ⟨ds.toArray, []⟩) (v := .gone) (x := undef) (by simpa using hf) (by simp only [VR]; rfl)⟩ hR
      refine ⟨⟨i, o, fr, false, .gone, h, h⟩ :: L, fr2, h2, .cons rfl (fun _ _ => rfl) (fun e => by cases e) (fun _ => ⟨hg, rfl, rfl⟩) q1, q2, by simp [q3], ?_, ?_, ?_, ?_⟩
      · intro x hx
        rcases List.mem_cons.1 hx with rfl | hx
        · exact ⟨(fun c => by cases c.1), (fun c => by cases c.1), (fun e => by cases e)⟩
        · exact q4 x hx
      · intro x hx y hy
        rcases List.mem_cons.1 hx with rfl | hx
        · intro e; cases e
        · rcases List.mem_cons.1 hy with rfl | hy
          · intro _ _ m; cases m.1
          · exact q5 x hx y hy
      · intro e he y hy
        rcases List.mem_cons.1 hy with rfl | hy
        · intro m; cases m.1
        · exact q6 e he y hy
      · intro e he x hx
        rcases List.mem_cons.1 hx with rfl | hx
        · intro e; cases e
        · exact q7 e he x hx
    -- a change
    have chgOK : ∀ (v : AVal) (h' : H), gOK ops fr o → isMut o.op = true → (opX (Sat P) T h0.length i o fr h fun v2 h2 => v2 = v ∧ h2 = h') → Good (Sat P) T h0.length ops.length ⟨i, o, fr, true, v, h, h'⟩ →
      h.length ≤ h'.length → (∀ p ∈ l, isAlloc p.1.op = true → h'[h0.length + p.2]? = some .dead) → (∃ μ w ds, Tr μ0 h0 w0 μ h' w ∧ VRs μ h' (put fr o.dst v) ds) →
      chkPendE T b i (past.map fun e => (e.1, e.2.1)) h pend (chkPend T b i h' pend (runSlot S T ops b h0.length l ((i, h) :: (past.map fun e => (e.1, e.2.1))) pend k (put fr o.dst v) h')) →
      ∃ L fr2 h2, ValX (Sat P) T ops h0.length fr h L fr2 h2 ∧ k fr2 h2 ∧ L.map (fun s => (s.o, s.i)) = (o, i) :: l ∧ (∀ x ∈ L, Good (Sat P) T h0.length ops.length x) ∧ (∀ x ∈ L, ∀ y ∈ L, Both (Sat P) T b x y) ∧
        (∀ e ∈ pend, ∀ y ∈ L, y.chg → unord b e.1 y.i = true → ∀ v, Rr (Sat P) T e.2.1 e.2.2.1 e.2.2.2 v → Rr (Sat P) T e.2.1 e.2.2.1 y.h v ∧ Rr (Sat P) T e.2.1 e.2.2.1 y.h' v) ∧
        (∀ e ∈ past, ∀ x ∈ L, x.ex = true → isMut x.o.op = false → unord b x.i e.1 = true → Tells (Sat P) T x e.2.1 ∧ Tells (Sat P) T x e.2.2) := by
      intro v h' hg hm hv hgood hle hdead' hworld' hK
      obtain ⟨hK, hc0⟩ := chkPendE_spec (S := Sat P) pend _ (fun e he => (hpend e he).1) hK
      obtain ⟨hK, hc2⟩ := chkPend_spec (S := Sat P) pend _ (fun e he => (hpend e he).1) hK
      have hc1 : ∀ e ∈ pend, unord b e.1 i = true → ∀ v, Rr (Sat P) T e.2.1 e.2.2.1 e.2.2.2 v → Rr (Sat P) T e.2.1 e.2.2.1 h v := fun e he hu => by
        rcases (hpend e he).2.2 with hl | ⟨z, rest, rfl, hz⟩
        · exact hl
        · exact hc0 e he hu ⟨_, _, rfl, hz⟩
      obtain ⟨L, fr2, h2, q1, q2, q3, q4, q5, q6, q7⟩ := ih ((i, h, h') :: past) pend (put fr o.dst v) h' (fun p hp => hlt p (by simp [hp])) hpw'.2
        (fun e he => ⟨(hpend e he).1, fun p hp => (hpend e he).2.1 p (by simp [hp]), by
          cases hu : unord b e.1 i with
          | true => exact .inl (hc2 e he hu)
          | false =>
            refine .inr ⟨_, _, rfl, ?_⟩
            have := (hpend e he).2.1 (o, i) (by simp)
            unfold unord at hu
            simp only at this
            rw [this] at hu
            simpa using hu⟩) ⟨rfl, hPC⟩ (by omega) hdead' hworld' hK
      refine ⟨⟨i, o, fr, true, v, h, h'⟩ :: L, fr2, h2, .cons rfl (fun _ _ => rfl) (fun _ => ⟨hg, hv⟩) (fun e => by cases e) q1, q2, by simp [q3], ?_, ?_, ?_, ?_⟩
      · intro x hx
        rcases List.mem_cons.1 hx with rfl | hx
        · exact hgood
        · exact q4 x hx
      · intro x hx y hy
        rcases List.mem_cons.1 hx with rfl | hx
        · intro _ e; simp only at e; rw [hm] at e; cases e
        · rcases List.mem_cons.1 hy with rfl | hy
          · intro e1 e2 _ e4
            exact q7 (i, h, h') (by simp) x hx e1 e2 e4
          · exact q5 x hx y hy
      · intro e he y hy
        rcases List.mem_cons.1 hy with rfl | hy
        · intro _ hu v hv
          exact ⟨hc1 e he hu v hv, hc2 e he hu v hv⟩
        · exact q6 e he y hy
      · intro e he x hx
        rcases List.mem_cons.1 hx with rfl | hx
        · intro _ e; simp only at e; rw [hm] at e; cases e
        · exact q7 e (by simp [he]) x hx
    have stepOK : gOK ops fr o → (stepSlot S T b h0.length i o (past.map fun e => (e.1, e.2.1)) pend fr h fun past pend v h => runSlot S T ops b h0.length l past pend k (put fr o.dst v) h) →
      ∃ L fr2 h2, ValX (Sat P) T ops h0.length fr h L fr2 h2 ∧ k fr2 h2 ∧ L.map (fun s => (s.o, s.i)) = (o, i) :: l ∧ (∀ x ∈ L, Good (Sat P) T h0.length ops.length x) ∧ (∀ x ∈ L, ∀ y ∈ L, Both (Sat P) T b x y) ∧
        (∀ e ∈ pend, ∀ y ∈ L, y.chg → unord b e.1 y.i = true → ∀ v, Rr (Sat P) T e.2.1 e.2.2.1 e.2.2.2 v → Rr (Sat P) T e.2.1 e.2.2.1 y.h v ∧ Rr (Sat P) T e.2.1 e.2.2.1 y.h' v) ∧
        (∀ e ∈ past, ∀ x ∈ L, x.ex = true → isMut x.o.op = false → unord b x.i e.1 = true → Tells (Sat P) T x e.2.1 ∧ Tells (Sat P) T x e.2.2) := by
      intro hg hR
      unfold stepSlot at hR
      obtain ⟨μ, w, ds, t0, hf⟩ := hworld
      cases ha : isAlloc o.op with
      | true =>
        rw [ha] at hR
        simp only [cond_true] at hR
        have hd := hdead (o, i) (by simp) ha
        obtain ⟨v1, cs, hK, hform, hg2, hA⟩ := opA_inv ha hR
        have hA' : opA S T o fr h (h0.length + i) fun v2 h2 => v2 = v1.at_ (h0.length + i) ∧ h2 = h.set (h0.length + i) (.own cs) := hA h _ (fun v2 h2 => v2 = v1.at_ (h0.length + i) ∧ h2 = h.set (h0.length + i) (.own cs)) ⟨rfl, rfl⟩
        refine chgOK _ _ hg (alloc_mut ha) ?_ ?_ (by simp) (fun p hp hpa => ?_) ?_ hK
        · unfold opX; rw [ha]; exact opA_mono hS hA'
        · refine ⟨fun _ F hF => ?_, fun _ o' h1 h2 h3 => ?_, fun _ _ => ⟨hlt (o, i) (by simp), hd⟩⟩
          · show opX (Sat P) T h0.length i o fr (fill F h) _
            unfold opX
            rw [ha]
            exact opA_mono hS (hA (fill F h) _ (fun v2 h2 => v2 = v1.at_ (h0.length + i) ∧ h2 = fill F (h.set (h0.length + i) (.own cs))) ⟨rfl, (fill_set F h _ (by simp)).symm⟩)
          · have h3' : (h.set (h0.length + i) (AObj.own cs))[o']? = some .dead := h3
            rw [List.getElem?_set] at h3'
            split at h3'
            · split at h3' <;> cases h3'
            · exact h3'
        · rw [List.getElem?_set, if_neg (fun e => hine p hp (by omega))]
          exact hdead p (by simp [hp]) hpa
        · obtain ⟨x, w', v', h', μ', ⟨rfl, rfl⟩, t, vx, hf'⟩ := (opA_sound hS hT (a := ⟨ds.toArray, []⟩) t0 (by omega) hd (by simpa using hf) ha hA').wit
          exact ⟨μ', w', _, t, put_VRs (a := ⟨ds.toArray, []⟩) hf' vx⟩
      | false =>
        rw [ha] at hR
        simp only [cond_false] at hR
        have hX : ∀ (v : AVal) (h' : H), (opK S T o fr h fun v2 h2 => v2 = v ∧ h2 = h') → opX (Sat P) T h0.length i o fr h fun v2 h2 => v2 = v ∧ h2 = h' := fun v h' e => by
          unfold opX; rw [ha]; exact opK_mono hS e
        cases hm : isMut o.op with
        | true =>
          rw [hm] at hR
          simp only [cond_true] at hR
          obtain ⟨v, h', hv, hK⟩ := op_one hR
          obtain ⟨hw, μ', st⟩ := world_op hS hT t0 hf hv
          exact chgOK v h' hg hm (hX v h' hv) (good_op hS hT t0 hf hlen ha hv) st.len (fun p hp hpa => step_dead st (hdead p (by simp [hp]) hpa)) hw hK
        | false =>
          rw [hm] at hR
          simp only [cond_false] at hR
          have main : ∀ (v : AVal) (pend' : List (Nat × Oper × Frame × H)), (opK S T o fr h fun v2 h2 => v2 = v ∧ h2 = h) → (∀ e ∈ past, unord b i e.1 = true → Rr (Sat P) T o fr e.2.1 v ∧ Rr (Sat P) T o fr e.2.2 v) →
              (∀ e ∈ pend', e ∈ pend ∨ (e = (i, o, fr, h))) → (∀ e ∈ pend, e ∈ pend') → ((i, o, fr, h) ∈ pend' ∨ isRead o.op = false) →
              runSlot S T ops b h0.length l (past.map fun e => (e.1, e.2.1)) pend' k (put fr o.dst v) h →
              ∃ L fr2 h2, ValX (Sat P) T ops h0.length fr h L fr2 h2 ∧ k fr2 h2 ∧ L.map (fun s => (s.o, s.i)) = (o, i) :: l ∧ (∀ x ∈ L, Good (Sat P) T h0.length ops.length x) ∧ (∀ x ∈ L, ∀ y ∈ L, Both (Sat P) T b x y) ∧
                (∀ e ∈ pend, ∀ y ∈ L, y.chg → unord b e.1 y.i = true → ∀ v, Rr (Sat P) T e.2.1 e.2.2.1 e.2.2.2 v → Rr (Sat P) T e.2.1 e.2.2.1 y.h v ∧ Rr (Sat P) T e.2.1 e.2.2.1 y.h' v) ∧
                (∀ e ∈ past, ∀ x ∈ L, x.ex = true → isMut x.o.op = false → unord b x.i e.1 = true → Tells (Sat P) T x e.2.1 ∧ Tells (Sat P) T x e.2.2) := by
            intro v pend' hv hpst hsub hsup hnew hR
            have hv' : Rr (Sat P) T o fr h v := opK_mono hS hv
            obtain ⟨hw, _⟩ := world_op hS hT t0 hf hv
            obtain ⟨L, fr2, h2, q1, q2, q3, q4, q5, q6, q7⟩ := ih past pend' (put fr o.dst v) h (fun p hp => hlt p (by simp [hp])) hpw'.2
              (fun e he => by
                rcases hsub e he with he | rfl
                · exact ⟨(hpend e he).1, fun p hp => (hpend e he).2.1 p (by simp [hp]), (hpend e he).2.2⟩
                · exact ⟨hm, fun p hp => pairE_bef (hpw'.1 p hp), .inl fun _ h => h⟩) hPC hlen (fun p hp => hdead p (by simp [hp])) hw hR
            refine ⟨⟨i, o, fr, true, v, h, h⟩ :: L, fr2, h2, .cons rfl (fun _ _ => rfl) (fun _ => ⟨hg, hX v h hv⟩) (fun e => by cases e) q1, q2, by simp [q3], ?_, ?_, ?_, ?_⟩
            · intro x hx
              rcases List.mem_cons.1 hx with rfl | hx
              · exact good_op hS hT t0 hf hlen ha hv
              · exact q4 x hx
            · intro x hx y hy
              rcases List.mem_cons.1 hx with rfl | hx
              · rcases List.mem_cons.1 hy with rfl | hy
                · intro _ _ m; have := m.2; simp only at this; rw [hm] at this; cases this
                · intro _ _ m hu
                  rcases hnew with hnew | hnew
                  · exact q6 (i, o, fr, h) hnew y hy m hu v hv'
                  · exact ⟨pure_tells hm hnew h _ v hv', pure_tells hm hnew h _ v hv'⟩
              · rcases List.mem_cons.1 hy with rfl | hy
                · intro _ _ m; have := m.2; simp only at this; rw [hm] at this; cases this
                · exact q5 x hx y hy
            · intro e he y hy
              rcases List.mem_cons.1 hy with rfl | hy
              · intro m; have := m.2; simp only at this; rw [hm] at this; cases this
              · exact q6 e (hsup e he) y hy
            · intro e he x hx
              rcases List.mem_cons.1 hx with rfl | hx
              · intro _ _ hu
                exact hpst e he hu
              · exact q7 e he x hx
          cases hr : isRead o.op with
          | true =>
            rw [hr] at hR
            simp only [cond_true] at hR
            obtain ⟨v, h', hv, hK⟩ := op_one hR
            have e := op_same hm hv
            subst e
            obtain ⟨hK, hc⟩ := chkPastE_spec (S := Sat P) hm (opK_mono hS hv) past h' none _ hPC (fun _ => opK_mono hS hv) (fun x e => by cases e) hK
            exact main v ((i, o, fr, h') :: pend) hv hc (fun e he => (List.mem_cons.1 he).symm) (fun e he => by simp [he]) (.inl (by simp)) hK
          | false =>
            rw [hr] at hR
            simp only [cond_false] at hR
            obtain ⟨v, h', hv, hK⟩ := op_one hR
            have e := op_same hm hv
            subst e
            exact main v pend hv (fun e he hu => ⟨pure_tells hm hr h' _ v (opK_mono hS hv), pure_tells hm hr h' _ v (opK_mono hS hv)⟩) (fun e he => .inl he) (fun e he => he) (.inr hr) hK
    unfold runSlot at hR
    cases hg : o.guard with
    | none =>
      rw [hg] at hR
      exact stepOK (by unfold gOK; rw [hg]; trivial) hR
    | some g =>
      obtain ⟨j, want⟩ := g
      rw [hg] at hR
      simp only at hR
      cases hd : dstOf ops j with
      | none => rw [hd] at hR; exact hR.elim
      | some d =>
        rw [hd] at hR
        simp only at hR
        split at hR
        · next c e =>
          have es := set_same e (by simp)
          cases c <;> cases want <;> simp only [cond_true, cond_false, es] at hR <;> first
            | exact stepOK (by unfold gOK; rw [hg]; exact ⟨d, hd, e⟩) hR
            | exact skipOK (by unfold gNo; rw [hg]; exact ⟨d, hd, .inl e⟩) hR
        · next e => exact skipOK (by unfold gNo; rw [hg]; exact ⟨d, hd, .inr e⟩) hR
        · exact hR.elim
end
end Go.Proofs.Ytgeakkmpohjohaa.Cl

/- The clean machine: every order of a region with allocations in any order. No claim is stated here. -/
set_option linter.unusedVariables false
set_option linter.unusedSimpArgs false
namespace Go.Proofs.Ytgeakkmpohjohaa.Cl
open Go
section
variable {P : Program} {T : Tab} {S : SatT}
/-! ### every order of a drawn region -/
theorem go_acc (m : Region.Mode) (ops : Array Oper) : ∀ (fuel t : Nat) (listed : Array Bool) (acc : List Nat), Region.linearise.go m ops fuel t listed acc = acc.reverse ++ Region.linearise.go m ops fuel t listed []
  | 0, t, listed, acc => by simp [Region.linearise.go]
  | fuel + 1, t, listed, acc => by
    unfold Region.linearise.go
    simp only
    split
    · next i _ =>
      rw [go_acc m ops fuel _ _ (i :: acc), go_acc m ops fuel _ _ [i]]
      simp
    · simp
theorem agree_ev {ops : List Oper} {o : Oper} {fr fr' : Frame} (h : agree ops o fr fr') : ∀ x ∈ o.op.operands.toList, ev fr x = ev fr' x := by
  intro x hx
  cases x with
  | tmp t =>
    refine h t ?_
    unfold readsOf tmpsOf
    rw [List.mem_append]
    exact .inl (List.mem_filterMap.2 ⟨.tmp t, hx, rfl⟩)
  | const v => rfl
  | global g => rfl
  | func f => rfl
theorem agree_guard {ops : List Oper} {o : Oper} {fr fr' : Frame} (h : agree ops o fr fr') {j : Nat} {want : Bool} {d : Nat} (hg : o.guard = some (j, want)) (hd : dstOf ops j = some d) : fr.getD d .undef = fr'.getD d .undef := by
  refine h d ?_
  unfold readsOf
  rw [hg, List.mem_append]
  refine .inr ?_
  show d ∈ (dstOf ops j).toList
  rw [hd]
  simp
theorem simsX_mem {n k : Nat} : ∀ {l m : List Stp}, SimsX n k l m → ∀ b ∈ m, ∃ a ∈ l, SimX n k a b
  | [], [], _, b, hb => by simp at hb
  | a :: l, b' :: m, h, b, hb => by
    rcases List.mem_cons.1 hb with rfl | hb
    · exact ⟨a, by simp, h.1⟩
    · obtain ⟨a', h1, h2⟩ := simsX_mem h.2 b hb
      exact ⟨a', by simp [h1], h2⟩
  | [], _ :: _, h, _, _ => h.elim
  | _ :: _, [], h, _, _ => h.elim
theorem simsX_map {n k : Nat} {β : Type} (f : Oper → Nat → β) : ∀ {l m : List Stp}, SimsX n k l m → l.map (fun s => f s.o s.i) = m.map (fun s => f s.o s.i)
  | [], [], _ => rfl
  | a :: l, b :: m, h => by simp [h.1.i, h.1.o, simsX_map f h.2]
  | [], _ :: _, h => h.elim
  | _ :: _, [], h => h.elim
theorem exec_slot (hT : TOK P T) {ops : Array Oper} (hdeps : ∀ (p : Nat) o, ops.toList[p]? = some o → ∀ d ∈ deps o, d < p) {μ0 : Mu} {h0 : H} {w0 : World} {Q : Exit → Act → World → Prop} {fr2 : Frame} {h2 : H} :
    ∀ (fuel t : Nat) (listed : Array Bool) (L : List Stp) {fr : Frame} {h : H} {μ : Mu} {w : World} {a : Act}, L.length ≤ fuel → ValX (Sat P) T ops.toList h0.length fr h L fr2 h2 → (∀ s ∈ L, ops[s.i]? = some s.o) →
      (L.map fun s => (s.o, s.i)).Pairwise (fun p q => pairE ops.toList (befs ops.toList []) p q = true) → (∀ x ∈ L, ∀ y ∈ L, Both (Sat P) T (befs ops.toList []) x y) → (∀ x ∈ L, Good (Sat P) T h0.length ops.size x) → listed.size = ops.size →
      (∀ i, i < ops.size → (listed[i]? = some false ↔ ∃ s ∈ L, s.i = i)) → (∀ j x, listed[j]? = some true → bef (befs ops.toList []) j x = true → listed[x]? = some true) →
      Tr μ0 h0 w0 μ h w → VRs μ h fr a.tmps.toList → (∀ μ' w' a', Tr μ0 h0 w0 μ' h2 w' → VRs μ' h2 fr2 a'.tmps.toList → a'.defers = a.defers → Q .normal a' w') →
      wpOps P ops Q (Region.linearise.go .any ops fuel t listed []) a w := by
  intro fuel
  induction fuel with
  | zero =>
    intro t listed L fr h μ w a hlen hV _ _ _ _ _ _ _ t0 hf hQ
    have : L = [] := List.length_eq_zero_iff.1 (by omega)
    subst this
    cases hV
    exact hQ μ w a t0 hf rfl
  | succ fuel ih =>
    intro t listed L fr h μ w a hlen hV hops hpw hboth hgood hsz hlist hdown t0 hf hQ
    unfold Region.linearise.go
    simp only
    generalize hrs : ((List.range ops.size).filter fun i => !listed.getD i true && ((ops[i]?).map (·.after.all fun e => !Region.binds .any e || listed.getD e.on false)).getD false) = rs
    have hmem : ∀ i, i ∈ rs ↔ i < ops.size ∧ listed[i]? = some false ∧ ∃ o, ops[i]? = some o ∧ ∀ d ∈ deps o, listed[d]? = some true := by
      intro i
      rw [← hrs, List.mem_filter, List.mem_range, Bool.and_eq_true]
      constructor
      · rintro ⟨h1, h2, h3⟩
        refine ⟨h1, ?_, ?_⟩
        · rw [Array.getD_eq_getD_getElem?, Array.getElem?_eq_getElem (by omega)] at h2
          rw [Array.getElem?_eq_getElem (by omega)]
          simpa using h2
        · cases ho : ops[i]? with
          | none => rw [ho] at h3; simp at h3
          | some o =>
            rw [ho] at h3
            simp only [Option.map_some, Option.getD_some, Array.all_eq_true'] at h3
            refine ⟨o, rfl, fun d hd => ?_⟩
            unfold deps at hd
            rw [List.mem_map] at hd
            obtain ⟨e, he, rfl⟩ := hd
            rw [List.mem_filter] at he
            have := h3 e (by simpa using he.1)
            rw [he.2] at this
            simp only [Bool.not_true, Bool.false_or] at this
            rw [Array.getD_eq_getD_getElem?] at this
            cases hq : listed[e.on]? with
            | none => rw [hq] at this; simp at this
            | some b => rw [hq] at this; simp at this; rw [this]
      · rintro ⟨h1, h2, o, ho, h3⟩
        refine ⟨h1, ?_, ?_⟩
        · rw [Array.getD_eq_getD_getElem?, h2]; rfl
        · rw [ho]
          simp only [Option.map_some, Option.getD_some, Array.all_eq_true']
          intro e he
          cases hb : Region.binds .any e with
          | false => rfl
          | true =>
            have := h3 e.on (by unfold deps; exact List.mem_map_of_mem (List.mem_filter.2 ⟨by simpa using he, hb⟩))
            rw [Array.getD_eq_getD_getElem?, this]
            rfl
    split
    · next i hi =>
      rw [go_acc]
      simp only [List.reverse_cons, List.reverse_nil, List.nil_append, List.cons_append]
      obtain ⟨hi1, hi2, o, ho, hi3⟩ := (hmem i).1 (List.mem_of_getElem? hi)
      obtain ⟨s, hs, hsi⟩ := (hlist i hi1).1 hi2
      obtain ⟨pre, post, rfl⟩ := List.append_of_mem hs
      have hso : s.o = o := by
        have := hops s hs
        rw [hsi, ho] at this
        cases this
        rfl
      rw [List.map_append, List.map_cons, List.pairwise_append] at hpw
      obtain ⟨hp1, hp2, hp3⟩ := hpw
      have hap : ∀ x ∈ pre, ApartX ops.toList (befs ops.toList []) x s ∧ Both (Sat P) T (befs ops.toList []) x s ∧ Both (Sat P) T (befs ops.toList []) s x ∧ Good (Sat P) T h0.length ops.size x := by
        intro x hx
        have hxl : x ∈ pre ++ s :: post := by simp [hx]
        have hpe := hp3 (x.o, x.i) (List.mem_map.2 ⟨x, hx, rfl⟩) (s.o, s.i) (by simp)
        have hxo := hops x hxl
        have hxlt : x.i < ops.size := (Array.getElem?_eq_some_iff.1 hxo).1
        have hxun := (hlist x.i hxlt).2 ⟨x, hxl, rfl⟩
        have hb2 : bef (befs ops.toList []) s.i x.i = false := by
          cases hb : bef (befs ops.toList []) s.i x.i with
          | false => rfl
          | true =>
            rw [hsi] at hb
            obtain ⟨d, hd, h1⟩ := (bef_iff hdeps (by rw [Array.getElem?_toList]; exact ho) x.i).1 hb
            have hl := hi3 d hd
            rcases h1 with rfl | h1
            · rw [hl] at hxun; cases hxun
            · have := hdown d x.i hl h1
              rw [this] at hxun; cases hxun
        unfold pairE at hpe
        simp only [hb2, Bool.false_or, Bool.and_eq_true] at hpe
        obtain ⟨⟨⟨e1, e2⟩, e3⟩, ⟨e4, e5⟩, e6⟩ := hpe
        have hun : unord (befs ops.toList []) x.i s.i = true := by unfold unord; rw [hb2, e2]; rfl
        refine ⟨⟨by simpa using e1, hun, fun hx1 hs1 => ?_, fun d hd => ?_, fun d hd => ?_, fun d e hd he => ?_⟩, hboth x hxl s hs, hboth s hs x hxl, hgood x hxl⟩
        · rw [hx1, hs1] at e4; simpa using e4
        · rw [hd] at e5; simpa using e5
        · rw [hd] at e6; simpa using e6
        · unfold dstApart at e3; rw [hd, he] at e3; simpa using e3
      obtain ⟨pre', s', q1, ⟨qi, qo, qe, qd⟩, q3⟩ := frontX pre hV (hgood s hs) hap
      have hso' : s'.o = o := by rw [qo, hso]
      have hlen' : pre'.length = pre.length := by have := congrArg List.length (simsX_map (fun _ i => i) q1); simpa using this.symm
      -- the rest
      have hrest : ∀ {fr' : Frame} {h' : H} {μ' : Mu} {w' : World} {a' : Act}, ValX (Sat P) T ops.toList h0.length fr' h' (pre' ++ post) fr2 h2 → Tr μ0 h0 w0 μ' h' w' → VRs μ' h' fr' a'.tmps.toList → a'.defers = a.defers →
          wpOps P ops Q (Region.linearise.go .any ops fuel (t / rs.length) (listed.setIfInBounds i true) []) a' w' := by
        intro fr' h' μ' w' a' hV' ht hf' hd'
        have hmemL : ∀ y ∈ pre' ++ post, ∃ x ∈ pre ++ s :: post, SimX h0.length ops.size x y ∧ x.i ≠ i := by
          intro y hy
          rcases List.mem_append.1 hy with hy | hy
          · obtain ⟨x, hx, hxy⟩ := simsX_mem q1 y hy
            exact ⟨x, by simp [hx], hxy, by rw [← hsi]; exact pairE_ne (hp3 (x.o, x.i) (List.mem_map.2 ⟨x, hx, rfl⟩) (s.o, s.i) (by simp))⟩
          · exact ⟨y, by simp [hy], SimX.refl y, by rw [← hsi]; exact Ne.symm (pairE_ne ((List.pairwise_cons.1 hp2).1 (y.o, y.i) (List.mem_map.2 ⟨y, hy, rfl⟩)))⟩
        refine ih (t / rs.length) (listed.setIfInBounds i true) (pre' ++ post) (by simp at hlen ⊢; omega) hV' ?_ ?_ ?_ ?_ (by simpa using hsz) ?_ ?_ ht hf' fun μ2 w2 a2 t2 f2 d2 => hQ μ2 w2 a2 t2 f2 (d2.trans hd')
        · intro y hy
          obtain ⟨x, hx, hxy, _⟩ := hmemL y hy
          have := hops x hx
          rw [hxy.i, hxy.o] at this
          exact this
        · rw [List.map_append, ← simsX_map (fun o i => (o, i)) q1, List.pairwise_append]
          exact ⟨hp1, (List.pairwise_cons.1 hp2).2, fun x hx y hy => hp3 x hx y (List.mem_cons_of_mem _ hy)⟩
        · intro x hx y hy
          obtain ⟨x', hx', sx, _⟩ := hmemL x hx
          obtain ⟨y', hy', sy, _⟩ := hmemL y hy
          exact (hboth x' hx' y' hy').simX sx sy
        · intro x hx
          obtain ⟨x', hx', sx, _⟩ := hmemL x hx
          exact (hgood x' hx').sim sx
        · intro k hk
          rw [Array.getElem?_setIfInBounds]
          by_cases hki : i = k
          · subst hki
            rw [if_pos rfl, if_pos (by omega)]
            constructor
            · intro e; cases e
            · rintro ⟨y, hy, rfl⟩
              obtain ⟨x, _, sx, hxi⟩ := hmemL y hy
              exact absurd sx.i hxi
          · rw [if_neg hki, hlist k hk]
            constructor
            · rintro ⟨x, hx, rfl⟩
              rcases List.mem_append.1 hx with hx | hx
              · have : x.i ∈ pre'.map (fun s => s.i) := by rw [← simsX_map (fun _ i => i) q1]; exact List.mem_map.2 ⟨x, hx, rfl⟩
                obtain ⟨y, hy, hyx⟩ := List.mem_map.1 this
                exact ⟨y, by simp [hy], hyx⟩
              · rcases List.mem_cons.1 hx with rfl | hx
                · exact absurd hsi.symm hki
                · exact ⟨x, by simp [hx], rfl⟩
            · rintro ⟨y, hy, rfl⟩
              obtain ⟨x, hx, sx, _⟩ := hmemL y hy
              exact ⟨x, hx, sx.i⟩
        · intro j x hj hjx
          rw [Array.getElem?_setIfInBounds] at hj ⊢
          by_cases hix : i = x
          · subst hix; rw [if_pos rfl, if_pos (by omega)]
          · rw [if_neg hix]
            by_cases hij : i = j
            · subst hij
              obtain ⟨d, hd, h1⟩ := (bef_iff hdeps (by rw [Array.getElem?_toList]; exact ho) x).1 hjx
              have hl := hi3 d hd
              rcases h1 with rfl | h1
              · exact hl
              · exact hdown d x hl h1
            · rw [if_neg hij] at hj
              exact hdown j x hj hjx
      simp only [wpOps, ho]
      cases q3 with
      | cons k1 k2 k3 k4 k5 =>
        rw [hso'] at k2 k3 k4 k5
        cases hex : s'.ex with
        | true =>
          obtain ⟨hg, hop⟩ := k3 hex
          have hw : Region.wanted o (yielded ops a.tmps) = true := by
            unfold gOK at hg
            unfold Region.wanted
            cases hgd : o.guard with
            | none => rfl
            | some g =>
              obtain ⟨j, want⟩ := g
              rw [hgd] at hg
              obtain ⟨d, hd, he⟩ := hg
              rw [← agree_guard k2 hgd hd] at he
              obtain ⟨x, hx1, hx2, hx3⟩ := yielded_of hf hd he (by simp)
              simp only [VR] at hx2
              subst hx2
              simp [hx3]
          rw [if_pos hw]
          have hsi' : s'.i = i := by rw [qi, hsi]
          cases ha : isAlloc o.op with
          | true =>
            have hd := qd (by rw [← qe]; exact hex) (by rw [hso]; exact ha)
            unfold opX at hop
            rw [ha] at hop
            simp only [cond_true] at hop
            rw [k1, hsi'] at hop
            rw [hsi] at hd
            have hop' : opA (Sat P) T o fr h (h0.length + i) fun v h2 => v = s'.v ∧ h2 = s'.h' := by
              unfold opA at hop ⊢
              rw [opK_congr (agree_ev k2)]; exact hop
            refine .inl ((opA_sound (fun _ _ _ _ _ h => h) hT t0 (by omega) hd hf ha hop').upon fun x w' ⟨v, h', μ', ⟨e1, e2⟩, t2, v2, f2⟩ => ?_)
            subst e1 e2
            exact hrest k5 t2 (put_VRs f2 v2) (put_defers _ _ _)
          | false =>
            unfold opX at hop
            rw [ha] at hop
            simp only [cond_false] at hop
            rw [k1, ← opK_congr (agree_ev k2)] at hop
            refine .inl ((op_sound (fun _ _ _ _ _ h => h) hT t0.rel hf hop).upon fun x w' ⟨v, h', μ', ⟨e1, e2⟩, t2, v2⟩ => ?_)
            subst e1 e2
            exact hrest k5 (t0.trans t2) (put_VRs (VRs.step t2.step hf) v2) (put_defers _ _ _)
        | false =>
          obtain ⟨hg, hv, hh⟩ := k4 hex
          have hw : Region.wanted o (yielded ops a.tmps) = false := by
            unfold gNo at hg
            unfold Region.wanted
            cases hgd : o.guard with
            | none => rw [hgd] at hg; exact hg.elim
            | some g =>
              obtain ⟨j, want⟩ := g
              rw [hgd] at hg
              obtain ⟨d, hd, he⟩ := hg
              rw [← agree_guard k2 hgd hd] at he
              rcases he with he | he
              · obtain ⟨x, hx1, hx2, hx3⟩ := yielded_of hf hd he (by simp)
                simp only [VR] at hx2
                subst hx2
                cases want <;> simp [hx3]
              · obtain ⟨x, hx1, hx2, hx3⟩ := yielded_of hf hd he (by simp)
                simp only [VR] at hx2
                subst hx2
                simp [hx3]
          rw [if_neg (by rw [hw]; simp)]
          rw [hv, hh, k1] at k5
          exact hrest k5 t0 (put_VRs (v := .gone) (x := undef) hf (by simp only [VR]; rfl)) (put_defers _ _ _)
    · next hno =>
      cases L with
      | nil =>
        cases hV
        exact hQ μ w a t0 hf rfl
      | cons s L =>
        exfalso
        have hs := hops s (by simp)
        have hlt : s.i < ops.size := (Array.getElem?_eq_some_iff.1 hs).1
        have hin : s.i ∈ rs := (hmem s.i).2 ⟨hlt, (hlist s.i hlt).2 ⟨s, by simp, rfl⟩, s.o, hs, fun d hd => by
          have hd1 := hdeps s.i s.o (by rw [Array.getElem?_toList]; exact hs) d hd
          have hb : bef (befs ops.toList []) s.i d = true := (bef_iff hdeps (by rw [Array.getElem?_toList]; exact hs) d).2 ⟨d, hd, .inl rfl⟩
          have hdl : d < ops.size := by omega
          cases hq : listed[d]? with
          | none => rw [Array.getElem?_eq_none_iff] at hq; omega
          | some b =>
            cases b with
            | true => rfl
            | false =>
              obtain ⟨y, hy, rfl⟩ := (hlist d hdl).1 hq
              rcases List.mem_cons.1 hy with rfl | hy
              · omega
              · have := pairE_bef ((List.pairwise_cons.1 hpw).1 (y.o, y.i) (List.mem_map.2 ⟨y, hy, rfl⟩))
                have this' : bef (befs ops.toList []) s.i y.i = false := this
                rw [this'] at hb
                cases hb⟩
        have hpos : 0 < rs.length := List.length_pos_of_mem hin
        rw [List.getElem?_eq_getElem (Nat.mod_lt _ hpos)] at hno
        cases hno
end
end Go.Proofs.Ytgeakkmpohjohaa.Cl

/- The clean machine: code and functions. No claim is stated here. -/
set_option linter.unusedVariables false
set_option linter.unusedSimpArgs false
namespace Go.Proofs.Ytgeakkmpohjohaa.Cl
open Go
section
variable {P : Program} {T : Tab} {S : SatT}
/-! ### every order of a drawn region -/
theorem sims_mem : ∀ {l m : List Stp}, Sims l m → ∀ b ∈ m, ∃ a ∈ l, Sim a b
  | [], [], _, b, hb => by simp at hb
  | a :: l, b' :: m, h, b, hb => by
    rcases List.mem_cons.1 hb with rfl | hb
    · exact ⟨a, by simp, h.1⟩
    · obtain ⟨a', h1, h2⟩ := sims_mem h.2 b hb
      exact ⟨a', by simp [h1], h2⟩
  | [], _ :: _, h, _, _ => h.elim
  | _ :: _, [], h, _, _ => h.elim
theorem sims_map {β : Type} (f : Nat → β) : ∀ {l m : List Stp}, Sims l m → l.map (fun s => f s.i) = m.map (fun s => f s.i)
  | [], [], _ => rfl
  | a :: l, b :: m, h => by simp [h.1.i, sims_map f h.2]
  | [], _ :: _, h => h.elim
  | _ :: _, [], h => h.elim
theorem exec_sched (hS : ∀ f args h v h2, S f args h v h2 → Sat P f args h v h2) (hT : TOK P T) {ops : Array Oper} (hok : okD ops.toList (befs ops.toList []) = true) {Q : Exit → Act → World → Prop} {fr2 : Frame} {h2 : H} :
    ∀ (fuel t : Nat) (listed : Array Bool) (L : List Stp) {fr : Frame} {h : H} {μ : Mu} {w : World} {a : Act}, L.length ≤ fuel → Val S T ops.toList fr h L fr2 h2 → (∀ s ∈ L, ops[s.i]? = some s.o) →
      (L.map (·.i)).Pairwise (fun x y => x ≠ y ∧ bef (befs ops.toList []) x y = false) → (∀ x ∈ L, ∀ y ∈ L, Both S T (befs ops.toList []) x y) → listed.size = ops.size →
      (∀ i, i < ops.size → (listed[i]? = some false ↔ ∃ s ∈ L, s.i = i)) → (∀ j x, listed[j]? = some true → bef (befs ops.toList []) j x = true → listed[x]? = some true) →
      Rel μ h w → VRs μ h fr a.tmps.toList → (∀ μ' w' a', Tr μ h w μ' h2 w' → VRs μ' h2 fr2 a'.tmps.toList → a'.defers = a.defers → Q .normal a' w') →
      wpOps P ops Q (Region.linearise.go .any ops fuel t listed []) a w := by
  obtain ⟨hdeps, hpair⟩ := okD_spec hok
  intro fuel
  induction fuel with
  | zero =>
    intro t listed L fr h μ w a hlen hV _ _ _ _ _ _ r hf hQ
    have : L = [] := List.length_eq_zero_iff.1 (by omega)
    subst this
    cases hV
    exact hQ μ w a (Tr.refl r) hf rfl
  | succ fuel ih =>
    intro t listed L fr h μ w a hlen hV hops hpw hboth hsz hlist hdown r hf hQ
    unfold Region.linearise.go
    simp only
    generalize hrs : ((List.range ops.size).filter fun i => !listed.getD i true && ((ops[i]?).map (·.after.all fun e => !Region.binds .any e || listed.getD e.on false)).getD false) = rs
    have hmem : ∀ i, i ∈ rs ↔ i < ops.size ∧ listed[i]? = some false ∧ ∃ o, ops[i]? = some o ∧ ∀ d ∈ deps o, listed[d]? = some true := by
      intro i
      rw [← hrs, List.mem_filter, List.mem_range, Bool.and_eq_true]
      constructor
      · rintro ⟨h1, h2, h3⟩
        refine ⟨h1, ?_, ?_⟩
        · rw [Array.getD_eq_getD_getElem?, Array.getElem?_eq_getElem (by omega)] at h2
          rw [Array.getElem?_eq_getElem (by omega)]
          simpa using h2
        · cases ho : ops[i]? with
          | none => rw [ho] at h3; simp at h3
          | some o =>
            rw [ho] at h3
            simp only [Option.map_some, Option.getD_some, Array.all_eq_true'] at h3
            refine ⟨o, rfl, fun d hd => ?_⟩
            unfold deps at hd
            rw [List.mem_map] at hd
            obtain ⟨e, he, rfl⟩ := hd
            rw [List.mem_filter] at he
            have := h3 e (by simpa using he.1)
            rw [he.2] at this
            simp only [Bool.not_true, Bool.false_or] at this
            rw [Array.getD_eq_getD_getElem?] at this
            cases hq : listed[e.on]? with
            | none => rw [hq] at this; simp at this
            | some b => rw [hq] at this; simp at this; rw [this]
      · rintro ⟨h1, h2, o, ho, h3⟩
        refine ⟨h1, ?_, ?_⟩
        · rw [Array.getD_eq_getD_getElem?, h2]; rfl
        · rw [ho]
          simp only [Option.map_some, Option.getD_some, Array.all_eq_true']
          intro e he
          cases hb : Region.binds .any e with
          | false => rfl
          | true =>
            have := h3 e.on (by unfold deps; exact List.mem_map_of_mem (List.mem_filter.2 ⟨by simpa using he, hb⟩))
            rw [Array.getD_eq_getD_getElem?, this]
            rfl
    split
    · next i hi =>
      rw [go_acc]
      simp only [List.reverse_cons, List.reverse_nil, List.nil_append, List.cons_append]
      obtain ⟨hi1, hi2, o, ho, hi3⟩ := (hmem i).1 (List.mem_of_getElem? hi)
      obtain ⟨s, hs, hsi⟩ := (hlist i hi1).1 hi2
      obtain ⟨pre, post, rfl⟩ := List.append_of_mem hs
      have hso : s.o = o := by
        have := hops s hs
        rw [hsi, ho] at this
        cases this
        rfl
      rw [List.map_append, List.map_cons, List.pairwise_append] at hpw
      obtain ⟨hp1, hp2, hp3⟩ := hpw
      have hap : ∀ x ∈ pre, Apart ops.toList (befs ops.toList []) x s ∧ Both S T (befs ops.toList []) x s ∧ Both S T (befs ops.toList []) s x := by
        intro x hx
        have hxl : x ∈ pre ++ s :: post := by simp [hx]
        obtain ⟨hne, hb1⟩ := hp3 x.i (List.mem_map_of_mem hx) s.i (by simp)
        have hxo := hops x hxl
        have hxlt : x.i < ops.size := (Array.getElem?_eq_some_iff.1 hxo).1
        have hxun := (hlist x.i hxlt).2 ⟨x, hxl, rfl⟩
        have hb2 : bef (befs ops.toList []) s.i x.i = false := by
          cases hb : bef (befs ops.toList []) s.i x.i with
          | false => rfl
          | true =>
            rw [hsi] at hb
            obtain ⟨d, hd, h1⟩ := (bef_iff hdeps (by rw [Array.getElem?_toList]; exact ho) x.i).1 hb
            have hl := hi3 d hd
            rcases h1 with rfl | h1
            · rw [hl] at hxun; cases hxun
            · have := hdown d x.i hl h1
              rw [this] at hxun; cases hxun
        have hun : unord (befs ops.toList []) x.i s.i = true := by unfold unord; rw [hb1, hb2]; rfl
        have hst : ops[s.i]? = some s.o := hops s hs
        have key : (¬ (isMut x.o.op = true ∧ isMut s.o.op = true)) ∧ (∀ d, x.o.dst = some d → d ∉ readsOf ops.toList s.o) ∧ (∀ d, s.o.dst = some d → d ∉ readsOf ops.toList x.o) ∧ ∀ d e, x.o.dst = some d → s.o.dst = some e → d ≠ e := by
          rcases Nat.lt_or_gt_of_ne hne with hlt | hlt
          · obtain ⟨h1, h2⟩ := hpair x.i s.i x.o s.o (by rw [Array.getElem?_toList]; exact hxo) (by rw [Array.getElem?_toList]; exact hst) hlt
            unfold pairOK at h1
            rw [hb2] at h1
            rw [Bool.false_or, Bool.and_eq_true, Bool.and_eq_true] at h1
            obtain ⟨⟨h3, h4⟩, h5⟩ := h1
            refine ⟨fun hh => by (rw [hh.1, hh.2] at h3; cases h3), fun d hd => ?_, fun d hd => ?_, fun d e hd he => ?_⟩
            · rw [hd] at h4; simpa using h4
            · rw [hd] at h5; simpa using h5
            · unfold dstApart at h2; rw [hd, he] at h2; simpa using h2
          · obtain ⟨h1, h2⟩ := hpair s.i x.i s.o x.o (by rw [Array.getElem?_toList]; exact hst) (by rw [Array.getElem?_toList]; exact hxo) hlt
            unfold pairOK at h1
            rw [hb1] at h1
            rw [Bool.false_or, Bool.and_eq_true, Bool.and_eq_true] at h1
            obtain ⟨⟨h3, h4⟩, h5⟩ := h1
            refine ⟨fun hh => by (rw [hh.1, hh.2] at h3; cases h3), fun d hd => ?_, fun d hd => ?_, fun d e hd he => ?_⟩
            · rw [hd] at h5; simpa using h5
            · rw [hd] at h4; simpa using h4
            · unfold dstApart at h2; rw [hd, he] at h2; intro hde; rw [hde] at h2; simp at h2
        exact ⟨⟨hun, key.1, key.2.1, key.2.2.1, key.2.2.2⟩, hboth x hxl s hs, hboth s hs x hxl⟩
      obtain ⟨pre', s', q1, q2, q3⟩ := front pre hV hap
      have hso' : s'.o = o := by rw [← q2.o, hso]
      have hlen' : pre'.length = pre.length := by have := congrArg List.length (sims_map (fun i => i) q1); simpa using this.symm
      -- the rest
      have hrest : ∀ {fr' : Frame} {h' : H} {μ' : Mu} {w' : World} {a' : Act}, Val S T ops.toList fr' h' (pre' ++ post) fr2 h2 → Tr μ h w μ' h' w' → VRs μ' h' fr' a'.tmps.toList → a'.defers = a.defers →
          wpOps P ops Q (Region.linearise.go .any ops fuel (t / rs.length) (listed.setIfInBounds i true) []) a' w' := by
        intro fr' h' μ' w' a' hV' ht hf' hd'
        have hmemL : ∀ y ∈ pre' ++ post, ∃ x ∈ pre ++ s :: post, Sim x y ∧ x.i ≠ i := by
          intro y hy
          rcases List.mem_append.1 hy with hy | hy
          · obtain ⟨x, hx, hxy⟩ := sims_mem q1 y hy
            exact ⟨x, by simp [hx], hxy, by rw [← hsi]; exact (hp3 x.i (List.mem_map_of_mem hx) s.i (by simp)).1⟩
          · exact ⟨y, by simp [hy], Sim.refl y, by rw [← hsi]; exact Ne.symm ((List.pairwise_cons.1 hp2).1 y.i (List.mem_map_of_mem hy)).1⟩
        refine ih (t / rs.length) (listed.setIfInBounds i true) (pre' ++ post) (by simp at hlen ⊢; omega) hV' ?_ ?_ ?_ (by simpa using hsz) ?_ ?_ ht.rel hf' fun μ2 w2 a2 t2 f2 d2 => hQ μ2 w2 a2 (ht.trans t2) f2 (d2.trans hd')
        · intro y hy
          obtain ⟨x, hx, hxy, _⟩ := hmemL y hy
          have := hops x hx
          rw [hxy.i, hxy.o] at this
          exact this
        · rw [List.map_append, ← sims_map (fun i => i) q1, List.pairwise_append]
          exact ⟨hp1, (List.pairwise_cons.1 hp2).2, fun x hx y hy => hp3 x hx y (by simp at hy ⊢; exact .inr hy)⟩
        · intro x hx y hy
          obtain ⟨x', hx', sx, _⟩ := hmemL x hx
          obtain ⟨y', hy', sy, _⟩ := hmemL y hy
          exact (hboth x' hx' y' hy').sim sx sy
        · intro k hk
          rw [Array.getElem?_setIfInBounds]
          by_cases hki : i = k
          · subst hki
            rw [if_pos rfl, if_pos (by omega)]
            constructor
            · intro e; cases e
            · rintro ⟨y, hy, rfl⟩
              obtain ⟨x, _, sx, hxi⟩ := hmemL y hy
              exact absurd sx.i hxi
          · rw [if_neg hki, hlist k hk]
            constructor
            · rintro ⟨x, hx, rfl⟩
              rcases List.mem_append.1 hx with hx | hx
              · have : x.i ∈ pre'.map (fun s => s.i) := by rw [← sims_map (fun i => i) q1]; exact List.mem_map_of_mem hx
                obtain ⟨y, hy, hyx⟩ := List.mem_map.1 this
                exact ⟨y, by simp [hy], hyx⟩
              · rcases List.mem_cons.1 hx with rfl | hx
                · exact absurd hsi.symm hki
                · exact ⟨x, by simp [hx], rfl⟩
            · rintro ⟨y, hy, rfl⟩
              obtain ⟨x, hx, sx, _⟩ := hmemL y hy
              exact ⟨x, hx, sx.i⟩
        · intro j x hj hjx
          rw [Array.getElem?_setIfInBounds] at hj ⊢
          by_cases hix : i = x
          · subst hix; rw [if_pos rfl, if_pos (by omega)]
          · rw [if_neg hix]
            by_cases hij : i = j
            · subst hij
              obtain ⟨d, hd, h1⟩ := (bef_iff hdeps (by rw [Array.getElem?_toList]; exact ho) x).1 hjx
              have hl := hi3 d hd
              rcases h1 with rfl | h1
              · exact hl
              · exact hdown d x hl h1
            · rw [if_neg hij] at hj
              exact hdown j x hj hjx
      simp only [wpOps, ho]
      cases q3 with
      | cons k1 k2 k3 k4 k5 =>
        rw [hso'] at k2 k3 k4 k5
        cases hex : s'.ex with
        | true =>
          obtain ⟨hg, hop⟩ := k3 hex
          have hw : Region.wanted o (yielded ops a.tmps) = true := by
            unfold gOK at hg
            unfold Region.wanted
            cases hgd : o.guard with
            | none => rfl
            | some g =>
              obtain ⟨j, want⟩ := g
              rw [hgd] at hg
              obtain ⟨d, hd, he⟩ := hg
              rw [← agree_guard k2 hgd hd] at he
              obtain ⟨x, hx1, hx2, hx3⟩ := yielded_of hf hd he (by simp)
              simp only [VR] at hx2
              subst hx2
              simp [hx3]
          rw [if_pos hw]
          rw [k1, ← opK_congr (agree_ev k2)] at hop
          refine .inl ((op_sound hS hT r hf hop).upon fun x w' ⟨v, h', μ', ⟨e1, e2⟩, t2, v2⟩ => ?_)
          subst e1 e2
          exact hrest k5 t2 (put_VRs (VRs.step t2.step hf) v2) (put_defers _ _ _)
        | false =>
          obtain ⟨hg, hv, hh⟩ := k4 hex
          have hw : Region.wanted o (yielded ops a.tmps) = false := by
            unfold gNo at hg
            unfold Region.wanted
            cases hgd : o.guard with
            | none => rw [hgd] at hg; exact hg.elim
            | some g =>
              obtain ⟨j, want⟩ := g
              rw [hgd] at hg
              obtain ⟨d, hd, he⟩ := hg
              rw [← agree_guard k2 hgd hd] at he
              rcases he with he | he
              · obtain ⟨x, hx1, hx2, hx3⟩ := yielded_of hf hd he (by simp)
                simp only [VR] at hx2
                subst hx2
                cases want <;> simp [hx3]
              · obtain ⟨x, hx1, hx2, hx3⟩ := yielded_of hf hd he (by simp)
                simp only [VR] at hx2
                subst hx2
                simp [hx3]
          rw [if_neg (by rw [hw]; simp)]
          rw [hv, hh, k1] at k5
          exact hrest k5 (Tr.refl r) (put_VRs (v := .gone) (x := undef) hf (by simp only [VR]; rfl)) (put_defers _ _ _)
    · next hno =>
      cases L with
      | nil =>
        cases hV
        exact hQ μ w a (Tr.refl r) hf rfl
      | cons s L =>
        exfalso
        have hs := hops s (by simp)
        have hlt : s.i < ops.size := (Array.getElem?_eq_some_iff.1 hs).1
        have hin : s.i ∈ rs := (hmem s.i).2 ⟨hlt, (hlist s.i hlt).2 ⟨s, by simp, rfl⟩, s.o, hs, fun d hd => by
          have hd1 := hdeps s.i s.o (by rw [Array.getElem?_toList]; exact hs) d hd
          have hb : bef (befs ops.toList []) s.i d = true := (bef_iff hdeps (by rw [Array.getElem?_toList]; exact hs) d).2 ⟨d, hd, .inl rfl⟩
          have hdl : d < ops.size := by omega
          cases hq : listed[d]? with
          | none => rw [Array.getElem?_eq_none_iff] at hq; omega
          | some b =>
            cases b with
            | true => rfl
            | false =>
              obtain ⟨y, hy, rfl⟩ := (hlist d hdl).1 hq
              rcases List.mem_cons.1 hy with rfl | hy
              · omega
              · have := (List.pairwise_cons.1 hpw).1 y.i (List.mem_map_of_mem hy)
                rw [this.2] at hb
                cases hb⟩
        have hpos : 0 < rs.length := List.length_pos_of_mem hin
        rw [List.getElem?_eq_getElem (Nat.mod_lt _ hpos)] at hno
        cases hno
theorem slot_sound (hS : ∀ f args h v h2, S f args h v h2 → Sat P f args h v h2) (hT : TOK P T) (hmix : P.follows .mixedOrders = true) {ops : Array Oper} {k : Frame → H → Prop} {Q : Exit → Act → World → Prop} {μ : Mu} {h : H} {w : World} {fr : Frame} {a : Act}
    (r : Rel μ h w) (hf : VRs μ h fr a.tmps.toList) (l : List (Oper × Nat)) (hlz : ∀ p ∈ l, ops.toList[p.2]? = some p.1) (hoE : okE ops.toList (befs ops.toList []) l = true) (hD : slotK ops.toList.length h fun h1 => runSlot S T ops.toList (befs ops.toList []) h.length l [] [] k fr h1)
    (hQ : ∀ μ' h' w' fr' a', Tr μ h w μ' h' w' → VRs μ' h' fr' a'.tmps.toList → a'.defers = a.defers → k fr' h' → Q .normal a' w') (t : Nat) :
    wpOps P ops Q (Region.schedule (P.follows .mixedOrders) ops t) a w := by
  unfold slotK at hD
  unfold okE at hoE
  simp only [Bool.and_eq_true] at hoE
  obtain ⟨⟨⟨hE1, hE2⟩, hE3⟩, hE4⟩ := hoE
  have hdeps : ∀ (p : Nat) o, ops.toList[p]? = some o → ∀ d ∈ deps o, d < p := fun p o ho d hd => by
    rw [List.all_eq_true] at hE1
    have := hE1 (o, p) (List.mem_of_getElem? (by rw [List.getElem?_zipIdx, ho]; simp : ops.toList.zipIdx[p]? = some (o, p)))
    rw [List.all_eq_true] at this
    simpa using this d hd
  have hll : ∀ p ∈ l, p.2 < ops.toList.length := fun p hp => (List.getElem?_eq_some_iff.1 (hlz p hp)).1
  have t1 := Tr.deads ops.toList.length r
  obtain ⟨L, fr2, h2, q1, q2, q3, q4, q5, _, _⟩ := slot_trace hS hT l [] [] fr _ hll (okPairsE_pair _ hE4) (fun e he => by simp at he) trivial (by simp)
    (fun p hp _ => by rw [List.getElem?_append_right (by omega), Nat.add_sub_cancel_left, List.getElem?_replicate, if_pos (hll p hp)]) ⟨μ, w, _, t1, hf.step t1.step⟩ hD
  have hLi : ∀ s ∈ L, (s.o, s.i) ∈ l := fun s hs => by rw [← q3]; exact List.mem_map.2 ⟨s, hs, rfl⟩
  rw [hmix]
  unfold Region.schedule
  simp only [Bool.true_or, if_true]
  unfold Region.linearise
  refine exec_slot hT hdeps ops.size t _ L ?_ q1 ?_ (by rw [q3]; exact okPairsE_pair _ hE4) q5 (by simpa using q4) (by simp) ?_ ?_ t1 (hf.step t1.step) fun μ' w' a' t' f' d' => hQ μ' h2 w' fr2 a' t' f' d' q2
  · have := congrArg List.length q3
    have h3 : l.length = ops.toList.length := by simpa using hE2
    simp at this h3
    omega
  · intro s hs
    have := hlz _ (hLi s hs)
    rwa [Array.getElem?_toList] at this
  · intro i hi
    rw [Array.getElem?_replicate, if_pos hi]
    refine ⟨fun _ => ?_, fun _ => rfl⟩
    rw [List.all_eq_true] at hE3
    have := hE3 i (by simpa using hi)
    rw [List.any_eq_true] at this
    obtain ⟨p, hp, e⟩ := this
    rw [← q3] at hp
    obtain ⟨s, hs, rfl⟩ := List.mem_map.1 hp
    exact ⟨s, hs, by simpa using e⟩
  · intro j x hj
    rw [Array.getElem?_replicate] at hj
    split at hj <;> cases hj
theorem drawK_sound (hS : ∀ f args h v h2, S f args h v h2 → Sat P f args h v h2) (hT : TOK P T) (hmix : P.follows .mixedOrders = true) {ops : Array Oper} {k : Frame → H → Prop} {Q : Exit → Act → World → Prop} {μ : Mu} {h : H} {w : World} {fr : Frame} {a : Act}
    (r : Rel μ h w) (hf : VRs μ h fr a.tmps.toList) (hD : drawK S T ops.toList k fr h)
    (hQ : ∀ μ' h' w' fr' a', Tr μ h w μ' h' w' → VRs μ' h' fr' a'.tmps.toList → a'.defers = a.defers → k fr' h' → Q .normal a' w') (t : Nat) :
    wpOps P ops Q (Region.schedule (P.follows .mixedOrders) ops t) a w := by
  have hz : ∀ p ∈ ops.toList.zipIdx, ops.toList[p.2]? = some p.1 := fun p hp => by
    obtain ⟨n, hn, rfl⟩ := List.mem_iff_getElem.1 hp
    simp
  unfold drawK at hD
  cases hok : okD ops.toList (befs ops.toList []) with
  | false =>
    rw [hok] at hD
    simp only [cond_false] at hD
    cases hoE : okE ops.toList (befs ops.toList []) (late ops.toList) with
    | true =>
      rw [hoE] at hD
      simp only [cond_true] at hD
      exact slot_sound hS hT hmix r hf _ (fun p hp => hz p (lateGo_mem _ _ _ p hp)) hoE hD hQ t
    | false =>
      rw [hoE] at hD
      simp only [cond_false] at hD
      obtain ⟨hoE, hD⟩ := bif_true hD
      exact slot_sound hS hT hmix r hf _ (fun p hp => hz p (late2Go_mem _ _ _ _ p hp)) hoE hD hQ t
  | true =>
  rw [hok] at hD
  simp only [cond_true] at hD
  obtain ⟨hdeps, hpair⟩ := okD_spec hok
  have hinc : ∀ (l : List Oper) (n : Nat), (l.zipIdx n).Pairwise (fun p q => p.2 < q.2) := by
    intro l
    induction l with
    | nil => intro n; simp
    | cons x l ih =>
      intro n
      rw [List.zipIdx_cons, List.pairwise_cons]
      refine ⟨fun p hp => ?_, ih (n + 1)⟩
      have := List.mem_zipIdx hp
      show n < p.2
      omega
  obtain ⟨L, fr2, h2, q1, q2, q3, q4, _, _⟩ := run_trace (S := S) (T := T) hok ops.toList.zipIdx [] [] fr h hz (hinc _ 0) (fun e he => by simp at he) (fun e he => by simp at he) trivial (fun e he => by simp at he) hD
  have hLi : L.map (·.i) = List.range ops.size := by
    have := congrArg (List.map Prod.snd) q3
    simpa [List.range_eq_range', Function.comp_def] using this
  rw [hmix]
  unfold Region.schedule
  simp only [Bool.true_or, if_true]
  unfold Region.linearise
  refine exec_sched hS hT hok ops.size t _ L (by have := congrArg List.length hLi; simp at this; omega) q1 ?_ ?_ q4 (by simp) ?_ ?_ r hf fun μ' w' a' t' f' d' => hQ μ' h2 w' fr2 a' t' f' d' q2
  · intro s hs
    have : (s.o, s.i) ∈ ops.toList.zipIdx := by rw [← q3]; exact List.mem_map_of_mem hs
    have := hz _ this
    rwa [Array.getElem?_toList] at this
  · rw [hLi, List.range_eq_range']
    rw [← List.range_eq_range']
    refine List.pairwise_lt_range.imp fun {x y} hxy => ⟨by omega, ?_⟩
    cases hb : bef (befs ops.toList []) x y with
    | false => rfl
    | true => have := bef_lt hdeps _ _ hb; omega
  · intro i hi
    rw [Array.getElem?_replicate, if_pos hi]
    refine ⟨fun _ => ?_, fun _ => rfl⟩
    have : i ∈ L.map (·.i) := by rw [hLi]; simpa using hi
    obtain ⟨s, hs, e⟩ := List.mem_map.1 this
    exact ⟨s, hs, e⟩
  · intro j x hj
    rw [Array.getElem?_replicate] at hj
    split at hj <;> cases hj
def exm : Exit → Ex → Prop
  | .normal, .normal => True
  | .exit i, .exit j => i = j
  | .ret, .ret => True
  | _, _ => False
def CPost (μ : Mu) (h : H) (w : World) (df : List Deferred) (k : Kont) : Exit → Act → World → Prop := fun e a' w' =>
  a'.defers = df ∧ ∃ e2 fr' h' μ', exm e e2 ∧ k e2 fr' h' ∧ Tr μ h w μ' h' w' ∧ VRs μ' h' fr' a'.tmps.toList
theorem mask_VRs {μ h} {fr : Frame} {ds : List Value} (m : List Nat) (hf : VRs μ h fr ds) : VRs μ h (mask m fr) ds := by
  refine VRs.mk (by simp [mask, hf.len]) fun i v d h1 h2 => ?_
  unfold mask at h1
  rw [List.getElem?_map, List.getElem?_zipIdx] at h1
  cases hq : fr[i]? with
  | none => rw [hq] at h1; cases h1
  | some x =>
    rw [hq] at h1
    simp only [Option.map_some, Option.some.injEq, Nat.zero_add] at h1
    obtain ⟨d', h3, h4⟩ := hf.get hq
    rw [h2] at h3
    cases h3
    subst h1
    generalize m.contains i = b
    cases b
    · simp [VR]
    · exact h4
theorem CPost.later {μ h w df k μ1 h1 w1 e a' w'} (t : Tr μ h w μ1 h1 w1) (c : CPost μ1 h1 w1 df k e a' w') : CPost μ h w df k e a' w' := by
  obtain ⟨hd, e2, fr', h', μ', c1, c2, c3, c4⟩ := c
  exact ⟨hd, e2, fr', h', μ', c1, c2, t.trans c3, c4⟩
theorem maskR_VRs {μ h} {fr : Frame} {ds : List Value} (m : List Nat) (hf : VRs μ h fr ds) : VRs μ h (maskR m fr) ds := by
  unfold maskR
  split
  · exact hf
  · exact mask_VRs _ hf
theorem cwp_sound (hS : ∀ f args h v h2, S f args h v h2 → Sat P f args h v h2) (hT : TOK P T) (hmix : P.follows .mixedOrders = true) (M : Nat → List Nat) :
    ∀ (c : Code) (m : List Nat) (k : Kont) {μ : Mu} {h : H} {w : World} {fr : Frame} {a : Act}, Rel μ h w → VRs μ h fr a.tmps.toList → cwp S T M m c k fr h → c.wp P (CPost μ h w a.defers k) a w
  | .skip, m, k, μ, h, w, fr, a, r, hf, H => wp_skip ⟨rfl, .normal, fr, h, μ, trivial, H, Tr.refl r, hf⟩
  | .region id ops d, m, k, μ, h, w, fr, a, r, hf, H => by
    cases d with
    | false =>
      refine wp_region ?_
      rw [List.range_eq_range', ← Array.length_toList]
      exact runOps_sound hS hT ops.toList 0 rfl r hf H fun μ' h' w' fr' a' t f' d' hk => ⟨d', .normal, _, h', μ', trivial, hk, t, maskR_VRs _ f'⟩
    | true =>
      refine wp_region_draw fun t => ?_
      have H := (drawH_eq S T _ _ _ fr h).mp H
      have := drawK_sound hS hT hmix (w := w.drew) (Q := CPost μ h w a.defers k) r.drew hf H (fun μ' h' w' fr' a' t f' d' hk => ⟨d', .normal, _, h', μ', trivial, hk, (Tr.drew r).trans t, maskR_VRs _ f'⟩) t
      exact this
  | .seq x y, m, k, μ, h, w, fr, a, r, hf, H => by
    refine wp_seq (wp_mono (cwp_sound hS hT hmix M x m _ r hf H) fun e a' w' hq => ?_)
    obtain ⟨hd, e2, fr', h', μ', c1, c2, c3, c4⟩ := hq
    cases e <;> cases e2 <;> first
      | exact c1.elim
      | (show y.wp P _ a' w'
         refine wp_mono (cwp_sound hS hT hmix M y m k c3.rel c4 c2) fun e a2 w2 hq => ?_
         rw [hd] at hq
         exact hq.later c3)
      | exact ⟨hd, _, fr', h', μ', c1, c2, c3, c4⟩
  | .cond c x y, m, k, μ, h, w, fr, a, r, hf, H => by
    unfold cwp at H
    have hc := ev_sound hf c
    split at H
    · next t e =>
      rw [e] at hc
      simp only [VR] at hc
      refine wp_cond_split hc (fun ht => ?_) (fun ht => ?_)
      · subst ht; exact cwp_sound hS hT hmix M x m k r hf H
      · subst ht; exact cwp_sound hS hT hmix M y m k r hf H
    · exact H.elim
  | .block id x, m, k, μ, h, w, fr, a, r, hf, H => by
    refine wp_block (wp_mono (cwp_sound hS hT hmix M x (M id) _ r hf H) fun e a' w' hq => ?_)
    obtain ⟨hd, e2, fr', h', μ', c1, c2, c3, c4⟩ := hq
    cases e <;> cases e2 <;> first
      | exact c1.elim
      | exact ⟨hd, _, fr', h', μ', c1, c2, c3, c4⟩
      | (next i j =>
         obtain rfl : i = j := c1
         simp only [Exit.inBlock]
         have c2' : (bif i == id then k .normal fr' h' else k (.exit i) fr' h') := c2
         by_cases hi : i = id
         · subst hi
           rw [if_pos rfl]
           simp at c2'
           exact ⟨hd, .normal, fr', h', μ', trivial, c2', c3, c4⟩
         · rw [if_neg hi]
           have hb : (i == id) = false := by simpa using hi
           rw [hb] at c2'
           exact ⟨hd, .exit i, fr', h', μ', rfl, c2', c3, c4⟩)
  | .loop x, m, k, μ, h, w, fr, a, r, hf, H => by
    obtain ⟨n, H⟩ := H
    refine wp_loop_rounds n ?_
    have key : ∀ n {μ1 : Mu} {h1 : List AObj} {w1 : World} {fr1 : Frame} {a1 : Act}, Tr μ h w μ1 h1 w1 → VRs μ1 h1 fr1 a1.tmps.toList → a1.defers = a.defers →
        iter (fun X fr h => cwp S T M m x (kSeq (fun fr h => X (mask m fr) h) k) fr h) n fr1 h1 → Code.rounds P x (CPost μ h w a.defers k) n a1 w1 := by
      intro n
      induction n with
      | zero => intro μ1 h1 w1 fr1 a1 t f d H; exact H.elim
      | succ n ih =>
        intro μ1 h1 w1 fr1 a1 t f d H
        rw [rounds_succ]
        refine wp_mono (cwp_sound hS hT hmix M x m _ t.rel f H) fun e a' w' hq => ?_
        obtain ⟨hd, e2, fr', h', μ', c1, c2, c3, c4⟩ := hq
        rw [d] at hd
        cases e <;> cases e2 <;> first
          | exact c1.elim
          | exact ih (t.trans c3) (mask_VRs m c4) hd c2
          | exact ⟨hd, _, fr', h', μ', c1, c2, t.trans c3, c4⟩
    exact key n (Tr.refl r) (mask_VRs m hf) rfl H
  | .exit id, m, k, μ, h, w, fr, a, r, hf, H => wp_exit ⟨rfl, .exit id, fr, h, μ, rfl, H, Tr.refl r, hf⟩
  | .ret, m, k, μ, h, w, fr, a, r, hf, H => wp_ret ⟨rfl, .ret, fr, h, μ, trivial, H, Tr.refl r, hf⟩
  | .rangeFunc _ _ _ _, m, k, μ, h, w, fr, a, r, hf, H => H.elim
  | .scope _, m, k, μ, h, w, fr, a, r, hf, H => H.elim
  | .label _, m, k, μ, h, w, fr, a, r, hf, H => H.elim
  | .goto _, m, k, μ, h, w, fr, a, r, hf, H => H.elim
  | .refuse _, m, k, μ, h, w, fr, a, r, hf, H => H.elim

/-! ### functions -/
def resOne (tmps : Array Value) : ResultVar → Sem Value
  | .tmp t => pure (tmps.getD t undef)
  | .cell a t => do loadVar t (← asAddr (tmps.getD a undef))
theorem results_eq (fn : Func) (tmps : Array Value) : results fn tmps = (do let vs ← fn.results.mapM (resOne tmps); pure (if h : vs.size = 1 then vs[0] else .tuple vs)) := by
  unfold results
  congr 1
theorem resK_sound (hT : TOK P T) {μ : Mu} {h : H} {w : World} {fr : Frame} {tmps : Array Value} (r : Rel μ h w) (hf : VRs μ h fr tmps.toList) :
    ∀ (l : List ResultVar) (K : List AVal → Prop), resK T l fr h K → ∃ vs ds, (l.mapM (resOne tmps)).run P w = .ok ds w ∧ K vs ∧ VRs μ h vs ds
  | [], K, hK => ⟨[], [], rfl, hK, VRs.nil⟩
  | .tmp t :: l, K, hK => by
    obtain ⟨vs, ds, h1, h2, h3⟩ := resK_sound hT r hf l _ hK
    have := ev_sound (a := ⟨tmps, []⟩) hf (.tmp t)
    refine ⟨_, tmps.getD t undef :: ds, ?_, h2, VRs.cons this h3⟩
    simp only [List.mapM_cons, resOne, Sem.run_bind, Sem.run_pure, Result.andThen_ok, h1]
  | .cell c t :: l, K, hK => by
    unfold resK at hK
    have hc := ev_sound (a := ⟨tmps, []⟩) hf (.tmp c)
    split at hK
    · next p e =>
      have hc' : VR μ h (fr.getD c .undef) (tmps.getD c undef) := hc
      rw [e] at hc'
      obtain ⟨v, d, h1, h2, h3⟩ := ldT_sound (P := P) hT r hc' hK
      obtain ⟨vs, ds, k1, k2, k3⟩ := resK_sound hT r hf l _ h2
      refine ⟨_, d :: ds, ?_, k2, VRs.cons h3 k3⟩
      have hl : (do loadVar t (← asAddr (tmps.getD c undef)) : Sem Value).run P w = .ok d w := by
        simp only [VR, PR] at hc'
        split at hc'
        · next e2 =>
          exfalso
          rw [hc'] at h1
          simp [Instr.loadAt, Instr.sureAddr, stuck] at h1
        · obtain ⟨_, q, hq, _⟩ := hc'
          rw [hq] at h1 ⊢
          simpa [Instr.loadAt, Instr.sureAddr, asAddr] using h1
      rw [List.mapM_cons, Sem.run_bind]
      rw [show resOne tmps (ResultVar.cell c t) = (do loadVar t (← asAddr (tmps.getD c undef)) : Sem Value) from rfl, hl]
      simp only [Result.andThen_ok, Sem.run_bind, k1, Sem.run_pure]
    · exact hK.elim
/-- What holds of a function's body holds of its calls. -/
theorem Sat.body (hT : TOK P T) (hmix : P.follows .mixedOrders = true) (M : Nat → List Nat) {f : Nat} {fn : Func} {c : Code} (hfn : P.funcs[f]? = some fn) (hb : fn.body = some c) (hcall : ∀ (a : Array Value) (w : World), (callFunc f a).run P w = .ok (.enter f a) w)
    {args : List AVal} {h : H} {v : AVal} {h2 : H}
    (hH : cwp (Sat P) T M [] c (kFun T fn.results.toList fun v' h' => ∀ μ' w', Rel μ' h' w' → ∀ x, VR μ' h' v' x → ∀ μ w, Tr μ h w μ' h' w' → ∃ μ2, Tr μ h w μ2 h2 w' ∧ VR μ2 h2 v x) (fr0 fn args) h) : Sat P f args h v h2 := by
  refine ⟨hcall, fun μ w ds r hd => calls_of_wp hfn hb ?_⟩
  have hfr : VRs μ h (fr0 fn args) (ds.toArray ++ Array.replicate (fn.ntmps - ds.toArray.size) undef).toList := by
    unfold fr0
    rw [Array.toList_append]
    refine hd.append ?_
    have : ds.toArray.size = args.length := by simp [hd.len]
    rw [this]
    refine VRs.mk (by simp) fun i v d h1 h2 => ?_
    rw [List.getElem?_replicate] at h1
    simp only [Array.toList_replicate, List.getElem?_replicate] at h2
    split at h1
    · next hi =>
      rw [if_pos hi] at h2
      cases h1
      cases h2
      simp only [VR]
      rfl
    · cases h1
  refine wp_mono (cwp_sound (fun _ _ _ _ _ h => h) hT hmix M c [] _ r (a := ⟨_, []⟩) hfr hH) fun e a' w' hq => ?_
  obtain ⟨hd', e2, fr', h', μ', c1, c2, c3, c4⟩ := hq
  have main : resK T fn.results.toList fr' h' (fun vs => ∀ μ' w', Rel μ' h' w' → ∀ x, VR μ' h' (one vs) x → ∀ μ w, Tr μ h w μ' h' w' → ∃ μ2, Tr μ h w μ2 h2 w' ∧ VR μ2 h2 v x) →
      a'.defers = [] ∧ ∃ x, (results fn a'.tmps).run P w' = .ok x w' ∧ ∃ x2 μ', (Ending.returned x) = .returned x2 ∧ Tr μ h w μ' h2 w' ∧ VR μ' h2 v x2 := by
    intro hK
    obtain ⟨vs, ds', k1, k2, k3⟩ := resK_sound (P := P) hT c3.rel c4 _ _ hK
    have hone : ∃ x, (results fn a'.tmps).run P w' = .ok x w' ∧ VR μ' h' (one vs) x := by
      rw [results_eq, Sem.run_bind, Array.mapM_eq_mapM_toList, Sem.run_map, k1]
      simp only [Result.andThen_ok]
      cases vs with
      | nil =>
        simp only [VRs] at k3
        subst k3
        exact ⟨_, rfl, by simp only [one, VR]; exact ⟨#[], rfl, VRs.nil⟩⟩
      | cons v1 vs =>
        have k3' := k3
        simp only [VRs] at k3'
        obtain ⟨d1, ds'', rfl, hv1, hvs⟩ := k3'
        cases vs with
        | nil =>
          simp only [VRs] at hvs
          subst hvs
          exact ⟨d1, rfl, hv1⟩
        | cons v2 vs =>
          have k4 := hvs
          simp only [VRs] at k4
          obtain ⟨d2, ds3, rfl, _, _⟩ := k4
          refine ⟨.tuple (d1 :: d2 :: ds3).toArray, ?_, by simp only [one, VR]; exact ⟨_, rfl, k3⟩⟩
          simp
    obtain ⟨x, hx, hvx⟩ := hone
    obtain ⟨μ2, t2, v2⟩ := k2 μ' w' c3.rel x hvx μ w c3
    exact ⟨hd', x, hx, x, μ2, rfl, t2, v2⟩
  cases e <;> cases e2 <;> first
    | exact c1.elim
    | exact c2.elim
    | exact main c2
end
end Go.Proofs.Ytgeakkmpohjohaa.Cl

/- The clean machine: results of calls out of the weakest precondition; loops. No claim is stated here. -/
set_option linter.unusedVariables false
set_option linter.unusedSimpArgs false
namespace Go.Proofs.Ytgeakkmpohjohaa.Cl
open Go
section
variable {P : Program} {T : Tab} {S : SatT} {M : Nat → List Nat}
abbrev LinF (F : (Frame → H → Prop) → Prop) : Prop := Lin fun (K : Frame × H → Prop) => F fun fr h => K (fr, h)
abbrev LinE (F : Kont → Prop) : Prop := Lin fun (K : Ex × Frame × H → Prop) => F fun e fr h => K (e, fr, h)
theorem op_bind {β : Type} (o : Oper) (fr : Frame) (h : H) {G : AVal → H → (β → Prop) → Prop} (hG : ∀ v h, Lin (G v h)) : Lin fun K => opK S T o fr h fun v h => G v h K :=
  Lin.bind (F := fun (K : AVal × H → Prop) => opK S T o fr h fun v h => K (v, h)) (G := fun x K => G x.1 x.2 K) (opK_lin o fr) fun x => hG x.1 x.2
theorem runOps_lin (ops : List Oper) : ∀ (l : List Oper) (fr : Frame) (h : H), LinF fun k => runOps S T ops l k fr h
  | [], fr, h => Lin.ret (fr, h)
  | o :: os, fr, h => by
    have ih := runOps_lin ops os
    unfold runOps
    cases hg : o.guard with
    | none => exact op_bind o fr h fun v h => ih _ h
    | some g =>
      obtain ⟨j, want⟩ := g
      simp only
      cases hd : dstOf ops j with
      | none => exact Lin.no
      | some d =>
        simp only
        cases hv : fr.getD d .undef with
        | bool b =>
          simp only
          cases b <;> cases want <;> simp only [cond_true, cond_false]
          · exact op_bind o _ h fun v h => ih _ h
          · exact ih _ h
          · exact ih _ h
          · exact op_bind o _ h fun v h => ih _ h
        | gone => exact ih _ h
        | _ => exact Lin.no
theorem chkK_lin {β : Type} (o : Oper) (fr : Frame) (h h' : H) {F : (β → Prop) → Prop} (hF : Lin F) : Lin fun K => chkK T o fr h h' (F K) := by
  unfold chkK
  split
  · split
    · exact Lin.bif_ _ (hF.and _) (hF.and _)
    · exact hF
  · split
    · exact hF.and _
    · exact hF
  · exact hF
theorem chkPast_lin {β : Type} (b : List Nat) (i : Nat) (o : Oper) (fr : Frame) (h : H) {F : (β → Prop) → Prop} (hF : Lin F) : ∀ l, Lin fun K => chkPast T b i o fr h l (F K)
  | [] => hF
  | (k, h0) :: l => by
    unfold chkPast
    generalize unord b i k = c
    cases c
    · exact chkPast_lin b i o fr h hF l
    · exact chkK_lin o fr h h0 (chkPast_lin b i o fr h hF l)
theorem chkPend_lin {β : Type} (b : List Nat) (k : Nat) (h' : H) {F : (β → Prop) → Prop} (hF : Lin F) : ∀ l, Lin fun K => chkPend T b k h' l (F K)
  | [] => hF
  | (i, o, fr, h) :: l => by
    unfold chkPend
    generalize unord b i k = c
    cases c
    · exact chkPend_lin b k h' hF l
    · exact chkK_lin o fr h h' (chkPend_lin b k h' hF l)
theorem stepDraw_lin {β : Type} (b : List Nat) (i : Nat) (o : Oper) (past : List (Nat × H)) (pend : List (Nat × Oper × Frame × H)) (fr : Frame) (h : H)
    {G : List (Nat × H) → List (Nat × Oper × Frame × H) → AVal → H → (β → Prop) → Prop} (hG : ∀ p q v h, Lin (G p q v h)) :
    Lin fun K => stepDraw S T b i o past pend fr h fun p q v h => G p q v h K := by
  unfold stepDraw
  generalize isMut o.op = c
  generalize isRead o.op = d
  cases c
  · cases d
    · exact op_bind o fr h (G := fun v h K => G past pend v h K) fun v h => hG _ _ _ _
    · exact op_bind o fr h (G := fun v h' K => chkPast T b i o fr h past (G past ((i, o, fr, h) :: pend) v h' K)) fun v h' => chkPast_lin b i o fr h (hG _ _ _ _) past
  · exact op_bind o fr h (G := fun v h' K => chkPend T b i h' pend (G ((i, h) :: past) pend v h' K)) fun v h' => chkPend_lin b i h' (hG _ _ _ _) pend
theorem runDraw_lin (ops : List Oper) (b : List Nat) : ∀ (l : List (Oper × Nat)) past pend (fr : Frame) (h : H), LinF fun k => runDraw S T ops b l past pend k fr h
  | [], _, _, fr, h => Lin.ret (fr, h)
  | (o, i) :: os, past, pend, fr, h => by
    have ih := runDraw_lin ops b os
    unfold runDraw
    cases hg : o.guard with
    | none => exact stepDraw_lin b i o past pend fr h fun p q v h => ih p q _ h
    | some g =>
      obtain ⟨j, want⟩ := g
      simp only
      cases hd : dstOf ops j with
      | none => exact Lin.no
      | some d =>
        simp only
        cases hv : fr.getD d .undef with
        | bool c =>
          simp only
          cases c <;> cases want <;> simp only [cond_true, cond_false]
          · exact stepDraw_lin b i o past pend _ h fun p q v h => ih p q _ h
          · exact ih _ _ _ h
          · exact ih _ _ _ h
          · exact stepDraw_lin b i o past pend _ h fun p q v h => ih p q _ h
        | gone => exact ih _ _ _ h
        | _ => exact Lin.no
theorem opA_bind {β : Type} (o : Oper) (fr : Frame) (h : H) (n : Nat) {G : AVal → H → (β → Prop) → Prop} (hG : ∀ v h, Lin (G v h)) : Lin fun K => opA S T o fr h n fun v h => G v h K := by
  unfold opA
  refine op_bind o fr [] (G := fun v h1 K => match h1 with | [x] => G (v.at_ n) (h.set n x) K | _ => False) fun v h1 => ?_
  match h1 with
  | [x] => exact hG _ _
  | [] => exact Lin.no
  | _ :: _ :: _ => exact Lin.no
theorem chkPendE_lin {β : Type} (b : List Nat) (k : Nat) (past : List (Nat × H)) (h' : H) {F : (β → Prop) → Prop} (hF : Lin F) : ∀ l, Lin fun K => chkPendE T b k past h' l (F K)
  | [] => hF
  | (i, o, fr, h) :: l => by
    unfold chkPendE
    generalize (unord b i k && lastDep b past i) = c
    cases c
    · exact chkPendE_lin b k past h' hF l
    · exact chkK_lin o fr h h' (chkPendE_lin b k past h' hF l)
theorem chkPastE_lin {β : Type} (b : List Nat) (i : Nat) (o : Oper) (fr : Frame) (h : H) {F : (β → Prop) → Prop} (hF : Lin F) : ∀ l nx, Lin fun K => chkPastE T b i o fr h nx l (F K)
  | [], nx => hF
  | (k, h0) :: l, nx => by
    unfold chkPastE
    generalize unord b i k = c
    cases c
    · exact chkPastE_lin b i o fr h hF l _
    · cases nx with
      | none => exact chkK_lin o fr h h0 (chkPastE_lin b i o fr h hF l _)
      | some h1 => exact chkK_lin o fr h h1 (chkK_lin o fr h h0 (chkPastE_lin b i o fr h hF l _))
theorem stepSlot_lin {β : Type} (b : List Nat) (n i : Nat) (o : Oper) (past : List (Nat × H)) (pend : List (Nat × Oper × Frame × H)) (fr : Frame) (h : H)
    {G : List (Nat × H) → List (Nat × Oper × Frame × H) → AVal → H → (β → Prop) → Prop} (hG : ∀ p q v h, Lin (G p q v h)) :
    Lin fun K => stepSlot S T b n i o past pend fr h fun p q v h => G p q v h K := by
  unfold stepSlot
  generalize isAlloc o.op = a
  generalize isMut o.op = c
  generalize isRead o.op = d
  cases a
  · cases c
    · cases d
      · exact op_bind o fr h (G := fun v h K => G past pend v h K) fun v h => hG _ _ _ _
      · exact op_bind o fr h (G := fun v h' K => chkPastE T b i o fr h none past (G past ((i, o, fr, h) :: pend) v h' K)) fun v h' => chkPastE_lin b i o fr h (hG _ _ _ _) past none
    · exact op_bind o fr h (G := fun v h' K => chkPendE T b i past h pend (chkPend T b i h' pend (G ((i, h) :: past) pend v h' K))) fun v h' => chkPendE_lin b i past h (chkPend_lin b i h' (hG _ _ _ _) pend) pend
  · exact opA_bind o fr h (n + i) (G := fun v h' K => chkPendE T b i past h pend (chkPend T b i h' pend (G ((i, h) :: past) pend v h' K))) fun v h' => chkPendE_lin b i past h (chkPend_lin b i h' (hG _ _ _ _) pend) pend
theorem runSlot_lin (ops : List Oper) (b : List Nat) (n : Nat) : ∀ (l : List (Oper × Nat)) past pend (fr : Frame) (h : H), LinF fun k => runSlot S T ops b n l past pend k fr h
  | [], _, _, fr, h => Lin.ret (fr, h)
  | (o, i) :: os, past, pend, fr, h => by
    have ih := runSlot_lin ops b n os
    unfold runSlot
    cases hg : o.guard with
    | none => exact stepSlot_lin b n i o past pend fr h fun p q v h => ih p q _ h
    | some g =>
      obtain ⟨j, want⟩ := g
      simp only
      cases hd : dstOf ops j with
      | none => exact Lin.no
      | some d =>
        simp only
        cases hv : fr.getD d .undef with
        | bool c =>
          simp only
          cases c <;> cases want <;> simp only [cond_true, cond_false]
          · exact stepSlot_lin b n i o past pend _ h fun p q v h => ih p q _ h
          · exact ih _ _ _ h
          · exact ih _ _ _ h
          · exact stepSlot_lin b n i o past pend _ h fun p q v h => ih p q _ h
        | gone => exact ih _ _ _ h
        | _ => exact Lin.no
theorem drawK_lin (ops : List Oper) (fr : Frame) (h : H) : LinF fun k => drawK S T ops k fr h := by
  unfold drawK
  generalize okD ops (befs ops []) = c
  cases c
  · unfold slotK
    generalize okE ops (befs ops []) (late ops) = d
    cases d
    · generalize okE ops (befs ops []) (late2 ops (befs ops [])) = d
      cases d
      · exact Lin.no
      · exact runSlot_lin _ _ _ _ _ _ _ _
    · exact runSlot_lin _ _ _ _ _ _ _ _
  · exact runDraw_lin _ _ _ _ _ _ _
theorem toE {F : (Frame → H → Prop) → Prop} (hF : LinF F) : LinE fun k => F (k .normal) := Lin.map hF fun p => (Ex.normal, p.1, p.2)
theorem toEm {F : (Frame → H → Prop) → Prop} (hF : LinF F) (g : Frame → Frame) : LinE fun k => F (fun fr h => k .normal (g fr) h) := Lin.map hF fun p => (Ex.normal, g p.1, p.2)
theorem bindE {F : Kont → Prop} (hF : LinE F) {G : Kont → Kont} (hG : ∀ e fr h, LinE fun k => G k e fr h) : LinE fun k => F (G k) :=
  Lin.bind (F := fun (K : Ex × Frame × H → Prop) => F fun e fr h => K (e, fr, h)) (G := fun x K => G (fun e fr h => K (e, fr, h)) x.1 x.2.1 x.2.2) hF fun x => hG x.1 x.2.1 x.2.2
theorem retE (e : Ex) (fr : Frame) (h : H) : LinE fun k => k e fr h := Lin.ret (e, fr, h)
theorem cwp_lin : ∀ (c : Code) (m : List Nat) (fr : Frame) (h : H), LinE fun k => cwp S T M m c k fr h
  | .skip, m, fr, h => retE _ _ _
  | .region id ops d, m, fr, h => by
    cases d
    · exact toEm (runOps_lin _ _ _ _) _
    · have := toEm (drawK_lin (S := S) (T := T) ops.toList fr h) (maskR (M (1000 + id)))
      simp only [← drawH_eq S T (M (2000 + id))] at this
      exact this
  | .seq a b, m, fr, h => bindE (cwp_lin a m fr h) (G := fun k => kSeq (cwp S T M m b k) k) fun e fr h => by
    cases e
    · exact cwp_lin b m fr h
    · exact retE _ _ _
    · exact retE _ _ _
  | .cond c a b, m, fr, h => by
    unfold cwp
    cases ev fr c with
    | bool t => cases t; exact cwp_lin b m fr h; exact cwp_lin a m fr h
    | _ => exact Lin.no
  | .block id a, m, fr, h => bindE (cwp_lin a (M id) fr h) (G := fun k => kBlk id k) fun e fr h => by
    cases e with
    | normal => exact retE _ _ _
    | ret => exact retE _ _ _
    | exit j =>
      unfold kBlk
      simp only
      generalize (j == id) = c
      cases c <;> exact retE _ _ _
  | .loop a, m, fr, h => by
    refine Lin.exists_ fun n => ?_
    have key : ∀ n fr h, LinE fun k => iter (fun X fr h => cwp S T M m a (kSeq (fun fr h => X (mask m fr) h) k) fr h) n fr h := by
      intro n
      induction n with
      | zero => intro fr h; exact Lin.no
      | succ n ih =>
        intro fr h
        refine bindE (cwp_lin a m fr h) (G := fun k => kSeq (fun fr h => iter (fun X fr h => cwp S T M m a (kSeq (fun fr h => X (mask m fr) h) k) fr h) n (mask m fr) h) k) fun e fr h => ?_
        cases e
        · exact ih _ h
        · exact retE _ _ _
        · exact retE _ _ _
    exact key n _ h
  | .exit id, m, fr, h => retE _ _ _
  | .ret, m, fr, h => retE _ _ _
  | .rangeFunc _ _ _ _, m, fr, h => Lin.no
  | .scope _, m, fr, h => Lin.no
  | .label _, m, fr, h => Lin.no
  | .goto _, m, fr, h => Lin.no
  | .refuse _, m, fr, h => Lin.no
theorem resK_lin (fr : Frame) (h : H) : ∀ rs : List ResultVar, Lin fun K => resK T rs fr h K
  | [] => Lin.ret []
  | .tmp t :: l => Lin.map (resK_lin fr h l) fun vs => fr.getD t .undef :: vs
  | .cell a t :: l => by
    unfold resK
    cases fr.getD a .undef with
    | ptr p => exact Lin.bind (ldT_lin t p) fun v => Lin.map (resK_lin fr h l) fun vs => v :: vs
    | _ => exact Lin.no
theorem kFun_lin (rs : List ResultVar) (e : Ex) (fr : Frame) (h : H) : Lin fun (K : AVal × H → Prop) => kFun T rs (fun v h => K (v, h)) e fr h := by
  cases e
  · exact Lin.map (resK_lin fr h rs) fun vs => (one vs, h)
  · exact Lin.no
  · exact Lin.map (resK_lin fr h rs) fun vs => (one vs, h)
theorem fun_lin (c : Code) (m : List Nat) (rs : List ResultVar) (fr : Frame) (h : H) : Lin fun (K : AVal × H → Prop) => cwp S T M m c (kFun T rs fun v h => K (v, h)) fr h :=
  Lin.bind (F := fun (K : Ex × Frame × H → Prop) => cwp S T M m c (fun e fr h => K (e, fr, h)) fr h) (G := fun x K => kFun T rs (fun v h => K (v, h)) x.1 x.2.1 x.2.2) (cwp_lin c m fr h) fun x => kFun_lin rs x.1 x.2.1 x.2.2
/-- What the body of a function brings about, its calls bring about. -/
theorem Sat.ex (hT : TOK P T) (hmix : P.follows .mixedOrders = true) (M : Nat → List Nat) {f : Nat} {fn : Func} {c : Code} (hfn : P.funcs[f]? = some fn) (hb : fn.body = some c) (hcall : ∀ (a : Array Value) (w : World), (callFunc f a).run P w = .ok (.enter f a) w)
    {args : List AVal} {h : H} {K : AVal → H → Prop} (hH : cwp (Sat P) T M [] c (kFun T fn.results.toList K) (fr0 fn args) h) : ∃ v h2, Sat P f args h v h2 ∧ K v h2 := by
  have hl := fun_lin (S := Sat P) (T := T) (M := M) c [] fn.results.toList (fr0 fn args) h
  obtain ⟨⟨v, h2⟩, hk, hx⟩ := Lin.wit hl (K := fun p => K p.1 p.2) hH
  refine ⟨v, h2, Sat.body hT hmix M hfn hb hcall (Lin.mono hl (K := fun y => y = (v, h2)) (K' := fun p => ∀ μ' w', Rel μ' p.2 w' → ∀ x, VR μ' p.2 p.1 x → ∀ μ w, Tr μ h w μ' p.2 w' → ∃ μ2, Tr μ h w μ2 h2 w' ∧ VR μ2 h2 v x) ?_ hx), hk⟩
  rintro _ rfl μ' w' r x hx μ w t
  exact ⟨μ', t, hx⟩
theorem calls_of {f : Nat} {fn : Func} {c : Code} (hfn : P.funcs[f]? = some fn) (hb : fn.body = some c) (hn : (fn.name == "runtime.NumGoroutine") = false) (a : Array Value) (w : World) : (callFunc f a).run P w = .ok (.enter f a) w := by
  unfold callFunc
  rw [Sem.run_bind, show Sem.run P program w = .ok P w from rfl]
  simp only [Result.andThen_ok]
  rw [hfn]
  simp only [hn, hb, Option.isNone_some]
  rfl
theorem loop_rule {σ : Type} {F : (Frame → H → Prop) → Frame → H → Prop} (enc : σ → Frame) (I : σ → H → Prop) (m : σ → H → Nat)
    (hs : ∀ X s h, I s h → (∀ s' h', I s' h' → m s' h' < m s h → X (enc s') h') → F X (enc s) h) (s : σ) {h : H} (h0 : I s h) : loopK F (enc s) h := by
  refine ⟨m s h + 1, ?_⟩
  have key : ∀ n s h, m s h < n → I s h → iter F n (enc s) h := by
    intro n
    induction n with
    | zero => intro s h hm; omega
    | succ n ih =>
      intro s h hm hi
      exact hs _ s h hi fun s' h' hi' hm' => ih s' h' (by omega) hi'
  exact key _ s h (by omega) h0
theorem loop_unroll {m m2 : List Nat} {c : Code} {k : Kont} {fr : Frame} {h : H}
    (hb : cwp S T M m c (kSeq (fun fr h => loopK (fun X fr h => cwp S T M m c (kSeq (fun fr h => X (mask m2 fr) h) k) fr h) (mask m2 fr) h) k) fr h) :
    loopK (fun X fr h => cwp S T M m c (kSeq (fun fr h => X (mask m2 fr) h) k) fr h) fr h := by
  obtain ⟨R, hR⟩ := cwp_lin (S := S) (T := T) (M := M) c m fr h
  obtain ⟨⟨e, fr', h'⟩, h1, h2⟩ := (hR fun x => kSeq _ k x.1 x.2.1 x.2.2).1 hb
  cases e with
  | normal =>
    obtain ⟨n, h2⟩ := h2
    exact ⟨n + 1, (hR fun x => kSeq _ k x.1 x.2.1 x.2.2).2 ⟨(.normal, fr', h'), h1, h2⟩⟩
  | exit i => exact ⟨1, (hR fun x => kSeq _ k x.1 x.2.1 x.2.2).2 ⟨(.exit i, fr', h'), h1, h2⟩⟩
  | ret => exact ⟨1, (hR fun x => kSeq _ k x.1 x.2.1 x.2.2).2 ⟨(.ret, fr', h'), h1, h2⟩⟩
end
/-! ### links in steps -/
section
variable {S : SatT} {T : Tab} {M : Nat → List Nat} {m : List Nat} {c : Code} {k : Kont} {fr : Frame} {h : H}
theorem cwp_sp_skip (e : c = .skip) : cwp S T M m c k fr h = k .normal fr h := by subst e; rfl
theorem cwp_sp_seq {a b : Code} (e : c = .seq a b) : cwp S T M m c k fr h = cwp S T M m a (kSeq (cwp S T M m b k) k) fr h := by subst e; rfl
theorem cwp_sp_cond {x : Operand} {a b : Code} (e : c = .cond x a b) {t : Bool} (he : ev fr x = .bool t) : cwp S T M m c k fr h = (bif t then cwp S T M m a k fr h else cwp S T M m b k fr h) := by
  subst e
  show (match ev fr x with | .bool t => bif t then cwp S T M m a k fr h else cwp S T M m b k fr h | _ => False) = _
  rw [he]
theorem cwp_sp_block {id : Nat} {a : Code} (e : c = .block id a) : cwp S T M m c k fr h = cwp S T M (M id) a (kBlk id k) fr h := by subst e; rfl
theorem cwp_sp_exit {id : Nat} (e : c = .exit id) : cwp S T M m c k fr h = k (.exit id) fr h := by subst e; rfl
theorem cwp_sp_ret (e : c = .ret) : cwp S T M m c k fr h = k .ret fr h := by subst e; rfl
theorem kSeq_n (n : Frame → H → Prop) (k : Kont) (fr : Frame) (h : H) : kSeq n k .normal fr h = n fr h := rfl
theorem kSeq_e (n : Frame → H → Prop) (k : Kont) (i : Nat) (fr : Frame) (h : H) : kSeq n k (.exit i) fr h = k (.exit i) fr h := rfl
theorem kSeq_r (n : Frame → H → Prop) (k : Kont) (fr : Frame) (h : H) : kSeq n k .ret fr h = k .ret fr h := rfl
theorem kBlk_n (i : Nat) (k : Kont) (fr : Frame) (h : H) : kBlk i k .normal fr h = k .normal fr h := rfl
theorem kBlk_r (i : Nat) (k : Kont) (fr : Frame) (h : H) : kBlk i k .ret fr h = k .ret fr h := rfl
theorem kBlk_e (i : Nat) (k : Kont) (fr : Frame) (h : H) : kBlk i k (.exit i) fr h = k .normal fr h := by simp [kBlk]
theorem bif_cong {t : Bool} {a b a' b' : Prop} (e1 : a = a') (e2 : b = b') : (bif t then a else b) = (bif t then a' else b') := by rw [e1, e2]
end
end Go.Proofs.Ytgeakkmpohjohaa.Cl

/- The clean machine: heaps that grow, views that are read and owned. No claim is stated here. -/
set_option linter.unusedVariables false
set_option linter.unusedSimpArgs false
namespace Go.Proofs.Ytgeakkmpohjohaa.Cl
open Go
/-! ### lists -/
theorem get_app {α : Type} (h l : List α) (i : Nat) : (h ++ l)[h.length + i]? = l[i]? := by
  rw [List.getElem?_append_right (by omega)]; congr 1; omega
theorem get_app0 {α : Type} (h l : List α) : (h ++ l)[h.length]? = l[0]? := get_app h l 0
theorem set_app {α : Type} (h l : List α) (i : Nat) (x : α) : (h ++ l).set (h.length + i) x = h ++ l.set i x := by
  rw [List.set_append_right _ _ (by omega)]; congr 2; omega
theorem set_app0 {α : Type} (h l : List α) (x : α) : (h ++ l).set h.length x = h ++ l.set 0 x := set_app h l 0 x
theorem get_lt {α : Type} {h : List α} (l : List α) {o : Nat} (ho : o < h.length) : (h ++ l)[o]? = h[o]? := List.getElem?_append_left ho
/-! ### heaps that grow -/
def Ext (h h' : H) : Prop := ∃ l, h' = h ++ l
theorem Ext.refl (h : H) : Ext h h := ⟨[], by simp⟩
theorem Ext.app (h l : H) : Ext h (h ++ l) := ⟨l, rfl⟩
theorem Ext.trans {a b c : H} (x : Ext a b) (y : Ext b c) : Ext a c := by
  obtain ⟨l, rfl⟩ := x
  obtain ⟨m, rfl⟩ := y
  exact ⟨l ++ m, by simp⟩
theorem Ext.len {a b : H} (x : Ext a b) : a.length ≤ b.length := by obtain ⟨l, rfl⟩ := x; simp
theorem Ext.get {a b : H} (x : Ext a b) {o : Nat} (ho : o < a.length) : b[o]? = a[o]? := by obtain ⟨l, rfl⟩ := x; exact get_lt l ho
theorem Ext.of {a b : H} (hl : a.length ≤ b.length) (hg : ∀ o, o < a.length → b[o]? = a[o]?) : Ext a b := by
  refine ⟨b.drop a.length, ?_⟩
  apply List.ext_getElem?
  intro i
  by_cases hi : i < a.length
  · rw [hg i hi, List.getElem?_append_left hi]
  · rw [List.getElem?_append_right (by omega), List.getElem?_drop]
    congr 1; omega
theorem cells_lt {h : H} {o n : Nat} {cs : List AVal} (e : cells h o n = some cs) : o < h.length := by
  unfold cells at e
  by_cases ho : o < h.length
  · exact ho
  · rw [List.getElem?_eq_none (by omega)] at e; cases e
theorem cells_app {h : H} {o n : Nat} {cs : List AVal} (l : H) (e : cells h o n = some cs) : cells (h ++ l) o n = some cs := by
  have := cells_lt e
  unfold cells at e ⊢
  rw [get_lt l this]; exact e
theorem range_app {h : H} {o : Option Nat} {n off k : Nat} {cs : List AVal} (l : H) (e : range h o n off k = some cs) : range (h ++ l) o n off k = some cs := by
  unfold range at e ⊢
  cases o with
  | none => exact e
  | some o =>
    simp only at e ⊢
    cases hc : cells h o n with
    | none => rw [hc] at e; cases e
    | some x => rw [hc] at e; rw [cells_app l hc]; exact e
theorem cell_app {h : H} {p : Pt} {v : AVal} (l : H) (e : cell h p = some v) : cell (h ++ l) p = some v := by
  unfold cell at e ⊢
  cases ho : p.o with
  | none => rw [ho] at e; exact e
  | some o =>
    rw [ho] at e
    simp only at e ⊢
    cases hc : cells h o p.n with
    | none => rw [hc] at e; cases e
    | some x => rw [hc] at e; rw [cells_app l hc]; exact e
theorem Ext.range {a b : H} (x : Ext a b) {o n off k cs} (e : range a o n off k = some cs) : range b o n off k = some cs := by obtain ⟨l, rfl⟩ := x; exact range_app l e
theorem Ext.cell {a b : H} (x : Ext a b) {p v} (e : cell a p = some v) : cell b p = some v := by obtain ⟨l, rfl⟩ := x; exact cell_app l e
theorem Ext.own {a b : H} (x : Ext a b) {o : Nat} {v : AObj} (e : a[o]? = some v) : b[o]? = some v := by
  have : o < a.length := (List.getElem?_eq_some_iff.1 e).1
  rw [x.get this, e]
/-! ### calls -/
section
variable {S : SatT}
theorem callV.to {f args h} {K K' : AVal → H → Prop} (x : callV S f args h K) (hk : ∀ v h', K v h' → K' v h') : callV S f args h K' := by
  obtain ⟨v, h', a, b⟩ := x; exact ⟨v, h', a, hk v h' b⟩
theorem callI.to {k f args h} {K K' : Int → H → Prop} (x : callI S k f args h K) (hk : ∀ v h', K v h' → K' v h') : callI S k f args h K' := by
  obtain ⟨v, h', a, b⟩ := x; exact ⟨v, h', a, hk v h' b⟩
theorem callB.to {f args h} {K K' : Bool → H → Prop} (x : callB S f args h K) (hk : ∀ v h', K v h' → K' v h') : callB S f args h K' := by
  obtain ⟨v, h', a, b⟩ := x; exact ⟨v, h', a, hk v h' b⟩
theorem callS.to {f args h} {K K' : Sl → H → Prop} (x : callS S f args h K) (hk : ∀ v h', K v h' → K' v h') : callS S f args h K' := by
  obtain ⟨v, h', a, b⟩ := x; exact ⟨v, h', a, hk v h' b⟩
theorem callP.to {f args h} {K K' : Pt → H → Prop} (x : callP S f args h K) (hk : ∀ v h', K v h' → K' v h') : callP S f args h K' := by
  obtain ⟨v, h', a, b⟩ := x; exact ⟨v, h', a, hk v h' b⟩
theorem callA.to {f args h} {K K' : List AVal → H → Prop} (x : callA S f args h K) (hk : ∀ v h', K v h' → K' v h') : callA S f args h K' := by
  obtain ⟨v, h', a, b⟩ := x; exact ⟨v, h', a, hk v h' b⟩
theorem via_func {f : Nat} {cap args : List AVal} {K : Nat → List AVal → Prop} (hk : K f (args ++ cap)) : viaF (.func f cap) args K := ⟨f, cap, rfl, hk⟩
end
/-! ### numbers -/
theorem w64_of {n : Int} (h1 : -9223372036854775808 ≤ n) (h2 : n < 9223372036854775808) : w64 n = n := by
  unfold w64 IntKind.wrap
  simp [IntKind.bits, IntKind.signed] <;> omega
def ic (l : List Int) : List AVal := l.map i64
theorem ic_len (l : List Int) : (ic l).length = l.length := by simp [ic]
theorem ic_app (l m : List Int) : ic (l ++ m) = ic l ++ ic m := by simp [ic]
theorem ic_nil : ic [] = [] := rfl
theorem ic_cons (a : Int) (l : List Int) : ic (a :: l) = i64 a :: ic l := rfl
theorem ic_inj {l m : List Int} (h : ic l = ic m) : l = m := by
  unfold ic at h
  exact List.map_inj_right (fun a b e => by simpa [i64] using e) |>.1 h
theorem ints_ic : ∀ l : List Int, ints .i64 (ic l) = some l
  | [] => rfl
  | a :: l => by simp [ic_cons, i64, ints, ints_ic l]
/-! ### views that are read -/
/-- The view s reads the cells cs, z cells an element. -/
structure Rd (h : H) (s : Sl) (z : Nat) (cs : List AVal) : Prop where
  len : cs.length = s.len * z
  at_ : s.len = 0 ∨ (s.sz = z ∧ s.o.isSome = true ∧ range h s.o s.n s.off (s.len * z) = some cs)
theorem Rd.nil (h : H) (z : Nat) : Rd h Sl.nil z [] := ⟨by simp [Sl.nil], .inl rfl⟩
theorem Rd.empty {h : H} {s : Sl} (z : Nat) (e : s.len = 0) : Rd h s z [] := ⟨by simp [e], .inl e⟩
theorem Rd.ext {h h' : H} {s z cs} (r : Rd h s z cs) (x : Ext h h') : Rd h' s z cs :=
  ⟨r.len, r.at_.imp id fun ⟨a, b, c⟩ => ⟨a, b, x.range c⟩⟩
theorem range_some {h : H} {o : Option Nat} {n off k : Nat} {cs : List AVal} (e : range h o n off k = some cs) : ∃ o' xs, o = some o' ∧ cells h o' n = some xs ∧ off + k ≤ xs.length ∧ cs = (xs.drop off).take k := by
  unfold range at e
  cases o with
  | none => cases e
  | some o =>
    simp only at e
    cases hc : cells h o n with
    | none => rw [hc] at e; cases e
    | some xs =>
      rw [hc] at e
      simp only [Option.bind_some] at e
      split at e
      · next hl => cases e; exact ⟨o, xs, rfl, hc, hl, rfl⟩
      · cases e
theorem range_of {h : H} {o n off k : Nat} {xs : List AVal} (e : cells h o n = some xs) (hl : off + k ≤ xs.length) : range h (some o) n off k = some ((xs.drop off).take k) := by
  unfold range
  simp [e, hl]
theorem range_len {h : H} {o : Option Nat} {n off k : Nat} {cs : List AVal} (e : range h o n off k = some cs) : cs.length = k := by
  obtain ⟨o, xs, rfl, _, hl, rfl⟩ := range_some e
  simp; omega
theorem range_sub {h : H} {o : Option Nat} {n off k : Nat} {cs : List AVal} (e : range h o n off k = some cs) {a b : Nat} (hab : a + b ≤ k) : range h o n (off + a) b = some ((cs.drop a).take b) := by
  obtain ⟨o, xs, rfl, hc, hl, rfl⟩ := range_some e
  rw [range_of hc (by omega)]
  congr 1
  rw [List.drop_take, List.drop_drop, List.take_take]
  congr 1
  omega
theorem cell_of_range {h : H} {o : Option Nat} {n off k : Nat} {cs : List AVal} (e : range h o n off k = some cs) {i : Nat} (hi : i < k) : cell h ⟨o, n, off + i⟩ = cs[i]? := by
  obtain ⟨o, xs, rfl, hc, hl, rfl⟩ := range_some e
  unfold cell
  simp [hc, List.getElem?_take, hi, List.getElem?_drop]
/-- An element that is several cells is read. -/
theorem Rd.ldA {h : H} {s : Sl} {z : Nat} {cs : List AVal} (r : Rd h s z cs) {i : Int} (h0 : 0 ≤ i) (h1 : i < s.len) {K : List AVal → Prop} (hk : K ((cs.drop (i.toNat * z)).take z)) : ixS s z i fun p => ldA p z h K := by
  obtain hl | ⟨a, b, c⟩ := r.at_
  · omega
  · refine ⟨⟨h0, h1⟩, a, b, ?_⟩
    refine ⟨_, range_sub c ?_, hk⟩
    have : (i.toNat + 1) * z ≤ s.len * z := Nat.mul_le_mul_right _ (by omega)
    rw [Nat.add_mul] at this; omega
/-- The place of an element, with what is read there. -/
theorem Rd.ix {h : H} {s : Sl} {z : Nat} {cs : List AVal} (r : Rd h s z cs) {i : Int} (h0 : 0 ≤ i) (h1 : i < s.len) {K : Pt → Prop}
    (hk : ∀ p : Pt, p.o.isSome = true → range h p.o p.n p.off z = some ((cs.drop (i.toNat * z)).take z) → K p) : ixS s z i K := by
  obtain hl | ⟨a, b, c⟩ := r.at_
  · omega
  · refine ⟨⟨h0, h1⟩, a, b, hk ⟨s.o, s.n, s.off + i.toNat * z⟩ b ?_⟩
    refine range_sub c ?_
    have : (i.toNat + 1) * z ≤ s.len * z := Nat.mul_le_mul_right _ (by omega)
    rw [Nat.add_mul] at this; omega
theorem Rd.ldI {h : H} {s : Sl} {l : List Int} (r : Rd h s 1 (ic l)) {i : Int} (h0 : 0 ≤ i) (h1 : i < l.length) {K : Int → Prop} (hk : ∀ x, l[i.toNat]? = some x → K x) : ixS s 1 i fun p => ldI .i64 p h K := by
  have hlen : l.length = s.len := by have := r.len; rw [ic_len] at this; omega
  have hx : l[i.toNat]? = some l[i.toNat] := List.getElem?_eq_getElem (by omega)
  obtain hl | ⟨a, b, c⟩ := r.at_
  · omega
  · refine ⟨⟨h0, by omega⟩, a, b, l[i.toNat], ?_, hk _ hx⟩
    have := cell_of_range c (i := i.toNat) (by omega)
    rw [Nat.mul_one, this]
    unfold ic
    rw [List.getElem?_map, hx]
    rfl
theorem Rd.ldS {h : H} {s : Sl} {l : List Sl} (r : Rd h s 1 (l.map .sl)) {i : Int} (h0 : 0 ≤ i) (h1 : i < l.length) {K : Sl → Prop} (hk : ∀ x, l[i.toNat]? = some x → K x) : ixS s 1 i fun p => ldS p h K := by
  have hlen : l.length = s.len := by have := r.len; simp at this; omega
  have hx : l[i.toNat]? = some l[i.toNat] := List.getElem?_eq_getElem (by omega)
  obtain hl | ⟨a, b, c⟩ := r.at_
  · omega
  · refine ⟨⟨h0, by omega⟩, a, b, l[i.toNat], ?_, hk _ hx⟩
    have := cell_of_range c (i := i.toNat) (by omega)
    rw [Nat.mul_one, this, List.getElem?_map, hx]
    rfl
theorem Rd.ldB {h : H} {s : Sl} {l : List Bool} (r : Rd h s 1 (l.map .bool)) {i : Int} (h0 : 0 ≤ i) (h1 : i < l.length) {K : Bool → Prop} (hk : ∀ x, l[i.toNat]? = some x → K x) : ixS s 1 i fun p => ldB p h K := by
  have hlen : l.length = s.len := by have := r.len; simp at this; omega
  have hx : l[i.toNat]? = some l[i.toNat] := List.getElem?_eq_getElem (by omega)
  obtain hl | ⟨a, b, c⟩ := r.at_
  · omega
  · refine ⟨⟨h0, by omega⟩, a, b, l[i.toNat], ?_, hk _ hx⟩
    have := cell_of_range c (i := i.toNat) (by omega)
    rw [Nat.mul_one, this, List.getElem?_map, hx]
    rfl
theorem Rd.sread {h : H} {s : Sl} {z : Nat} {cs : List AVal} (r : Rd h s z cs) (hz : 0 < z) : sread h s = some cs := by
  unfold Cl.sread
  obtain hl | ⟨a, b, c⟩ := r.at_
  · have := r.len
    rw [hl, Nat.zero_mul, List.length_eq_zero_iff] at this
    simp [hl, this]
  · rw [a]
    split
    · next e =>
      have := r.len
      rw [e, List.length_eq_zero_iff] at this
      rw [this]
    · exact c
/-! ### views that are owned whole -/
/-- The view s is the whole of an own object that begins with the view's first cell (or of none). -/
structure Ow (h : H) (s : Sl) (z : Nat) (cs : List AVal) : Prop where
  len : cs.length = s.len * z
  at_ : (s.o = none ∧ s.len = 0) ∨ (∃ o, s.o = some o ∧ s.sz = z ∧ s.off = 0 ∧ s.n = s.len * z ∧ h[o]? = some (.own cs))
theorem Ow.nil (h : H) (z : Nat) : Ow h Sl.nil z [] := ⟨by simp [Sl.nil], .inl ⟨rfl, rfl⟩⟩
theorem Ow.rd {h s z cs} (r : Ow h s z cs) : Rd h s z cs := by
  refine ⟨r.len, ?_⟩
  obtain ⟨a, b⟩ | ⟨o, a, b, c, d, e⟩ := r.at_
  · exact .inl b
  · refine .inr ⟨b, by simp [a], ?_⟩
    rw [a, range_of (xs := cs) (by unfold cells; simp [e, d, r.len]) (by rw [r.len]; omega), c]
    rw [List.drop_zero, ← r.len, List.take_length]
theorem Ow.ext {h h' : H} {s z cs} (r : Ow h s z cs) (x : Ext h h') : Ow h' s z cs :=
  ⟨r.len, r.at_.imp id fun ⟨o, a, b, c, d, e⟩ => ⟨o, a, b, c, d, x.own e⟩⟩
/-- h' is h but for the object o, and for what is new. -/
def But (o : Option Nat) (h h' : H) : Prop := h.length ≤ h'.length ∧ ∀ i, i < h.length → o ≠ some i → h'[i]? = h[i]?
theorem But.refl (o h) : But o h h := ⟨Nat.le_refl _, fun _ _ _ => rfl⟩
theorem Ext.but {h h' : H} (x : Ext h h') (o) : But o h h' := ⟨x.len, fun i hi _ => x.get hi⟩
theorem But.ext {h h' : H} {o} (b : But o h h') (hn : ∀ i, o = some i → h.length ≤ i) : Ext h h' :=
  Ext.of b.1 fun i hi => b.2 i hi fun e => by have := hn i e; omega
theorem But.get {h h' : H} {o : Option Nat} (b : But o h h') {i : Nat} {v : AObj} (e : h[i]? = some v) (hn : o ≠ some i) : h'[i]? = some v := by
  rw [b.2 i (List.getElem?_eq_some_iff.1 e).1 hn, e]
/-- append to a view that is owned whole -/
theorem app_ow {h : H} {s x : Sl} {z : Nat} {cs xs : List AVal} (hz : 0 < z) (r : Ow h s z cs) (y : Rd h x z xs) (hl : ((s.len + x.len : Nat) : Int) ≤ lim) {K : Sl → H → Prop}
    (hk : ∀ s' h', Ow h' s' z (cs ++ xs) → s'.len = s.len + x.len → But s.o h h' → (∀ o, s.o = some o → s'.o = some o) → (s.o = none → ∀ o, s'.o = some o → h.length ≤ o) → K s' h') : app s x z h K := by
  have hsr := y.sread hz
  have hxz : x.len ≠ 0 → x.sz = z := fun hx => by
    obtain a | ⟨a, _⟩ := y.at_
    · exact absurd a hx
    · exact a
  by_cases h0 : x.len = 0
  · have hxs : xs = [] := by have := y.len; rw [h0, Nat.zero_mul, List.length_eq_zero_iff] at this; exact this
    subst hxs
    exact ⟨_, s, h, hsr, hxz, hl, .zero h0, hk s h (by simpa using r) (by omega) (But.refl _ _) (fun o e => e) (fun e o e2 => by rw [e] at e2; cases e2)⟩
  · have hpos : 0 < x.len := by omega
    obtain ⟨a, b⟩ | ⟨o, a, b, c, d, e⟩ := r.at_
    · have hcs : cs = [] := by have := r.len; rw [b, Nat.zero_mul, List.length_eq_zero_iff] at this; exact this
      subst hcs
      refine ⟨_, _, _, hsr, hxz, hl, .fresh a hpos, hk _ _ ⟨by simpa using y.len, .inr ⟨h.length, rfl, rfl, rfl, rfl, by simp⟩⟩ (by simp [b]) ⟨by simp, fun i hi _ => get_lt _ hi⟩ (fun o e => by rw [a] at e; cases e) (fun _ o e => by injection e with e; omega)⟩
    · have ho : o < h.length := (List.getElem?_eq_some_iff.1 e).1
      refine ⟨_, _, _, hsr, hxz, hl, .grows (o := o) (cs := cs) hpos b a c d.symm (by unfold owned; simp [e, d, r.len]), hk _ _ ⟨by simp [r.len, y.len, Nat.add_mul], .inr ⟨o, rfl, rfl, rfl, by simp [d, Nat.add_mul], by simp [List.getElem?_set, ho]⟩⟩ rfl ⟨by simp, fun i hi hne => ?_⟩ (fun o e => by rw [a] at e; exact e) (fun e => by rw [a] at e; cases e)⟩
      rw [List.getElem?_set, if_neg (fun e2 => hne (by rw [a, e2]))]
/-- a new slice of known cells -/
theorem newS_ow {h : H} {n z : Nat} {cs : List AVal} (hc : cs.length = n * z) {K : Sl → H → Prop} (hk : ∀ s' h', Ow h' s' z cs → s'.len = n → s'.o = some h.length → h' = h ++ [.own cs] → K s' h') : newS n z cs h K :=
  hk _ _ ⟨hc, .inr ⟨h.length, rfl, rfl, rfl, rfl, by simp⟩⟩ rfl rfl rfl
theorem mkS_ow {h : H} {n : Int} {z : List AVal} (h0 : 0 ≤ n) (h1 : n ≤ lim) {K : Sl → H → Prop} (hk : ∀ s' h', Ow h' s' z.length (List.replicate n.toNat z).flatten → s'.len = n.toNat → s'.o = some h.length → h' = h ++ [.own (List.replicate n.toNat z).flatten] → K s' h') : mkS n z h K :=
  ⟨⟨h0, h1⟩, hk _ _ ⟨by simp, .inr ⟨h.length, rfl, rfl, rfl, by simp, by simp⟩⟩ rfl rfl rfl⟩
/-! ### branches -/
theorem bif_dec {p : Prop} [Decidable p] {a b : Prop} (h1 : p → a) (h2 : ¬ p → b) : bif decide p then a else b := by
  by_cases hp : p
  · rw [decide_eq_true hp]; exact h1 hp
  · rw [decide_eq_false hp]; exact h2 hp
theorem bif_b {c : Bool} {a b : Prop} (h1 : c = true → a) (h2 : c = false → b) : bif c then a else b := by
  cases c
  · exact h2 rfl
  · exact h1 rfl
theorem bif_not {c : Bool} {a b : Prop} (h1 : c = false → a) (h2 : c = true → b) : bif !c then a else b := by
  cases c
  · exact h1 rfl
  · exact h2 rfl
theorem bif_ne {x y : Int} {a b : Prop} (h1 : x ≠ y → a) (h2 : x = y → b) : bif x != y then a else b := by
  by_cases hp : x = y
  · rw [show (x != y) = false by simp [hp]]; exact h2 hp
  · rw [show (x != y) = true by simp [hp]]; exact h1 hp
theorem bif_eq {x y : Int} {a b : Prop} (h1 : x = y → a) (h2 : x ≠ y → b) : bif x == y then a else b := by
  by_cases hp : x = y
  · rw [show (x == y) = true by simp [hp]]; exact h1 hp
  · rw [show (x == y) = false by simp [hp]]; exact h2 hp
/-! ### changes -/
theorem But.trans {o : Option Nat} {a b c : H} (x : But o a b) (y : But o b c) : But o a c :=
  ⟨Nat.le_trans x.1 y.1, fun i hi hn => by rw [y.2 i (by have := x.1; omega) hn, x.2 i hi hn]⟩
theorem Ext.but_ {h a b : H} {o : Option Nat} (x : Ext h a) (y : But o a b) (hn : ∀ i, o = some i → h.length ≤ i) : Ext h b :=
  Ext.of (Nat.le_trans x.len y.1) fun i hi => by
    rw [y.2 i (by have := x.len; omega) (fun e => by have := hn i e; omega), x.get hi]
theorem some_le {n i : Nat} (hn : n ≤ i) : ∀ j, some i = some j → n ≤ j := fun j e => by cases e; exact hn
theorem But.range {o' : Option Nat} {h h' : H} (b : But o' h h') {o n off k cs} (e : range h o n off k = some cs) (hn : o' ≠ o) : range h' o n off k = some cs := by
  obtain ⟨i, xs, rfl, hc, hl, rfl⟩ := range_some e
  refine range_of ?_ hl
  have := cells_lt hc
  unfold Cl.cells at hc ⊢
  rw [b.2 i this hn]; exact hc
theorem Rd.but {o : Option Nat} {h h' : H} {s z cs} (r : Rd h s z cs) (b : But o h h') (hn : o ≠ s.o ∨ o = none) : Rd h' s z cs := by
  refine ⟨r.len, r.at_.imp id fun ⟨x, y, e⟩ => ⟨x, y, ?_⟩⟩
  obtain hn | rfl := hn
  · exact b.range e hn
  · exact b.range e (fun e => by rw [← e] at y; cases y)
theorem Ow.but {o : Option Nat} {h h' : H} {s z cs} (r : Ow h s z cs) (b : But o h h') (hn : o ≠ s.o ∨ o = none) : Ow h' s z cs := by
  refine ⟨r.len, r.at_.imp id fun ⟨i, a, x, c, d, e⟩ => ⟨i, a, x, c, d, b.get e fun e2 => ?_⟩⟩
  obtain hn | rfl := hn
  · exact hn (by rw [e2, a])
  · cases e2
/-- The view's object, if there is one, is none of the first n. -/
def Fr (n : Nat) (s : Sl) : Prop := ∀ o, s.o = some o → n ≤ o
theorem Fr.le {n m : Nat} {s : Sl} (f : Fr n s) (h : m ≤ n) : Fr m s := fun o e => Nat.le_trans h (f o e)
theorem Fr.nil (n) : Fr n Sl.nil := fun o e => by cases e
theorem Ow.lt {h s z cs} (r : Ow h s z cs) {o : Nat} (e : s.o = some o) : o < h.length := by
  obtain ⟨a, _⟩ | ⟨i, a, _, _, _, x⟩ := r.at_
  · rw [a] at e; cases e
  · rw [a] at e; cases e; exact (List.getElem?_eq_some_iff.1 x).1
theorem ld_own {h : H} {o : Nat} {cs : List AVal} (e : h[o]? = some (.own cs)) {k : Nat} (hk : cs.length = k) {K : List AVal → Prop} (x : K cs) : ldA ⟨some o, k, 0⟩ k h K := by
  subst hk
  exact ⟨cs, by rw [range_of (xs := cs) (by unfold cells; simp [e]) (by simp)]; simp, x⟩
theorem st_own {h : H} {o : Nat} {cs vs : List AVal} (e : h[o]? = some (.own cs)) {k : Nat} (hk : cs.length = k) (hv : vs.length = k) {K : H → Prop} (x : But (some o) h (h.set o (.own vs)) → (h.set o (.own vs))[o]? = some (.own vs) → K (h.set o (.own vs))) : stN ⟨some o, k, 0⟩ k vs h K := by
  have ho : o < h.length := (List.getElem?_eq_some_iff.1 e).1
  refine ⟨_, hv, ?_, x ⟨by simp, fun i hi hn => by rw [List.getElem?_set, if_neg (fun e => hn (by rw [e]))]⟩ (by simp [List.getElem?_set, ho])⟩
  unfold putN owned splice
  subst hk
  simp [e, hv]
theorem ixA_ldI {h : H} {o n len : Nat} {cs : List AVal} {i : Int} {x : Int} (e : h[o]? = some (.own cs)) (hn : cs.length = n) (h0 : 0 ≤ i) (h1 : i < len) (hx : cs[i.toNat]? = some (i64 x)) {K : Int → Prop} (k : K x) : ixA ⟨some o, n, 0⟩ len 1 i fun p => ldI .i64 p h K := by
  refine ⟨⟨h0, h1⟩, rfl, x, ?_, k⟩
  unfold cell Pt.add cells
  simp [e, hn, hx, i64]
theorem ic_at {l : List Int} {i : Nat} {x : Int} (e : l[i]? = some x) : (ic l)[i]? = some (i64 x) := by unfold ic; rw [List.getElem?_map, e]; rfl
end Go.Proofs.Ytgeakkmpohjohaa.Cl
