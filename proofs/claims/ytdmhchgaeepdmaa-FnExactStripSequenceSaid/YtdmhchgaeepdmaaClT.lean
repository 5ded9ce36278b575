/- The clean machine: a region whose order is drawn, with allocations in any order. No claim is stated here. -/
import Derived.Test.YtdmhchgaeepdmaaClS
set_option linter.unusedVariables false
set_option linter.unusedSimpArgs false
namespace Go.Proofs.Ytdmhchgaeepdmaa.Cl
open Go
section
variable {P : Program} {T : Tab} {S : SatT} {ops : List Oper} {n k : Nat}
theorem alloc_mut {o : Op} (h : isAlloc o = true) : isMut o = true := by cases o <;> first | rfl | (simp [isAlloc] at h)
/-- An operation, an allocation at the place of its own. -/
def opX (S : SatT) (T : Tab) (n i : Nat) (o : Oper) (fr : Frame) (h : H) (K : AVal → H → Prop) : Prop :=
  bif isAlloc o.op then opA S T o fr h (n + i) K else opK S T o fr h K
inductive ValX (S : SatT) (T : Tab) (ops : List Oper) (n : Nat) : Frame → H → List Stp → Frame → H → Prop where
  | nil {fr h} : ValX S T ops n fr h [] fr h
  | cons {fr h st l fr2 h2} : st.h = h → agree ops st.o fr st.fr → (st.ex = true → gOK ops st.fr st.o ∧ opX S T n st.i st.o st.fr st.h fun v h => v = st.v ∧ h = st.h') →
      (st.ex = false → gNo ops st.fr st.o ∧ st.v = .gone ∧ st.h' = st.h) → ValX S T ops n (put fr st.o.dst st.v) st.h' l fr2 h2 → ValX S T ops n fr h (st :: l) fr2 h2
/-- Places that may be filled under a step. -/
def Room (n k i : Nat) (h : H) (F : Fil) : Prop := ∀ o cs, F o = some cs → n ≤ o ∧ o < n + k ∧ o ≠ n + i ∧ h[o]? = some .dead
structure Good (S : SatT) (T : Tab) (n k : Nat) (a : Stp) : Prop where
  fil : a.chg → ∀ F, Room n k a.i a.h F → opX S T n a.i a.o a.fr (fill F a.h) fun v h2 => v = a.v ∧ h2 = fill F a.h'
  ded : a.chg → ∀ o, n ≤ o → o < n + k → a.h'[o]? = some .dead → a.h[o]? = some .dead
  own : a.ex = true → isAlloc a.o.op = true → a.i < k ∧ a.h[n + a.i]? = some .dead
structure SimX (n k : Nat) (a b : Stp) : Prop where
  i : a.i = b.i
  o : a.o = b.o
  fr : a.fr = b.fr
  ex : a.ex = b.ex
  v : a.v = b.v
  chg : a.chg → ∃ F, Room n k a.i a.h F ∧ b.h = fill F a.h ∧ b.h' = fill F a.h'
theorem SimX.refl (a : Stp) : SimX n k a a := ⟨rfl, rfl, rfl, rfl, rfl, fun _ => ⟨fun _ => none, (fun o cs e => by cases e), (fill_none _).symm, (fill_none _).symm⟩⟩
theorem Sim.x {a b : Stp} (s : Sim a b) : SimX n k a b := ⟨s.i, s.o, s.fr, s.ex, s.v, fun c => ⟨fun _ => none, (fun o cs e => by cases e), by rw [fill_none]; exact (s.chg c).1.symm, by rw [fill_none]; exact (s.chg c).2.symm⟩⟩
theorem fill_dead {F : Fil} {h : H} {o : Nat} (e : (fill F h)[o]? = some .dead) : h[o]? = some .dead ∧ F o = none := by
  rw [fill_get] at e
  cases hx : h[o]? with
  | none => rw [hx] at e; cases e
  | some x =>
    rw [hx] at e
    simp only [Option.map_some, Option.some.injEq] at e
    cases x <;> cases hf : F o <;> simp_all [fillO]
theorem dead_fill {F : Fil} {h : H} {o : Nat} (e : h[o]? = some .dead) (hf : F o = none) : (fill F h)[o]? = some .dead := by
  rw [fill_get, e, Option.map_some, hf]; rfl
theorem SimX.chg_iff {a b : Stp} (s : SimX n k a b) : a.chg ↔ b.chg := by unfold Stp.chg; rw [s.ex, s.o]
theorem Room.none_at {i : Nat} {h : H} {F : Fil} (r : Room n k i h F) : F (n + i) = none := by
  cases e : F (n + i) with
  | none => rfl
  | some cs => exact absurd rfl (r _ cs e).2.2.1
theorem Good.sim {a b : Stp} (g : Good S T n k a) (s : SimX n k a b) : Good S T n k b := by
  refine ⟨fun c G hG => ?_, fun c o h1 h2 h3 => ?_, fun he ha => ?_⟩
  · have c' := s.chg_iff.2 c
    obtain ⟨F, hF, e1, e2⟩ := s.chg c'
    rw [e1] at hG
    rw [e1, e2, fill_fill, fill_fill, ← s.i, ← s.o, ← s.fr, ← s.v]
    refine g.fil c' _ fun o cs ho => ?_
    cases hf : F o with
    | some cs' => exact hF o cs' hf
    | none =>
      rw [hf] at ho
      obtain ⟨q1, q2, q3, q4⟩ := hG o cs (by simpa using ho)
      rw [← s.i] at q3
      exact ⟨q1, q2, q3, (fill_dead q4).1⟩
  · have c' := s.chg_iff.2 c
    obtain ⟨F, hF, e1, e2⟩ := s.chg c'
    rw [e2] at h3
    obtain ⟨k1, k2⟩ := fill_dead h3
    rw [e1]
    exact dead_fill (g.ded c' o h1 h2 k1) k2
  · rw [← s.ex] at he
    rw [← s.o] at ha
    obtain ⟨q1, q2⟩ := g.own he ha
    obtain ⟨F, hF, e1, e2⟩ := s.chg ⟨he, alloc_mut ha⟩
    rw [← s.i, e1]
    exact ⟨q1, dead_fill q2 hF.none_at⟩
theorem Both.simX {b x y x' y'} (h : Both S T b x y) (sx : SimX n k x x') (sy : SimX n k y y') : Both S T b x' y' := by
  intro e1 e2 e3 e4
  have m := sy.chg_iff.2 e3
  rw [← sx.o] at e2
  obtain ⟨h1, h2⟩ := h (by rw [sx.ex]; exact e1) e2 m (by rw [sx.i, sy.i]; exact e4)
  obtain ⟨F, hF, q1, q2⟩ := sy.chg m
  unfold Tells at *
  rw [← sx.o, ← sx.fr, ← sx.v, q1, q2]
  exact ⟨rr_fill F e2 h1, rr_fill F e2 h2⟩
structure ApartX (ops : List Oper) (b : List Nat) (x y : Stp) : Prop where
  ne : x.i ≠ y.i
  un : unord b x.i y.i = true
  chg : isMut x.o.op = true → isMut y.o.op = true → isAlloc y.o.op = true
  xy : ∀ d, x.o.dst = some d → d ∉ readsOf ops y.o
  yx : ∀ d, y.o.dst = some d → d ∉ readsOf ops x.o
  dd : ∀ d e, x.o.dst = some d → y.o.dst = some e → d ≠ e
theorem nonmutX {a : Stp} (hm : isMut a.o.op = false) : (opX S T n a.i a.o a.fr a.h fun v h => v = a.v ∧ h = a.h') → (opK S T a.o a.fr a.h fun v h => v = a.v ∧ h = a.h') ∧ a.h' = a.h := by
  intro e
  have ha : isAlloc a.o.op = false := by
    cases h : isAlloc a.o.op with
    | false => rfl
    | true => rw [alloc_mut h] at hm; cases hm
  unfold opX at e
  rw [ha] at e
  exact ⟨e, nonmut_same hm e⟩
/-- A step that does not change the heap keeps it. -/
theorem still {a : Stp} (ex : a.ex = true → gOK ops a.fr a.o ∧ opX S T n a.i a.o a.fr a.h fun v h => v = a.v ∧ h = a.h') (no : a.ex = false → gNo ops a.fr a.o ∧ a.v = .gone ∧ a.h' = a.h) (hc : ¬ a.chg) : a.h' = a.h := by
  cases e : a.ex with
  | false => exact (no e).2.2
  | true =>
    have : isMut a.o.op = false := by
      cases hm : isMut a.o.op with
      | false => rfl
      | true => exact absurd ⟨e, hm⟩ hc
    exact (nonmutX this (ex e).2).2
theorem opX_non {a : Stp} {fr : Frame} {h : H} {K : AVal → H → Prop} (hm : isMut a.o.op = false) : opX S T n a.i a.o fr h K = opK S T a.o fr h K := by
  have ha : isAlloc a.o.op = false := by
    cases h : isAlloc a.o.op with
    | false => rfl
    | true => rw [alloc_mut h] at hm; cases hm
  unfold opX; rw [ha]; rfl
/-- Two steps change places; the second one is no allocation that is carried out. -/
theorem swapX {b : List Nat} {fr h x y l fr2 h2} (H : ValX S T ops n fr h (x :: y :: l) fr2 h2) (ap : ApartX ops b x y) (hy : ¬ (y.ex = true ∧ isAlloc y.o.op = true)) (c1 : Both S T b x y) (c2 : Both S T b y x) :
    ∃ x' y', Sim x x' ∧ Sim y y' ∧ ValX S T ops n fr h (y' :: x' :: l) fr2 h2 := by
  cases H with
  | cons hx ax ex nx H =>
  cases H with
  | cons hyh ay ey ny H =>
  have ay' : agree ops y.o fr y.fr := fun t ht => by rw [← ay t ht, getD_put _ _ _ _ fun d hd e => ap.xy d hd (e ▸ ht)]
  have ax' : agree ops x.o (put fr y.o.dst y.v) x.fr := fun t ht => by rw [getD_put _ _ _ _ fun d hd e => ap.yx d hd (e ▸ ht)]; exact ax t ht
  have hput : put (put fr x.o.dst x.v) y.o.dst y.v = put (put fr y.o.dst y.v) x.o.dst x.v := put_comm _ _ _ _ _ fun d e h1 h2 => ap.dd d e h1 h2
  rw [hput] at H
  by_cases mx : x.chg
  · have my : ¬ y.chg := fun m => hy ⟨m.1, ap.chg mx.2 m.2⟩
    have hyy := still ey ny my
    refine ⟨x, { y with h := h, h' := h }, Sim.refl _, ⟨rfl, rfl, rfl, rfl, rfl, fun m => absurd m my⟩, ?_⟩
    refine .cons rfl ay' (fun e => ⟨(ey e).1, ?_⟩) (fun e => ⟨(ny e).1, (ny e).2.1, rfl⟩) ?_
    · have hm : isMut y.o.op = false := by
        cases hm : isMut y.o.op with
        | false => rfl
        | true => exact absurd ⟨e, hm⟩ my
      have := (c2 e hm mx (by rw [unord_comm]; exact ap.un)).1
      rw [hx] at this
      show opX S T n y.i y.o y.fr h _
      rw [opX_non hm]
      exact this
    · refine .cons hx ax' ex nx ?_
      rw [hyy, hyh] at H
      exact H
  · have hxx := still ex nx mx
    refine ⟨{ x with h := y.h', h' := y.h' }, y, ⟨rfl, rfl, rfl, rfl, rfl, fun m => absurd m mx⟩, Sim.refl _, ?_⟩
    refine .cons (by rw [hyh, hxx, hx]) ay' ey ny ?_
    refine .cons rfl ax' (fun e => ⟨(ex e).1, ?_⟩) (fun e => ⟨(nx e).1, (nx e).2.1, rfl⟩) H
    have hm : isMut x.o.op = false := by
      cases hm : isMut x.o.op with
      | false => rfl
      | true => exact absurd ⟨e, hm⟩ mx
    show opX S T n x.i x.o x.fr y.h' _
    rw [opX_non hm]
    by_cases my : y.chg
    · exact (c1 e hm my ap.un).2
    · have hyy := still ey ny my
      have := (nonmutX hm (ex e).2).1
      rw [hxx] at this
      show opK S T x.o x.fr y.h' fun v h2 => v = x.v ∧ h2 = y.h'
      rw [hyy, hyh, hxx]
      exact this
theorem fill_set_dead {h : H} {p : Nat} {cs : List AVal} (e : h[p]? = some .dead) : h.set p (.own cs) = fill (one1 p cs) h := set_fill cs e
theorem room_one {p i : Nat} {h : H} {cs : List AVal} (h1 : n ≤ p) (h2 : p < n + k) (h3 : p ≠ n + i) (e : h[p]? = some .dead) : Room n k i h (one1 p cs) := by
  intro o cs' ho
  unfold one1 at ho
  split at ho
  · next e2 => subst e2; exact ⟨h1, h2, h3, e⟩
  · cases ho
/-- An allocation goes ahead of another step. -/
theorem swapA {b : List Nat} {fr h x y l fr2 h2} (H : ValX S T ops n fr h (x :: y :: l) fr2 h2) (ap : ApartX ops b x y) (hye : y.ex = true) (hya : isAlloc y.o.op = true) (hyi : y.i < k) (hyd : y.h[n + y.i]? = some .dead) (gx : Good S T n k x) :
    ∃ x' y', SimX n k x x' ∧ (y'.i = y.i ∧ y'.o = y.o ∧ y'.fr = y.fr ∧ y'.ex = y.ex ∧ y'.v = y.v ∧ y'.h = h ∧ h[n + y.i]? = some .dead) ∧ ValX S T ops n fr h (y' :: x' :: l) fr2 h2 := by
  cases H with
  | cons hx ax ex nx H =>
  cases H with
  | cons hyh ay ey ny H =>
  have ay' : agree ops y.o fr y.fr := fun t ht => by rw [← ay t ht, getD_put _ _ _ _ fun d hd e => ap.xy d hd (e ▸ ht)]
  have ax' : agree ops x.o (put fr y.o.dst y.v) x.fr := fun t ht => by rw [getD_put _ _ _ _ fun d hd e => ap.yx d hd (e ▸ ht)]; exact ax t ht
  have hput : put (put fr x.o.dst x.v) y.o.dst y.v = put (put fr y.o.dst y.v) x.o.dst x.v := put_comm _ _ _ _ _ fun d e h1 h2 => ap.dd d e h1 h2
  rw [hput] at H
  have hp2 : n + y.i < n + k := by omega
  have hne : n + y.i ≠ n + x.i := fun e => ap.ne (by omega)
  rw [hyh] at hyd
  have hxd : x.h[n + y.i]? = some .dead := by
    by_cases mx : x.chg
    · exact gx.ded mx _ (by omega) hp2 hyd
    · rw [← still ex nx mx]; exact hyd
  obtain ⟨v1, cs, ⟨e1, e2⟩, _, _, hA⟩ := opA_inv (S := S) (T := T) (K := fun v h => v = y.v ∧ h = y.h') hya (show opA S T y.o y.fr y.h (n + y.i) _ by have := (ey hye).2; unfold opX at this; rw [hya] at this; exact this)
  rw [hyh] at e2
  have hF : Room n k x.i x.h (one1 (n + y.i) cs) := room_one (by omega) hp2 hne hxd
  refine ⟨{ x with h := fill (one1 (n + y.i) cs) x.h, h' := fill (one1 (n + y.i) cs) x.h' }, { y with h := h, h' := h.set (n + y.i) (.own cs) }, ⟨rfl, rfl, rfl, rfl, rfl, fun _ => ⟨_, hF, rfl, rfl⟩⟩, ⟨rfl, rfl, rfl, rfl, rfl, rfl, by rw [← hx]; exact hxd⟩, ?_⟩
  refine .cons rfl ay' (fun e => ⟨(ey e).1, ?_⟩) (fun e => by rw [show _ = y.ex from rfl, hye] at e; cases e) ?_
  · show opX S T n y.i y.o y.fr h _
    unfold opX
    rw [hya]
    exact hA h (n + y.i) (fun v h2 => v = y.v ∧ h2 = h.set (n + y.i) (.own cs)) ⟨e1, rfl⟩
  · refine .cons (by show fill _ x.h = h.set _ _; rw [hx] at hxd ⊢; exact (set_fill cs hxd).symm) ax' (fun e => ⟨(ex e).1, ?_⟩) (fun e => ⟨(nx e).1, (nx e).2.1, by show fill _ x.h' = fill _ x.h; rw [(nx e).2.2]⟩) ?_
    · by_cases mx : x.chg
      · exact gx.fil mx _ hF
      · have hm : isMut x.o.op = false := by
          cases hm : isMut x.o.op with
          | false => rfl
          | true => exact absurd ⟨e, hm⟩ mx
        obtain ⟨q1, q2⟩ := nonmutX hm (ex e).2
        show opX S T n x.i x.o x.fr _ _
        rw [opX_non hm]
        rw [q2] at q1
        have := rr_fill (one1 (n + y.i) cs) hm q1
        show opK S T x.o x.fr (fill _ x.h) fun v h2 => v = x.v ∧ h2 = fill _ x.h'
        rw [q2]
        exact this
    · show ValX S T ops n _ (fill _ x.h') l fr2 h2
      rw [← set_fill cs hyd, e2]
      exact H
def SimsX (n k : Nat) : List Stp → List Stp → Prop
  | [], [] => True
  | a :: l, b :: m => SimX n k a b ∧ SimsX n k l m
  | _, _ => False
theorem SimsX.refl : ∀ l, SimsX n k l l
  | [] => trivial
  | a :: l => ⟨SimX.refl a, SimsX.refl l⟩
theorem Sims.x : ∀ {l m}, Sims l m → SimsX n k l m
  | [], [], _ => trivial
  | a :: l, b :: m, h => ⟨h.1.x, Sims.x h.2⟩
  | [], _ :: _, h => h.elim
  | _ :: _, [], h => h.elim
theorem frontN {b : List Nat} {s : Stp} {post : List Stp} : ∀ (pre : List Stp) {fr h fr2 h2}, ValX S T ops n fr h (pre ++ s :: post) fr2 h2 → ¬ (s.ex = true ∧ isAlloc s.o.op = true) →
    (∀ x ∈ pre, ApartX ops b x s ∧ Both S T b x s ∧ Both S T b s x) → ∃ pre' s', Sims pre pre' ∧ Sim s s' ∧ ValX S T ops n fr h (s' :: pre' ++ post) fr2 h2
  | [], fr, h, fr2, h2, hV, _, _ => ⟨[], s, trivial, Sim.refl s, hV⟩
  | x :: pre, fr, h, fr2, h2, hV, hs, hp => by
    cases hV with
    | cons k1 k2 k3 k4 k5 =>
      obtain ⟨pre', s', q1, q2, q3⟩ := frontN pre k5 hs fun y hy => hp y (by simp [hy])
      obtain ⟨p1, p2, p3⟩ := hp x (by simp)
      have hx : ValX S T ops n fr h (x :: s' :: (pre' ++ post)) fr2 h2 := .cons k1 k2 k3 k4 q3
      have ap : ApartX ops b x s' := ⟨by rw [← q2.i]; exact p1.ne, by rw [← q2.i]; exact p1.un, by rw [← q2.o]; exact p1.chg, by rw [← q2.o]; exact p1.xy, by rw [← q2.o]; exact p1.yx, by rw [← q2.o]; exact p1.dd⟩
      obtain ⟨x', s'', r1, r2, r3⟩ := swapX hx ap (by rw [← q2.ex, ← q2.o]; exact hs) (p2.sim (Sim.refl x) q2) (p3.sim q2 (Sim.refl x))
      exact ⟨x' :: pre', s'', ⟨r1, q1⟩, ⟨q2.i.trans r2.i, q2.o.trans r2.o, q2.fr.trans r2.fr, q2.ex.trans r2.ex, q2.v.trans r2.v, fun m => by
        have m1 := q2.chg m
        have m' : s'.chg := ⟨by rw [← q2.ex]; exact m.1, by rw [← q2.o]; exact m.2⟩
        have m2 := r2.chg m'
        exact ⟨m1.1.trans m2.1, m1.2.trans m2.2⟩⟩, r3⟩
theorem frontA {b : List Nat} {s : Stp} {post : List Stp} (hse : s.ex = true) (hsa : isAlloc s.o.op = true) (hsi : s.i < k) (hsd : s.h[n + s.i]? = some .dead) : ∀ (pre : List Stp) {fr h fr2 h2}, ValX S T ops n fr h (pre ++ s :: post) fr2 h2 →
    (∀ x ∈ pre, ApartX ops b x s ∧ Good S T n k x) →
    ∃ pre' s', SimsX n k pre pre' ∧ (s'.i = s.i ∧ s'.o = s.o ∧ s'.fr = s.fr ∧ s'.ex = s.ex ∧ s'.v = s.v ∧ s'.h = h ∧ h[n + s.i]? = some .dead) ∧ ValX S T ops n fr h (s' :: pre' ++ post) fr2 h2
  | [], fr, h, fr2, h2, hV, _ => by
    cases hV with
    | cons k1 k2 k3 k4 k5 => exact ⟨[], s, trivial, ⟨rfl, rfl, rfl, rfl, rfl, k1, by rw [← k1]; exact hsd⟩, .cons k1 k2 k3 k4 k5⟩
  | x :: pre, fr, h, fr2, h2, hV, hp => by
    cases hV with
    | cons k1 k2 k3 k4 k5 =>
      obtain ⟨pre', s', q1, ⟨i1, i2, i3, i4, i5, i6, i7⟩, q3⟩ := frontA hse hsa hsi hsd pre k5 fun y hy => hp y (by simp [hy])
      obtain ⟨p1, p2⟩ := hp x (by simp)
      have hx : ValX S T ops n fr h (x :: s' :: (pre' ++ post)) fr2 h2 := .cons k1 k2 k3 k4 q3
      have ap : ApartX ops b x s' := ⟨by rw [i1]; exact p1.ne, by rw [i1]; exact p1.un, by rw [i2]; exact p1.chg, by rw [i2]; exact p1.xy, by rw [i2]; exact p1.yx, by rw [i2]; exact p1.dd⟩
      obtain ⟨x', s'', r1, ⟨j1, j2, j3, j4, j5, j6, j7⟩, r3⟩ := swapA hx ap (i4.trans hse) (by rw [i2]; exact hsa) (by rw [i1]; exact hsi) (by rw [i6, i1]; exact i7) p2
      exact ⟨x' :: pre', s'', ⟨r1, q1⟩, ⟨j1.trans i1, j2.trans i2, j3.trans i3, j4.trans i4, j5.trans i5, j6, by rw [i1] at j7; exact j7⟩, r3⟩
/-- A step ahead of others. -/
theorem frontX {b : List Nat} {s : Stp} {post : List Stp} (pre : List Stp) {fr h fr2 h2} (hV : ValX S T ops n fr h (pre ++ s :: post) fr2 h2) (gs : Good S T n k s)
    (hp : ∀ x ∈ pre, ApartX ops b x s ∧ Both S T b x s ∧ Both S T b s x ∧ Good S T n k x) :
    ∃ pre' s', SimsX n k pre pre' ∧ (s'.i = s.i ∧ s'.o = s.o ∧ s'.ex = s.ex ∧ (s.ex = true → isAlloc s.o.op = true → h[n + s.i]? = some .dead)) ∧ ValX S T ops n fr h (s' :: pre' ++ post) fr2 h2 := by
  by_cases hc : s.ex = true ∧ isAlloc s.o.op = true
  · obtain ⟨g1, g2⟩ := gs.own hc.1 hc.2
    obtain ⟨pre', s', q1, ⟨i1, i2, i3, i4, i5, i6, i7⟩, q3⟩ := frontA hc.1 hc.2 g1 g2 pre hV fun x hx => ⟨(hp x hx).1, (hp x hx).2.2.2⟩
    exact ⟨pre', s', q1, ⟨i1, i2, i4, fun _ _ => i7⟩, q3⟩
  · obtain ⟨pre', s', q1, q2, q3⟩ := frontN pre hV hc fun x hx => ⟨(hp x hx).1, (hp x hx).2.1, (hp x hx).2.2.1⟩
    exact ⟨pre', s', q1.x, ⟨q2.i.symm, q2.o.symm, q2.ex.symm, fun h1 h2 => absurd ⟨h1, h2⟩ hc⟩, q3⟩
end
end Go.Proofs.Ytdmhchgaeepdmaa.Cl
