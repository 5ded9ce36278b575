/- The clean machine: a region with allocations in any order, told in one order. No claim is stated here. -/
import Derived.Test.YtdmhchgaeepdmaaClT
set_option linter.unusedVariables false
set_option linter.unusedSimpArgs false
namespace Go.Proofs.Ytdmhchgaeepdmaa.Cl
open Go
theorem okPairsE_pair {ops : List Oper} {b : List Nat} : ∀ (l : List (Oper × Nat)), okPairsE ops b l = true → l.Pairwise fun p q => pairE ops b p q = true
  | [], _ => .nil
  | p :: l, h => by
    have h' : ((l.all fun q => pairE ops b p q) && okPairsE ops b l) = true := h
    rw [Bool.and_eq_true, List.all_eq_true] at h'
    exact .cons h'.1 (okPairsE_pair l h'.2)
theorem lateGo_mem (ops : List Oper) : ∀ (fuel : Nat) (dn : List Nat), ∀ p ∈ lateGo ops fuel dn, p ∈ ops.zipIdx
  | 0, dn, p, h => by simp [lateGo] at h
  | fuel + 1, dn, p, h => by
    unfold lateGo at h
    split at h
    · next q hq =>
      rcases List.mem_cons.1 h with rfl | h
      · exact List.mem_of_find?_eq_some hq
      · exact lateGo_mem ops fuel _ p h
    · split at h
      · next q hq =>
        rcases List.mem_cons.1 h with rfl | h
        · exact List.mem_of_find?_eq_some hq
        · exact lateGo_mem ops fuel _ p h
      · simp at h
theorem pairE_ne {ops : List Oper} {b : List Nat} {p q : Oper × Nat} (h : pairE ops b p q = true) : p.2 ≠ q.2 := fun e => by
  unfold pairE at h
  simp [e] at h
theorem pairE_bef {ops : List Oper} {b : List Nat} {p q : Oper × Nat} (h : pairE ops b p q = true) : bef b p.2 q.2 = false := by
  unfold pairE at h
  simp only [Bool.and_eq_true] at h
  simpa using h.1.1.2
section
variable {P : Program} {T : Tab}
theorem callK_mono {S S' : SatT} (hS : ∀ f args h v h2, S f args h v h2 → S' f args h v h2) {t f args h K} (e : callK S T t f args h K) : callK S' T t f args h K := by
  unfold callK at e ⊢
  split at e <;> (obtain ⟨x, h1, a, b⟩ := e; exact ⟨x, h1, hS _ _ _ _ _ a, b⟩)
theorem opK_mono {S S' : SatT} (hS : ∀ f args h v h2, S f args h v h2 → S' f args h v h2) {o : Oper} {fr : Frame} {h : H} {K : AVal → H → Prop} (e : opK S T o fr h K) : opK S' T o fr h K := by
  unfold opK at e ⊢
  cases ho : o.op with
  | call c =>
    simp only [ho] at e ⊢
    split at e
    · exact callK_mono hS e
    · obtain ⟨f, cap, a, b⟩ := e; exact ⟨f, cap, a, callK_mono hS b⟩
    all_goals exact e
  | _ => simp only [ho] at e ⊢ <;> exact e
theorem opA_mono {S S' : SatT} (hS : ∀ f args h v h2, S f args h v h2 → S' f args h v h2) {o : Oper} {fr : Frame} {h : H} {p : Nat} {K : AVal → H → Prop} (e : opA S T o fr h p K) : opA S' T o fr h p K := opK_mono hS e
theorem OpOK.wit {s : Sem Next} {w : World} {R : Value → World → Prop} (e : OpOK P s w R) : ∃ x w', R x w' := by
  unfold OpOK at e
  split at e
  · exact ⟨_, _, e⟩
  · exact ⟨_, _, e⟩
  · obtain ⟨_, w', _, ⟨v, _, r⟩, _⟩ := e []
    exact ⟨v, w', r⟩
  · exact e.elim
/-- A world behind an operation. -/
theorem world_op {S : SatT} (hS : ∀ f args h v h2, S f args h v h2 → Sat P f args h v h2) (hT : TOK P T) {μ0 μ : Mu} {h0 h : H} {w0 w : World} {o : Oper} {fr : Frame} {ds : List Value} {v : AVal} {h' : H} (T0 : Tr μ0 h0 w0 μ h w) (hf : VRs μ h fr ds)
    (e : opK S T o fr h fun v2 h2 => v2 = v ∧ h2 = h') : (∃ μ' w' ds', Tr μ0 h0 w0 μ' h' w' ∧ VRs μ' h' (put fr o.dst v) ds') ∧ ∃ μ', Step μ h μ' h' := by
  obtain ⟨x, w', v', h'', μ', ⟨rfl, rfl⟩, t, vx⟩ := (op_sound hS hT T0.rel (a := ⟨ds.toArray, []⟩) (by simpa using hf) e).wit
  exact ⟨⟨μ', w', _, T0.trans t, put_VRs (a := ⟨ds.toArray, []⟩) (by simpa using hf.step t.step) vx⟩, μ', t.step⟩
theorem step_dead {μ μ' : Mu} {h h' : H} (s : Step μ h μ' h') {o : Nat} (e : h[o]? = some .dead) : h'[o]? = some .dead := by
  have hl := (List.getElem?_eq_some_iff.1 e).1
  refine dead_of (Nat.lt_of_lt_of_le hl s.len) ?_
  cases hq : inf h' o with
  | none => rfl
  | some tm =>
    obtain ⟨t, m⟩ := tm
    obtain ⟨n, e1, _⟩ := s.same o t m hl hq
    rw [inf_dead e] at e1
    cases e1
theorem dead_back {μ μ' : Mu} {h h' : H} (s : Step μ h μ' h') {o : Nat} (hl : o < h.length) (e : h'[o]? = some .dead) : h[o]? = some .dead := by
  refine dead_of hl ?_
  cases hq : inf h o with
  | none => rfl
  | some tm => exact absurd e (not_dead (s.alive o (by rw [hq]; rfl)))
theorem good_op {S : SatT} (hS : ∀ f args h v h2, S f args h v h2 → Sat P f args h v h2) (hT : TOK P T) {μ0 μ : Mu} {h0 h : H} {w0 w : World} {n k i : Nat} {o : Oper} {fr : Frame} {ds : List Value} {v : AVal} {h' : H} (T0 : Tr μ0 h0 w0 μ h w) (hf : VRs μ h fr ds)
    (hlen : n + k ≤ h.length) (ha : isAlloc o.op = false) (e : opK S T o fr h fun v2 h2 => v2 = v ∧ h2 = h') : Good (Sat P) T n k ⟨i, o, fr, true, v, h, h'⟩ := by
  obtain ⟨_, μ', st⟩ := world_op hS hT T0 hf e
  refine ⟨fun _ F hF => ?_, fun _ o h1 h2 h3 => dead_back st (by show o < h.length; omega) h3, fun _ h1 => by (have h1' : isAlloc o.op = true := h1); rw [ha] at h1'; cases h1'⟩
  have hF1 : Fits F h := fun o cs e => (hF o cs e).2.2.2
  have hF2 : Fits F h' := fun o cs e => step_dead st (hF1 o cs e)
  show opX (Sat P) T n i o fr (fill F h) _
  unfold opX
  rw [ha]
  exact opK_fill F ha (fun f args v hargs s => by
    obtain ⟨ds2, hd⟩ := hargs hf T0.rel
    exact s.fill hF1 hF2 T0.rel hd) (opK_mono hS e)
theorem chkPendE_spec {S : SatT} {b : List Nat} {k : Nat} {past : List (Nat × H)} {h' : H} : ∀ (pend : List (Nat × Oper × Frame × H)) (K : Prop), (∀ e ∈ pend, isMut e.2.1.op = false) → chkPendE T b k past h' pend K →
    K ∧ ∀ e ∈ pend, unord b e.1 k = true → (∃ z rest, past = z :: rest ∧ bef b z.1 e.1 = true) → ∀ v, Rr S T e.2.1 e.2.2.1 e.2.2.2 v → Rr S T e.2.1 e.2.2.1 h' v
  | [], K, _, hK => ⟨hK, fun e he => by simp at he⟩
  | (i, o, fr, h) :: l, K, hm, hK => by
    unfold chkPendE at hK
    cases hu : (unord b i k && lastDep b past i) with
    | false =>
      rw [hu] at hK
      obtain ⟨h1, h2⟩ := chkPendE_spec (S := S) l K (fun e he => hm e (by simp [he])) hK
      refine ⟨h1, fun e he hu' hz => ?_⟩
      rcases List.mem_cons.1 he with rfl | he
      · obtain ⟨z, rest, rfl, hz⟩ := hz
        have hu'' : unord b i k = true := hu'
        have hz' : bef b z.1 i = true := hz
        rw [hu'', Bool.true_and] at hu
        have hu3 : bef b z.1 i = false := hu
        rw [hz'] at hu3; cases hu3
      · exact h2 e he hu' hz
    | true =>
      rw [hu] at hK
      obtain ⟨h0, hK⟩ := chk_tells (S := S) (hm (i, o, fr, h) (by simp)) hK
      obtain ⟨h1, h2⟩ := chkPendE_spec (S := S) l K (fun e he => hm e (by simp [he])) hK
      refine ⟨h1, fun e he hu' hz => ?_⟩
      rcases List.mem_cons.1 he with rfl | he
      · exact h0
      · exact h2 e he hu' hz
/-- The changes so far, the last one first, each with the heap ahead of it and behind it. -/
def PCx : List (Nat × H × H) → H → Prop
  | [], _ => True
  | (k, h0, h1) :: rest, h => h1 = h ∧ PCx rest h0
theorem chkPastE_spec {S : SatT} {b : List Nat} {i : Nat} {o : Oper} {fr : Frame} {h : H} {v : AVal} (hm : isMut o.op = false) (hv : Rr S T o fr h v) : ∀ (past : List (Nat × H × H)) (g : H) (nx : Option H) (K : Prop), PCx past g → (nx = none → Rr S T o fr g v) → (∀ x, nx = some x → x = g) →
    chkPastE T b i o fr h nx (past.map fun e => (e.1, e.2.1)) K → K ∧ ∀ e ∈ past, unord b i e.1 = true → Rr S T o fr e.2.1 v ∧ Rr S T o fr e.2.2 v
  | [], g, nx, K, _, _, _, hK => ⟨by cases nx <;> exact hK, fun e he => by simp at he⟩
  | (k, h0, h1) :: l, g, nx, K, hp, hn, hs, hK => by
    obtain ⟨rfl, hp⟩ := hp
    simp only [List.map_cons] at hK
    unfold chkPastE at hK
    cases hu : unord b i k with
    | false =>
      rw [hu] at hK
      obtain ⟨q1, q2⟩ := chkPastE_spec hm hv l h0 (some h0) K hp (fun e => by cases e) (fun x e => by cases e; rfl) hK
      refine ⟨q1, fun e he hu' => ?_⟩
      rcases List.mem_cons.1 he with rfl | he
      · rw [hu] at hu'; cases hu'
      · exact q2 e he hu'
    | true =>
      rw [hu] at hK
      simp only [cond_true] at hK
      have fin : Rr S T o fr h1 v → chkK T o fr h h0 (chkPastE T b i o fr h none (l.map fun e => (e.1, e.2.1)) K) → K ∧ ∀ e ∈ (k, h0, h1) :: l, unord b i e.1 = true → Rr S T o fr e.2.1 v ∧ Rr S T o fr e.2.2 v := by
        intro r1 hK
        obtain ⟨c0, hK⟩ := chk_tells (S := S) hm hK
        obtain ⟨q1, q2⟩ := chkPastE_spec hm hv l h0 none K hp (fun _ => c0 v hv) (fun x e => by cases e) hK
        refine ⟨q1, fun e he hu' => ?_⟩
        rcases List.mem_cons.1 he with rfl | he
        · exact ⟨c0 v hv, r1⟩
        · exact q2 e he hu'
      cases nx with
      | none => exact fin (hn rfl) hK
      | some x =>
        obtain rfl := hs x rfl
        obtain ⟨c1, hK⟩ := chk_tells (S := S) hm hK
        exact fin (c1 v hv) hK
theorem slot_trace {S : SatT} (hS : ∀ f args h v h2, S f args h v h2 → Sat P f args h v h2) (hT : TOK P T) {ops : List Oper} {b : List Nat} {k : Frame → H → Prop} {μ0 : Mu} {h0 : H} {w0 : World} :
    ∀ (l : List (Oper × Nat)) (past : List (Nat × H × H)) (pend : List (Nat × Oper × Frame × H)) (fr : Frame) (h : H),
      (∀ p ∈ l, p.2 < ops.length) → (l.Pairwise fun p q => pairE ops b p q = true) → (∀ e ∈ pend, isMut e.2.1.op = false ∧ (∀ p ∈ l, bef b e.1 p.2 = false) ∧ ((∀ v, Rr (Sat P) T e.2.1 e.2.2.1 e.2.2.2 v → Rr (Sat P) T e.2.1 e.2.2.1 h v) ∨ ∃ z rest, past = z :: rest ∧ bef b z.1 e.1 = true)) → PCx past h →
      h0.length + ops.length ≤ h.length → (∀ p ∈ l, isAlloc p.1.op = true → h[h0.length + p.2]? = some .dead) → (∃ μ w ds, Tr μ0 h0 w0 μ h w ∧ VRs μ h fr ds) →
      runSlot S T ops b h0.length l (past.map fun e => (e.1, e.2.1)) pend k fr h →
      ∃ L fr2 h2, ValX (Sat P) T ops h0.length fr h L fr2 h2 ∧ k fr2 h2 ∧ L.map (fun s => (s.o, s.i)) = l ∧ (∀ x ∈ L, Good (Sat P) T h0.length ops.length x) ∧ (∀ x ∈ L, ∀ y ∈ L, Both (Sat P) T b x y) ∧
        (∀ e ∈ pend, ∀ y ∈ L, y.chg → unord b e.1 y.i = true → ∀ v, Rr (Sat P) T e.2.1 e.2.2.1 e.2.2.2 v → Rr (Sat P) T e.2.1 e.2.2.1 y.h v ∧ Rr (Sat P) T e.2.1 e.2.2.1 y.h' v) ∧
        (∀ e ∈ past, ∀ x ∈ L, x.ex = true → isMut x.o.op = false → unord b x.i e.1 = true → Tells (Sat P) T x e.2.1 ∧ Tells (Sat P) T x e.2.2) := by
  intro l
  induction l with
  | nil =>
    intro past pend fr h _ _ _ _ _ _ _ hR
    exact ⟨[], fr, h, .nil, hR, rfl, fun x hx => by simp at hx, fun x hx => by simp at hx, fun e _ y hy => by simp at hy, fun e _ x hx => by simp at hx⟩
  | cons p l ih =>
    obtain ⟨o, i⟩ := p
    intro past pend fr h hlt hpw hpend hPC hlen hdead hworld hR
    have hpw' := List.pairwise_cons.1 hpw
    have hine : ∀ p ∈ l, i ≠ p.2 := fun p hp e => by
      have := hpw'.1 p hp
      unfold pairE at this
      simp [e] at this
    have skipOK : gNo ops fr o → runSlot S T ops b h0.length l (past.map fun e => (e.1, e.2.1)) pend k (put fr o.dst .gone) h →
      ∃ L fr2 h2, ValX (Sat P) T ops h0.length fr h L fr2 h2 ∧ k fr2 h2 ∧ L.map (fun s => (s.o, s.i)) = (o, i) :: l ∧ (∀ x ∈ L, Good (Sat P) T h0.length ops.length x) ∧ (∀ x ∈ L, ∀ y ∈ L, Both (Sat P) T b x y) ∧
        (∀ e ∈ pend, ∀ y ∈ L, y.chg → unord b e.1 y.i = true → ∀ v, Rr (Sat P) T e.2.1 e.2.2.1 e.2.2.2 v → Rr (Sat P) T e.2.1 e.2.2.1 y.h v ∧ Rr (Sat P) T e.2.1 e.2.2.1 y.h' v) ∧
        (∀ e ∈ past, ∀ x ∈ L, x.ex = true → isMut x.o.op = false → unord b x.i e.1 = true → Tells (Sat P) T x e.2.1 ∧ Tells (Sat P) T x e.2.2) := by
      intro hg hR
      obtain ⟨μ, w, ds, t0, hf⟩ := hworld
      obtain ⟨L, fr2, h2, q1, q2, q3, q4, q5, q6, q7⟩ := ih past pend (put fr o.dst .gone) h (fun p hp => hlt p (by simp [hp])) hpw'.2 (fun e he => ⟨(hpend e he).1, fun p hp => (hpend e he).2.1 p (by simp [hp]), (hpend e he).2.2⟩) hPC hlen (fun p hp => hdead p (by simp [hp]))
        ⟨μ, w, _, t0, put_VRs (a := ⟨ds.toArray, []⟩) (v := .gone) (x := undef) (by simpa using hf) (by simp only [VR]; rfl)⟩ hR
      refine ⟨⟨i, o, fr, false, .gone, h, h⟩ :: L, fr2, h2, .cons rfl (fun _ _ => rfl) (fun e => by cases e) (fun _ => ⟨hg, rfl, rfl⟩) q1, q2, by simp [q3], ?_, ?_, ?_, ?_⟩
      · intro x hx
        rcases List.mem_cons.1 hx with rfl | hx
        · exact ⟨(fun c => by cases c.1), (fun c => by cases c.1), (fun e => by cases e)⟩
        · exact q4 x hx
      · intro x hx y hy
        rcases List.mem_cons.1 hx with rfl | hx
        · intro e; cases e
        · rcases List.mem_cons.1 hy with rfl | hy
          · intro _ _ m; cases m.1
          · exact q5 x hx y hy
      · intro e he y hy
        rcases List.mem_cons.1 hy with rfl | hy
        · intro m; cases m.1
        · exact q6 e he y hy
      · intro e he x hx
        rcases List.mem_cons.1 hx with rfl | hx
        · intro e; cases e
        · exact q7 e he x hx
    -- a change
    have chgOK : ∀ (v : AVal) (h' : H), gOK ops fr o → isMut o.op = true → (opX (Sat P) T h0.length i o fr h fun v2 h2 => v2 = v ∧ h2 = h') → Good (Sat P) T h0.length ops.length ⟨i, o, fr, true, v, h, h'⟩ →
      h.length ≤ h'.length → (∀ p ∈ l, isAlloc p.1.op = true → h'[h0.length + p.2]? = some .dead) → (∃ μ w ds, Tr μ0 h0 w0 μ h' w ∧ VRs μ h' (put fr o.dst v) ds) →
      chkPendE T b i (past.map fun e => (e.1, e.2.1)) h pend (chkPend T b i h' pend (runSlot S T ops b h0.length l ((i, h) :: (past.map fun e => (e.1, e.2.1))) pend k (put fr o.dst v) h')) →
      ∃ L fr2 h2, ValX (Sat P) T ops h0.length fr h L fr2 h2 ∧ k fr2 h2 ∧ L.map (fun s => (s.o, s.i)) = (o, i) :: l ∧ (∀ x ∈ L, Good (Sat P) T h0.length ops.length x) ∧ (∀ x ∈ L, ∀ y ∈ L, Both (Sat P) T b x y) ∧
        (∀ e ∈ pend, ∀ y ∈ L, y.chg → unord b e.1 y.i = true → ∀ v, Rr (Sat P) T e.2.1 e.2.2.1 e.2.2.2 v → Rr (Sat P) T e.2.1 e.2.2.1 y.h v ∧ Rr (Sat P) T e.2.1 e.2.2.1 y.h' v) ∧
        (∀ e ∈ past, ∀ x ∈ L, x.ex = true → isMut x.o.op = false → unord b x.i e.1 = true → Tells (Sat P) T x e.2.1 ∧ Tells (Sat P) T x e.2.2) := by
      intro v h' hg hm hv hgood hle hdead' hworld' hK
      obtain ⟨hK, hc0⟩ := chkPendE_spec (S := Sat P) pend _ (fun e he => (hpend e he).1) hK
      obtain ⟨hK, hc2⟩ := chkPend_spec (S := Sat P) pend _ (fun e he => (hpend e he).1) hK
      have hc1 : ∀ e ∈ pend, unord b e.1 i = true → ∀ v, Rr (Sat P) T e.2.1 e.2.2.1 e.2.2.2 v → Rr (Sat P) T e.2.1 e.2.2.1 h v := fun e he hu => by
        rcases (hpend e he).2.2 with hl | ⟨z, rest, rfl, hz⟩
        · exact hl
        · exact hc0 e he hu ⟨_, _, rfl, hz⟩
      obtain ⟨L, fr2, h2, q1, q2, q3, q4, q5, q6, q7⟩ := ih ((i, h, h') :: past) pend (put fr o.dst v) h' (fun p hp => hlt p (by simp [hp])) hpw'.2
        (fun e he => ⟨(hpend e he).1, fun p hp => (hpend e he).2.1 p (by simp [hp]), by
          cases hu : unord b e.1 i with
          | true => exact .inl (hc2 e he hu)
          | false =>
            refine .inr ⟨_, _, rfl, ?_⟩
            have := (hpend e he).2.1 (o, i) (by simp)
            unfold unord at hu
            simp only at this
            rw [this] at hu
            simpa using hu⟩) ⟨rfl, hPC⟩ (by omega) hdead' hworld' hK
      refine ⟨⟨i, o, fr, true, v, h, h'⟩ :: L, fr2, h2, .cons rfl (fun _ _ => rfl) (fun _ => ⟨hg, hv⟩) (fun e => by cases e) q1, q2, by simp [q3], ?_, ?_, ?_, ?_⟩
      · intro x hx
        rcases List.mem_cons.1 hx with rfl | hx
        · exact hgood
        · exact q4 x hx
      · intro x hx y hy
        rcases List.mem_cons.1 hx with rfl | hx
        · intro _ e; simp only at e; rw [hm] at e; cases e
        · rcases List.mem_cons.1 hy with rfl | hy
          · intro e1 e2 _ e4
            exact q7 (i, h, h') (by simp) x hx e1 e2 e4
          · exact q5 x hx y hy
      · intro e he y hy
        rcases List.mem_cons.1 hy with rfl | hy
        · intro _ hu v hv
          exact ⟨hc1 e he hu v hv, hc2 e he hu v hv⟩
        · exact q6 e he y hy
      · intro e he x hx
        rcases List.mem_cons.1 hx with rfl | hx
        · intro _ e; simp only at e; rw [hm] at e; cases e
        · exact q7 e (by simp [he]) x hx
    have stepOK : gOK ops fr o → (stepSlot S T b h0.length i o (past.map fun e => (e.1, e.2.1)) pend fr h fun past pend v h => runSlot S T ops b h0.length l past pend k (put fr o.dst v) h) →
      ∃ L fr2 h2, ValX (Sat P) T ops h0.length fr h L fr2 h2 ∧ k fr2 h2 ∧ L.map (fun s => (s.o, s.i)) = (o, i) :: l ∧ (∀ x ∈ L, Good (Sat P) T h0.length ops.length x) ∧ (∀ x ∈ L, ∀ y ∈ L, Both (Sat P) T b x y) ∧
        (∀ e ∈ pend, ∀ y ∈ L, y.chg → unord b e.1 y.i = true → ∀ v, Rr (Sat P) T e.2.1 e.2.2.1 e.2.2.2 v → Rr (Sat P) T e.2.1 e.2.2.1 y.h v ∧ Rr (Sat P) T e.2.1 e.2.2.1 y.h' v) ∧
        (∀ e ∈ past, ∀ x ∈ L, x.ex = true → isMut x.o.op = false → unord b x.i e.1 = true → Tells (Sat P) T x e.2.1 ∧ Tells (Sat P) T x e.2.2) := by
      intro hg hR
      unfold stepSlot at hR
      obtain ⟨μ, w, ds, t0, hf⟩ := hworld
      cases ha : isAlloc o.op with
      | true =>
        rw [ha] at hR
        simp only [cond_true] at hR
        have hd := hdead (o, i) (by simp) ha
        obtain ⟨v1, cs, hK, hform, hg2, hA⟩ := opA_inv ha hR
        have hA' : opA S T o fr h (h0.length + i) fun v2 h2 => v2 = v1.at_ (h0.length + i) ∧ h2 = h.set (h0.length + i) (.own cs) := hA h _ (fun v2 h2 => v2 = v1.at_ (h0.length + i) ∧ h2 = h.set (h0.length + i) (.own cs)) ⟨rfl, rfl⟩
        refine chgOK _ _ hg (alloc_mut ha) ?_ ?_ (by simp) (fun p hp hpa => ?_) ?_ hK
        · unfold opX; rw [ha]; exact opA_mono hS hA'
        · refine ⟨fun _ F hF => ?_, fun _ o' h1 h2 h3 => ?_, fun _ _ => ⟨hlt (o, i) (by simp), hd⟩⟩
          · show opX (Sat P) T h0.length i o fr (fill F h) _
            unfold opX
            rw [ha]
            exact opA_mono hS (hA (fill F h) _ (fun v2 h2 => v2 = v1.at_ (h0.length + i) ∧ h2 = fill F (h.set (h0.length + i) (.own cs))) ⟨rfl, (fill_set F h _ (by simp)).symm⟩)
          · have h3' : (h.set (h0.length + i) (AObj.own cs))[o']? = some .dead := h3
            rw [List.getElem?_set] at h3'
            split at h3'
            · split at h3' <;> cases h3'
            · exact h3'
        · rw [List.getElem?_set, if_neg (fun e => hine p hp (by omega))]
          exact hdead p (by simp [hp]) hpa
        · obtain ⟨x, w', v', h', μ', ⟨rfl, rfl⟩, t, vx, hf'⟩ := (opA_sound hS hT (a := ⟨ds.toArray, []⟩) t0 (by omega) hd (by simpa using hf) ha hA').wit
          exact ⟨μ', w', _, t, put_VRs (a := ⟨ds.toArray, []⟩) hf' vx⟩
      | false =>
        rw [ha] at hR
        simp only [cond_false] at hR
        have hX : ∀ (v : AVal) (h' : H), (opK S T o fr h fun v2 h2 => v2 = v ∧ h2 = h') → opX (Sat P) T h0.length i o fr h fun v2 h2 => v2 = v ∧ h2 = h' := fun v h' e => by
          unfold opX; rw [ha]; exact opK_mono hS e
        cases hm : isMut o.op with
        | true =>
          rw [hm] at hR
          simp only [cond_true] at hR
          obtain ⟨v, h', hv, hK⟩ := op_one hR
          obtain ⟨hw, μ', st⟩ := world_op hS hT t0 hf hv
          exact chgOK v h' hg hm (hX v h' hv) (good_op hS hT t0 hf hlen ha hv) st.len (fun p hp hpa => step_dead st (hdead p (by simp [hp]) hpa)) hw hK
        | false =>
          rw [hm] at hR
          simp only [cond_false] at hR
          have main : ∀ (v : AVal) (pend' : List (Nat × Oper × Frame × H)), (opK S T o fr h fun v2 h2 => v2 = v ∧ h2 = h) → (∀ e ∈ past, unord b i e.1 = true → Rr (Sat P) T o fr e.2.1 v ∧ Rr (Sat P) T o fr e.2.2 v) →
              (∀ e ∈ pend', e ∈ pend ∨ (e = (i, o, fr, h))) → (∀ e ∈ pend, e ∈ pend') → ((i, o, fr, h) ∈ pend' ∨ isRead o.op = false) →
              runSlot S T ops b h0.length l (past.map fun e => (e.1, e.2.1)) pend' k (put fr o.dst v) h →
              ∃ L fr2 h2, ValX (Sat P) T ops h0.length fr h L fr2 h2 ∧ k fr2 h2 ∧ L.map (fun s => (s.o, s.i)) = (o, i) :: l ∧ (∀ x ∈ L, Good (Sat P) T h0.length ops.length x) ∧ (∀ x ∈ L, ∀ y ∈ L, Both (Sat P) T b x y) ∧
                (∀ e ∈ pend, ∀ y ∈ L, y.chg → unord b e.1 y.i = true → ∀ v, Rr (Sat P) T e.2.1 e.2.2.1 e.2.2.2 v → Rr (Sat P) T e.2.1 e.2.2.1 y.h v ∧ Rr (Sat P) T e.2.1 e.2.2.1 y.h' v) ∧
                (∀ e ∈ past, ∀ x ∈ L, x.ex = true → isMut x.o.op = false → unord b x.i e.1 = true → Tells (Sat P) T x e.2.1 ∧ Tells (Sat P) T x e.2.2) := by
            intro v pend' hv hpst hsub hsup hnew hR
            have hv' : Rr (Sat P) T o fr h v := opK_mono hS hv
            obtain ⟨hw, _⟩ := world_op hS hT t0 hf hv
            obtain ⟨L, fr2, h2, q1, q2, q3, q4, q5, q6, q7⟩ := ih past pend' (put fr o.dst v) h (fun p hp => hlt p (by simp [hp])) hpw'.2
              (fun e he => by
                rcases hsub e he with he | rfl
                · exact ⟨(hpend e he).1, fun p hp => (hpend e he).2.1 p (by simp [hp]), (hpend e he).2.2⟩
                · exact ⟨hm, fun p hp => pairE_bef (hpw'.1 p hp), .inl fun _ h => h⟩) hPC hlen (fun p hp => hdead p (by simp [hp])) hw hR
            refine ⟨⟨i, o, fr, true, v, h, h⟩ :: L, fr2, h2, .cons rfl (fun _ _ => rfl) (fun _ => ⟨hg, hX v h hv⟩) (fun e => by cases e) q1, q2, by simp [q3], ?_, ?_, ?_, ?_⟩
            · intro x hx
              rcases List.mem_cons.1 hx with rfl | hx
              · exact good_op hS hT t0 hf hlen ha hv
              · exact q4 x hx
            · intro x hx y hy
              rcases List.mem_cons.1 hx with rfl | hx
              · rcases List.mem_cons.1 hy with rfl | hy
                · intro _ _ m; have := m.2; simp only at this; rw [hm] at this; cases this
                · intro _ _ m hu
                  rcases hnew with hnew | hnew
                  · exact q6 (i, o, fr, h) hnew y hy m hu v hv'
                  · exact ⟨pure_tells hm hnew h _ v hv', pure_tells hm hnew h _ v hv'⟩
              · rcases List.mem_cons.1 hy with rfl | hy
                · intro _ _ m; have := m.2; simp only at this; rw [hm] at this; cases this
                · exact q5 x hx y hy
            · intro e he y hy
              rcases List.mem_cons.1 hy with rfl | hy
              · intro m; have := m.2; simp only at this; rw [hm] at this; cases this
              · exact q6 e (hsup e he) y hy
            · intro e he x hx
              rcases List.mem_cons.1 hx with rfl | hx
              · intro _ _ hu
                exact hpst e he hu
              · exact q7 e he x hx
          cases hr : isRead o.op with
          | true =>
            rw [hr] at hR
            simp only [cond_true] at hR
            obtain ⟨v, h', hv, hK⟩ := op_one hR
            have e := op_same hm hv
            subst e
            obtain ⟨hK, hc⟩ := chkPastE_spec (S := Sat P) hm (opK_mono hS hv) past h' none _ hPC (fun _ => opK_mono hS hv) (fun x e => by cases e) hK
            exact main v ((i, o, fr, h') :: pend) hv hc (fun e he => (List.mem_cons.1 he).symm) (fun e he => by simp [he]) (.inl (by simp)) hK
          | false =>
            rw [hr] at hR
            simp only [cond_false] at hR
            obtain ⟨v, h', hv, hK⟩ := op_one hR
            have e := op_same hm hv
            subst e
            exact main v pend hv (fun e he hu => ⟨pure_tells hm hr h' _ v (opK_mono hS hv), pure_tells hm hr h' _ v (opK_mono hS hv)⟩) (fun e he => .inl he) (fun e he => he) (.inr hr) hK
    unfold runSlot at hR
    cases hg : o.guard with
    | none =>
      rw [hg] at hR
      exact stepOK (by unfold gOK; rw [hg]; trivial) hR
    | some g =>
      obtain ⟨j, want⟩ := g
      rw [hg] at hR
      simp only at hR
      cases hd : dstOf ops j with
      | none => rw [hd] at hR; exact hR.elim
      | some d =>
        rw [hd] at hR
        simp only at hR
        split at hR
        · next c e =>
          have es := set_same e (by simp)
          cases c <;> cases want <;> simp only [cond_true, cond_false, es] at hR <;> first
            | exact stepOK (by unfold gOK; rw [hg]; exact ⟨d, hd, e⟩) hR
            | exact skipOK (by unfold gNo; rw [hg]; exact ⟨d, hd, .inl e⟩) hR
        · next e => exact skipOK (by unfold gNo; rw [hg]; exact ⟨d, hd, .inr e⟩) hR
        · exact hR.elim
end
end Go.Proofs.Ytdmhchgaeepdmaa.Cl
