/- The clean machine: an allocation at a place of its own. No claim is stated here. -/
import Derived.Test.YtdmhchgaeepdmaaClR
set_option linter.unusedVariables false
set_option linter.unusedSimpArgs false
namespace Go.Proofs.Ytdmhchgaeepdmaa.Cl
open Go
section
variable {P : Program} {T : Tab} {S : SatT}
theorem alloc_own {o : Oper} {fr : Frame} {v : AVal} {h1 : H} (ha : isAlloc o.op = true) (e : opK S T o fr [] fun v2 h2 => v2 = v ∧ h2 = h1) :
    ∃ cs, h1 = [.own cs] ∧ ((∃ n off, v = .ptr ⟨some 0, n, off⟩) ∨ ∃ n off len sz, v = .sl ⟨some 0, n, off, len, sz⟩) ∧ ∀ g, opK S T o fr g fun v2 h2 => v2 = v.at_ g.length ∧ h2 = g ++ [.own cs] := by
  unfold opK at e ⊢
  cases ho : o.op <;> rw [ho] at ha <;> first
    | (simp [isAlloc] at ha; done)
    | skip
  · simp only [ho] at e ⊢
    obtain ⟨hz, e⟩ := bif_true e
    obtain ⟨rfl, rfl⟩ := e
    refine ⟨_, rfl, .inl ⟨_, _, rfl⟩, fun g => ?_⟩
    rw [hz]
    exact ⟨rfl, rfl⟩
  · next t x =>
    simp only [ho] at e ⊢
    cases hA : isAggT T t with
    | true =>
      rw [hA] at e
      simp only [cond_true] at e ⊢
      split at e
      · obtain ⟨hl, rfl, rfl⟩ := e
        exact ⟨_, rfl, .inl ⟨_, _, rfl⟩, fun g => ⟨hl, rfl, rfl⟩⟩
      · exact e.elim
    | false =>
      rw [hA] at e
      simp only [cond_false] at e ⊢
      obtain ⟨hz, e⟩ := bif_true e
      obtain ⟨rfl, rfl⟩ := e
      refine ⟨_, rfl, .inl ⟨_, _, rfl⟩, fun g => ?_⟩
      rw [hz]
      exact ⟨rfl, rfl⟩
  · next t n ps =>
    simp only [ho] at e ⊢
    split at e
    · next ee he =>
      obtain ⟨hz, e⟩ := bif_true e
      rw [hz]
      obtain ⟨cs, ⟨rfl, rfl⟩, k⟩ := Lin.wit (fillK_lin _ _ _ _) e
      exact ⟨cs, rfl, .inr ⟨_, _, _, _, rfl⟩, fun g => Lin.mono (fillK_lin _ _ _ _) (fun x hx => by subst hx; exact ⟨rfl, rfl⟩) k⟩
    · exact e.elim
  · next t n c =>
    simp only [ho] at e ⊢
    split at e
    · obtain ⟨hz, e⟩ := bif_true e
      rw [hz]
      obtain ⟨hl, rfl, rfl⟩ := e
      exact ⟨_, rfl, .inr ⟨_, _, _, _, rfl⟩, fun g => ⟨hl, rfl, rfl⟩⟩
    · exact e.elim
theorem opA_inv {o : Oper} {fr : Frame} {h : H} {p : Nat} {K : AVal → H → Prop} (ha : isAlloc o.op = true) (e : opA S T o fr h p K) :
    ∃ (v1 : AVal) (cs : List AVal), K (v1.at_ p) (h.set p (.own cs)) ∧ ((∃ n off, v1 = .ptr ⟨some 0, n, off⟩) ∨ ∃ n off len sz, v1 = .sl ⟨some 0, n, off, len, sz⟩) ∧ (∀ g, opK S T o fr g fun v2 h2 => v2 = v1.at_ g.length ∧ h2 = g ++ [.own cs]) ∧
      ∀ g q K', K' (v1.at_ q) (g.set q (.own cs)) → opA S T o fr g q K' := by
  unfold opA at e
  obtain ⟨v1, h1, e1, e2⟩ := op_one e
  obtain ⟨cs, rfl, k1, k2⟩ := alloc_own ha e1
  refine ⟨v1, cs, e2, k1, k2, fun g q K' hK => ?_⟩
  unfold opA
  exact Lin.mono (opK_lin (S := S) (T := T) (h := []) o fr) (K := fun x => x.1 = v1 ∧ x.2 = [.own cs]) (K' := fun x => match x.2 with | [y] => K' (x.1.at_ q) (g.set q y) | _ => False) (fun x hx => by rw [hx.1, hx.2]; exact hK) e1
theorem val_run {s : Sem Value} {w : World} {R : Value → World → Prop} (e : OpOK P (do pure (.value (← s))) w R) : ∃ x w1, (do pure (.value (← s)) : Sem Next).run P w = .ok (.value x) w1 ∧ R x w1 := by
  unfold OpOK at e
  rw [Sem.run_bind] at e ⊢
  cases hs : s.run P w with
  | ok x w1 =>
    rw [hs] at e
    simp only [Result.andThen_ok, Sem.run_pure] at e ⊢
    exact ⟨x, w1, rfl, e⟩
  | _ =>
    rw [hs] at e
    simp [Result.andThen] at e
theorem alloc_val {o : Oper} {ρ : Operand → Value} {w : World} {R : Value → World → Prop} (ha : isAlloc o.op = true) (e : OpOK P (execOp ρ o) w R) : ∃ x w1, (execOp ρ o).run P w = .ok (.value x) w1 ∧ R x w1 := by
  unfold execOp at e ⊢
  cases ho : o.op <;> rw [ho] at ha <;> first
    | (simp [isAlloc] at ha; done)
    | (simp only [ho] at e ⊢; exact val_run e)
theorem Step.dead (μ : Mu) (h : H) : Step μ h μ (h ++ [.dead]) :=
  ⟨by simp, fun o e => by rw [inf_push h _ o (isSome_lt e)]; exact e, fun o t m ho e => ⟨m, by rw [inf_push h _ o ho] at e; exact e, Nat.le_refl _, fun _ => rfl⟩⟩
theorem inf_dead_end (h : H) (o : Nat) : inf (h ++ [.dead]) o = inf h o := by
  by_cases hl : o < h.length
  · exact inf_push _ _ _ hl
  · have h1 : inf h o = none := inf_none (List.getElem?_eq_none (by omega))
    rw [h1]
    unfold inf
    rw [List.getElem?_append_right (by omega)]
    cases hq : o - h.length with
    | zero => rfl
    | succ n => rfl
theorem get_dead_end {h : H} {o : Nat} {x : AObj} (hx : x ≠ .dead) (e : (h ++ [.dead])[o]? = some x) : h[o]? = some x := by
  rw [List.getElem?_append] at e
  split at e
  · exact e
  · next hl =>
    cases hq : o - h.length with
    | zero => rw [hq] at e; cases e; exact absurd rfl hx
    | succ n => rw [hq] at e; cases e
theorem Tr.dead1 {μ h w} (r : Rel μ h w) : Tr μ h w μ (h ++ [.dead]) w := by
  have st := Step.dead μ h
  refine ⟨⟨fun o cs e => ?_, fun o cs e i v hv => ?_, fun o es e => ?_, fun o o' t m t' m' e1 ht e2 hz hne hb => ?_⟩, st, Keep.refl _ _, fun b hb => ?_, fun b hb => ?_⟩
  · obtain ⟨h1, h2, h3, h4⟩ := r.own o cs (get_dead_end (by simp) e)
    exact ⟨h1, h2, h3, fun i v hv => (h4 i v hv).imp id fun ⟨d, a, b⟩ => ⟨d, a, b.step st⟩⟩
  · exact (r.ro o cs (get_dead_end (by simp) e) i v hv).imp id fun ⟨d, a, b⟩ => ⟨d, a, b.step st⟩
  · obtain ⟨h1, ms, ck, h2, h3, h4⟩ := r.mp o es (get_dead_end (by simp) e)
    exact ⟨h1, ms, ck, h2, h3, fun i k v hv => (h4 i k v hv).imp id fun ⟨d, a, b, c⟩ => ⟨d, a, b.step st, c.step st⟩⟩
  · rw [inf_dead_end] at e1 e2; exact r.sep o o' t m t' m' e1 ht e2 hz hne hb
  · obtain ⟨o, t, m, e, x⟩ := hb; rw [inf_dead_end] at e; exact .inl ⟨o, t, m, e, x⟩
  · obtain ⟨o, t, m, e, x⟩ := hb; rw [inf_dead_end] at e; exact .inl ⟨o, t, m, e, x⟩
theorem Tr.deads {μ w} : ∀ (k : Nat) {h : H}, Rel μ h w → Tr μ h w μ (h ++ List.replicate k .dead) w
  | 0, h, r => by simpa using Tr.refl r
  | k + 1, h, r => by
    have t1 := Tr.dead1 r
    have t2 := Tr.deads k t1.rel
    rw [List.append_assoc] at t2
    exact t1.trans t2
/-- An allocation, told of at a place of its own. -/
theorem opA_sound (hS : ∀ f args h v h2, S f args h v h2 → Sat P f args h v h2) (hT : TOK P T) {μ0 μ : Mu} {h0 h : H} {w0 w : World} {o : Oper} {fr : Frame} {a : Act} {p : Nat} {K : AVal → H → Prop} (T0 : Tr μ0 h0 w0 μ h w) (hp : h0.length ≤ p) (hd : h[p]? = some .dead)
    (hf : VRs μ h fr a.tmps.toList) (ha : isAlloc o.op = true) (e : opA S T o fr h p K) :
    OpOK P (execOp a.eval o) w fun x w' => ∃ v h' μ', K v h' ∧ Tr μ0 h0 w0 μ' h' w' ∧ VR μ' h' v x ∧ VRs μ' h' fr a.tmps.toList := by
  obtain ⟨v1, cs, hK, hform, hg, _⟩ := opA_inv ha e
  obtain ⟨x, w1, run1, v, h', μ1, ⟨rfl, rfl⟩, t1, vx⟩ := alloc_val ha (op_sound hS hT T0.rel hf (hg h))
  have td := Tr.dead1 T0.rel
  obtain ⟨x', w1', run2, v, h', μ3, ⟨rfl, rfl⟩, t3, _⟩ := alloc_val ha (op_sound hS hT td.rel (hf.step td.step) (hg (h ++ [AObj.dead])))
  have hpl : p < h.length := (List.getElem?_eq_some_iff.1 hd).1
  have hnew : (h ++ [.own cs])[h.length]? = some (AObj.own cs) := by simp
  have halive : ∀ (i : Nat) v, cs[i]? = some v → al h v := by
    intro i v hv
    obtain ⟨_, _, _, q1⟩ := t1.rel.own h.length cs hnew
    obtain ⟨_, _, _, q3⟩ := t3.rel.own (h ++ [AObj.dead]).length cs (by simp)
    obtain ⟨_, _, _, k1⟩ := q1 i v hv
    obtain ⟨_, _, _, k3⟩ := q3 i v hv
    refine al_both (fun o l1 l3 => ?_) k1.al k3.al
    by_cases ho : o < h.length
    · unfold live at *; rwa [inf_push _ _ _ ho] at l1
    · exfalso
      have := isSome_lt l1
      simp at this
      have : o = h.length := by omega
      subst this
      exact not_dead l3 (by rw [List.getElem?_append_left (by simp)]; simp)
  have hset : (h.set p (.own cs))[p]? = some (AObj.own cs) := by simp [hpl]
  have hother : ∀ o, o ≠ p → (h.set p (.own cs))[o]? = h[o]? := fun o hne => by rw [List.getElem?_set, if_neg (fun e => hne e.symm)]
  have hinf : ∀ o, o ≠ p → inf (h.set p (.own cs)) o = inf h o := fun o hne => by unfold inf; rw [hother o hne]
  have hmu1 : ∀ o, live h o → μ1 o = μ o := fun o l => by
    unfold live at l
    cases hq : inf h o with
    | none => rw [hq] at l; cases l
    | some tm =>
      obtain ⟨ty, m⟩ := tm
      obtain ⟨n, e1, _, e3⟩ := t1.step.same o ty m (isSome_lt (live_of hq)) (by rw [inf_push _ _ _ (isSome_lt (live_of hq))]; exact hq)
      rw [hq] at e1
      cases e1
      exact e3 rfl
  generalize hμ : (fun o => if o = p then μ1 h.length else μ1 o) = μ2
  have m1 : ∀ o, o ≠ p → μ2 o = μ1 o := fun o e => by rw [← hμ]; simp [e]
  have m2 : μ2 p = μ1 h.length := by rw [← hμ]; simp
  have A : Agree h μ1 (h ++ [.own cs]) μ2 (h.set p (.own cs)) := fun o l => by
    have hne : o ≠ p := fun e => by subst e; exact not_dead l hd
    exact ⟨by rw [inf_push _ _ _ (isSome_lt l), hinf o hne], (m1 o hne).symm⟩
  -- where an object of the new heap lies in the other one
  have hphi : ∀ o t m, inf (h.set p (.own cs)) o = some (t, m) → ∃ o', inf (h ++ [.own cs]) o' = some (t, m) ∧ μ2 o = μ1 o' ∧ (o' = if o = p then h.length else o) := by
    intro o t m e
    by_cases hne : o = p
    · subst hne
      rw [inf_own hset] at e
      exact ⟨h.length, by rw [inf_own hnew]; exact e, m2, by simp⟩
    · rw [hinf o hne] at e
      exact ⟨o, by rw [inf_push _ _ _ (isSome_lt (live_of e))]; exact e, m1 o hne, by simp [hne]⟩
  have hrel : Rel μ2 (h.set p (.own cs)) w1 := by
    refine ⟨fun o c e => ?_, fun o c e i v hv => ?_, fun o es e => ?_, fun o o' t m t' m' e1 ht e2 hz hne hb => ?_⟩
    · by_cases hne : o = p
      · subst hne
        rw [hset] at e
        cases e
        obtain ⟨h1, h2, h3, h4⟩ := t1.rel.own h.length cs hnew
        rw [m2]
        refine ⟨h1, h2, h3, fun i v hv => ?_⟩
        obtain ⟨k1, d, k2, k3⟩ := h4 i v hv
        exact ⟨k1, d, k2, k3.to A (halive i v hv)⟩
      · rw [hother o hne] at e
        have hl : o < h.length := (List.getElem?_eq_some_iff.1 e).1
        obtain ⟨h1, h2, h3, h4⟩ := t1.rel.own o c (by rw [List.getElem?_append_left hl]; exact e)
        rw [m1 o hne]
        refine ⟨h1, h2, h3, fun i v hv => ?_⟩
        obtain ⟨k1, d, k2, k3⟩ := h4 i v hv
        obtain ⟨_, _, _, q4⟩ := T0.rel.own o c e
        obtain ⟨_, _, _, q⟩ := q4 i v hv
        exact ⟨k1, d, k2, k3.to A q.al⟩
    · have hne : o ≠ p := fun e2 => by subst e2; rw [hset] at e; cases e
      rw [hother o hne] at e
      have hl : o < h.length := (List.getElem?_eq_some_iff.1 e).1
      obtain ⟨k1, d, k2, k3⟩ := t1.rel.ro o c (by rw [List.getElem?_append_left hl]; exact e) i v hv
      obtain ⟨_, _, _, q⟩ := T0.rel.ro o c e i v hv
      rw [m1 o hne]
      exact ⟨k1, d, k2, k3.to A q.al⟩
    · have hne : o ≠ p := fun e2 => by subst e2; rw [hset] at e; cases e
      rw [hother o hne] at e
      have hl : o < h.length := (List.getElem?_eq_some_iff.1 e).1
      obtain ⟨h1, ms, ck, h2, h3, h4⟩ := t1.rel.mp o es (by rw [List.getElem?_append_left hl]; exact e)
      rw [m1 o hne]
      refine ⟨h1, ms, ck, h2, h3, fun i k v hv => ?_⟩
      obtain ⟨k1, m, k2, k3, k4⟩ := h4 i k v hv
      obtain ⟨_, _, _, _, _, q4⟩ := T0.rel.mp o es e
      obtain ⟨_, _, _, q5, q6⟩ := q4 i k v hv
      exact ⟨k1, m, k2, k3.to A q5.al, k4.to A q6.al⟩
    · obtain ⟨a1, b1, c1, d1⟩ := hphi o t m e1
      obtain ⟨a2, b2, c2, d2⟩ := hphi o' t' m' e2
      rw [c1, c2] at hb
      have l1 := inf_lt e1
      have l2 := inf_lt e2
      simp at l1 l2
      refine t1.rel.sep a1 a2 t m t' m' b1 ht b2 hz (fun e => hne ?_) hb
      rw [d1, d2] at e
      split at e <;> split at e <;> omega
  have tt := T0.trans t1
  have hlen := T0.step.len
  refine (?_ : OpOK P (execOp a.eval o) w _)
  unfold OpOK
  rw [run1]
  refine ⟨_, _, μ2, hK, ⟨hrel, ⟨by simpa using hlen, fun o l => ?_, fun o t m ho e => ?_⟩, tt.keep, fun b hb => ?_, fun b hb => ?_⟩, ?_, (hf.step t1.step).to A hf.al⟩
  · have hl0 := isSome_lt l
    have hne : o ≠ p := by omega
    rw [hinf o hne]; exact T0.step.alive o l
  · have hne : o ≠ p := by omega
    rw [hinf o hne] at e
    obtain ⟨n, e1, e2, e3⟩ := T0.step.same o t m ho e
    exact ⟨n, e1, e2, fun hmn => by rw [m1 o hne, hmu1 o (live_of e), e3 hmn]⟩
  · obtain ⟨o, t, m, e, ht, hb⟩ := hb
    obtain ⟨a1, b1, c1, _⟩ := hphi o t m e
    exact tt.mine b ⟨a1, t, m, b1, ht, by rw [← c1]; exact hb⟩
  · obtain ⟨o, t, m, e, ht, hb⟩ := hb
    obtain ⟨a1, b1, c1, _⟩ := hphi o t m e
    exact tt.has b ⟨a1, t, m, b1, ht, by rw [← c1]; exact hb⟩
  · have e1 : inf (h ++ [.own cs]) h.length = inf (h.set p (.own cs)) p := by rw [inf_own hnew, inf_own hset]
    rcases hform with ⟨n, off, rfl⟩ | ⟨n, off, len, sz, rfl⟩
    · simp only [AVal.at_, VR, PR] at vx ⊢
      rw [← e1, m2]; exact vx
    · simp only [AVal.at_, VR, SR] at vx ⊢
      rw [← e1, m2]; exact vx
end
end Go.Proofs.Ytdmhchgaeepdmaa.Cl
