/- The clean machine: regions and code. No claim is stated here. -/
import Derived.Test.YtdmhchgaeepdmaaClG
import Derived.LoopN
set_option linter.unusedVariables false
set_option linter.unusedSimpArgs false
namespace Go.Proofs.Ytdmhchgaeepdmaa.Cl
open Go
section
variable {P : Program} {T : Tab} {S : SatT}

theorem OpOK.upon {o : Oper} {a : Act} {w : World} {R : Value → World → Prop} {next : Act → World → Prop} {Q : Exit → Act → World → Prop} (h : OpOK P (execOp a.eval o) w R)
    (hn : ∀ v w', R v w' → next (a.put o.dst v) w') : o.wp P a w next Q := by
  unfold OpOK at h
  unfold Oper.wp Oper.upon
  split at h
  · next v w' e => rw [e]; exact hn _ _ h
  · next w' e => rw [e]; exact hn _ _ h
  · next f args w' e =>
    rw [e]
    refine Calls.mono h fun e w'' ⟨v, he, hr⟩ => ?_
    rw [he]
    exact hn _ _ hr
  · exact h.elim
theorem put_VRs {μ h} {fr : Frame} {a : Act} {d : Option Nat} {v : AVal} {x : Value} (hf : VRs μ h fr a.tmps.toList) (hv : VR μ h v x) : VRs μ h (put fr d v) (a.put d x).tmps.toList := by
  cases d with
  | none => exact hf
  | some d =>
    simp only [put, Act.put, Array.toList_setIfInBounds]
    exact hf.set d hv
theorem put_defers (a : Act) (d : Option Nat) (x : Value) : (a.put d x).defers = a.defers := by cases d <;> rfl
theorem yielded_of {μ h} {fr : Frame} {a : Act} {ops : Array Oper} {j d : Nat} (hf : VRs μ h fr a.tmps.toList) (hd : dstOf ops.toList j = some d) {v : AVal} (e : fr.getD d .undef = v) (hu : v ≠ .undef) :
    ∃ x, a.tmps[d]? = some x ∧ VR μ h v x ∧ yielded ops a.tmps j = (match x with | .bool b => some b | _ => none) := by
  rw [List.getD_eq_getElem?_getD] at e
  cases hq : fr[d]? with
  | none => rw [hq] at e; exact absurd e.symm hu
  | some v' =>
    rw [hq] at e
    obtain rfl : v' = v := e
    obtain ⟨x, h1, h2⟩ := hf.get hq
    rw [Array.getElem?_toList] at h1
    refine ⟨x, h1, h2, ?_⟩
    unfold dstOf at hd
    rw [Array.getElem?_toList] at hd
    unfold yielded
    rw [hd]
    simp only [Option.bind_some, h1]
    cases x <;> rfl
theorem set_same {fr : Frame} {d : Nat} {v : AVal} (e : fr.getD d .undef = v) (hu : v ≠ .undef) : fr.set d v = fr := by
  rw [List.getD_eq_getElem?_getD] at e
  cases hq : fr[d]? with
  | none => rw [hq] at e; exact absurd e.symm hu
  | some v' =>
    rw [hq] at e
    obtain rfl : v' = v := e
    apply List.ext_getElem?
    intro i
    rw [List.getElem?_set]
    split
    · next h => subst h; rw [if_pos (List.getElem?_eq_some_iff.1 hq).1, hq]
    · rfl
/-- A region in the order of the text. -/
theorem runOps_sound (hS : ∀ f args h v h2, S f args h v h2 → Sat P f args h v h2) (hT : TOK P T) {ops : Array Oper} {k : Frame → H → Prop} {Q : Exit → Act → World → Prop} :
    ∀ (l : List Oper) (i : Nat), ops.toList.drop i = l → ∀ {μ : Mu} {h : H} {w : World} {fr : Frame} {a : Act}, Rel μ h w → VRs μ h fr a.tmps.toList → runOps S T ops.toList l k fr h →
      (∀ μ' h' w' fr' a', Tr μ h w μ' h' w' → VRs μ' h' fr' a'.tmps.toList → a'.defers = a.defers → k fr' h' → Q .normal a' w') → wpOps P ops Q (List.range' i l.length) a w
  | [], i, _, μ, h, w, fr, a, r, hf, hR, hQ => hQ μ h w fr a (Tr.refl r) hf rfl hR
  | o :: l, i, hl, μ, h, w, fr, a, r, hf, hR, hQ => by
    have ho : ops[i]? = some o := by
      rw [← Array.getElem?_toList]
      have := congrArg (·[0]?) hl
      simpa using this
    have hl' : ops.toList.drop (i + 1) = l := by
      rw [← List.drop_drop, hl]; rfl
    rw [List.length_cons, List.range'_succ]
    simp only [wpOps, ho]
    have stepOK : ∀ {K : AVal → H → Prop}, opK S T o fr h K → (∀ v h', K v h' → runOps S T ops.toList l k (put fr o.dst v) h') →
        o.wp P a w (wpOps P ops Q (List.range' (i + 1) l.length)) Q ∨ (o.asks P a w ∧ LetsOut Q) := by
      intro K hK hn
      refine .inl ((op_sound hS hT r hf hK).upon fun x w' ⟨v, h', μ', h1, h2, h3⟩ => ?_)
      refine runOps_sound hS hT l (i + 1) hl' h2.rel (put_VRs (VRs.step h2.step hf) h3) (hn v h' h1) fun μ2 h2' w2 fr2 a2 t2 f2 d2 k2 => ?_
      exact hQ μ2 h2' w2 fr2 a2 (h2.trans t2) f2 (by rw [d2, put_defers]) k2
    have skipOK : runOps S T ops.toList l k (put fr o.dst .gone) h → wpOps P ops Q (List.range' (i + 1) l.length) (a.put o.dst undef) w := by
      intro hK
      refine runOps_sound hS hT l (i + 1) hl' r (put_VRs (v := .gone) (x := undef) hf (by simp only [VR]; rfl)) hK fun μ2 h2' w2 fr2 a2 t2 f2 d2 k2 => ?_
      exact hQ μ2 h2' w2 fr2 a2 t2 f2 (by rw [d2, put_defers]) k2
    unfold runOps at hR
    cases hg : o.guard with
    | none =>
      rw [hg] at hR
      rw [if_pos (by unfold Region.wanted; rw [hg])]
      exact stepOK hR fun v h' hK => hK
    | some g =>
      obtain ⟨j, want⟩ := g
      rw [hg] at hR
      simp only at hR
      have hw : Region.wanted o (yielded ops a.tmps) = (yielded ops a.tmps j == some want) := by unfold Region.wanted; rw [hg]
      cases hd : dstOf ops.toList j with
      | none => rw [hd] at hR; exact hR.elim
      | some d =>
        rw [hd] at hR
        simp only at hR
        split at hR
        · next b e =>
          obtain ⟨x, hx1, hx2, hx3⟩ := yielded_of hf hd e (by simp)
          simp only [VR] at hx2
          subst hx2
          have es := set_same e (by simp)
          cases b <;> cases want <;> simp only [cond_true, cond_false, es] at hR <;> first
            | (rw [if_pos (by rw [hw, hx3]; rfl)]; exact stepOK hR fun v h' hK => hK)
            | (rw [if_neg (by rw [hw, hx3]; simp)]; exact skipOK hR)
        · next e =>
          obtain ⟨x, hx1, hx2, hx3⟩ := yielded_of hf hd e (by simp)
          simp only [VR] at hx2
          subst hx2
          rw [if_neg (by rw [hw, hx3]; simp)]
          exact skipOK hR
        · exact hR.elim
end
end Go.Proofs.Ytdmhchgaeepdmaa.Cl
