/- The clean machine: objects laid in other places of the heap; calls in a heap with filled places. No claim is stated here. -/
import Derived.Test.YtdmhchgaeepdmaaClQ
set_option linter.unusedVariables false
set_option linter.unusedSimpArgs false
namespace Go.Proofs.Ytdmhchgaeepdmaa.Cl
open Go
abbrev live (h : H) (o : Nat) : Prop := (inf h o).isSome = true
mutual
def al (h : H) : AVal → Prop
  | .ptr p => ∀ o, p.o = some o → live h o
  | .sl s => ∀ o, s.o = some o → live h o
  | .map r => ∀ o, r = some o → live h o
  | .func _ cap => als h cap
  | .agg cs => als h cs
  | .tuple vs => als h vs
  | .undef => True | .gone => True | .bool _ => True | .int _ _ => True | .str _ => True | .nilFunc => True
def als (h : H) : List AVal → Prop
  | [] => True
  | c :: cs => al h c ∧ als h cs
end
mutual
theorem VR.al {μ h} : ∀ {c v}, VR μ h c v → al h c
  | .undef, v, _ => by simp only [Cl.al]
  | .gone, v, _ => by simp only [Cl.al]
  | .bool b, v, _ => by simp only [Cl.al]
  | .int k n, v, _ => by simp only [Cl.al]
  | .str _, v, _ => by simp only [Cl.al]
  | .nilFunc, v, _ => by simp only [Cl.al]
  | .ptr p, v, r => by
    simp only [VR, PR] at r
    simp only [Cl.al]
    intro o e
    rw [e] at r
    exact r.1
  | .sl p, v, r => by
    simp only [VR, SR] at r
    simp only [Cl.al]
    intro o e
    rw [e] at r
    exact r.1
  | .map p, v, r => by
    simp only [VR, MR] at r
    simp only [Cl.al]
    intro o e
    rw [e] at r
    exact r.1
  | .func f cap, v, r => by
    simp only [VR] at r
    simp only [Cl.al]
    obtain ⟨ds, e, r⟩ := r
    exact VRs.al r
  | .agg cs, v, r => by
    simp only [VR] at r
    simp only [Cl.al]
    obtain ⟨ds, e, r, c⟩ := r
    exact VRs.al r
  | .tuple cs, v, r => by
    simp only [VR] at r
    simp only [Cl.al]
    obtain ⟨ds, e, r⟩ := r
    exact VRs.al r
theorem VRs.al {μ h} : ∀ {cs ds}, VRs μ h cs ds → als h cs
  | [], ds, _ => by simp only [als]
  | c :: cs, ds, r => by
    simp only [VRs] at r
    obtain ⟨d, ds', e, h1, h2⟩ := r
    simp only [als]
    exact ⟨VR.al h1, VRs.al h2⟩
end
mutual
theorem al_both {h1 h2 h : H} (hb : ∀ o, live h1 o → live h2 o → live h o) : ∀ {c}, al h1 c → al h2 c → al h c
  | .undef, _, _ => by simp only [al]
  | .gone, _, _ => by simp only [al]
  | .bool b, _, _ => by simp only [al]
  | .int k n, _, _ => by simp only [al]
  | .str _, _, _ => by simp only [al]
  | .nilFunc, _, _ => by simp only [al]
  | .ptr p, a, b => by simp only [al] at *; exact fun o e => hb o (a o e) (b o e)
  | .sl p, a, b => by simp only [al] at *; exact fun o e => hb o (a o e) (b o e)
  | .map p, a, b => by simp only [al] at *; exact fun o e => hb o (a o e) (b o e)
  | .func f cap, a, b => by simp only [al] at *; exact als_both hb a b
  | .agg cap, a, b => by simp only [al] at *; exact als_both hb a b
  | .tuple cap, a, b => by simp only [al] at *; exact als_both hb a b
theorem als_both {h1 h2 h : H} (hb : ∀ o, live h1 o → live h2 o → live h o) : ∀ {cs}, als h1 cs → als h2 cs → als h cs
  | [], _, _ => by simp only [als]
  | c :: cs, a, b => by simp only [als] at *; exact ⟨al_both hb a.1 b.1, als_both hb a.2 b.2⟩
end
/-- Two heaps that have the same objects, in the same places, as far as a third one has them. -/
def Agree (h : H) (μ1 : Mu) (h1 : H) (μ2 : Mu) (h2 : H) : Prop := ∀ o, live h o → inf h1 o = inf h2 o ∧ μ1 o = μ2 o
mutual
theorem VR.to {h μ1 h1 μ2 h2} (A : Agree h μ1 h1 μ2 h2) : ∀ {c v}, al h c → VR μ1 h1 c v → VR μ2 h2 c v
  | .undef, v, _, _ => by simp only [VR]
  | .gone, v, _, r => by simpa only [VR] using r
  | .bool b, v, _, r => by simpa only [VR] using r
  | .int k n, v, _, r => by simpa only [VR] using r
  | .str _, v, _, r => by simpa only [VR] using r
  | .nilFunc, v, _, r => by simpa only [VR] using r
  | .ptr p, v, a, r => by
    simp only [VR, PR, al] at *
    split
    · next e => rw [e] at r; exact r
    · next o e =>
      rw [e] at r
      obtain ⟨e1, e2⟩ := A o (a o e)
      rw [← e1, ← e2]
      exact r
  | .sl p, v, a, r => by
    simp only [VR, SR, al] at *
    split
    · next e => rw [e] at r; exact r
    · next o e =>
      rw [e] at r
      obtain ⟨e1, e2⟩ := A o (a o e)
      rw [← e1, ← e2]
      exact r
  | .map p, v, a, r => by
    simp only [VR, MR, al] at *
    split
    · exact r
    · next o =>
      obtain ⟨e1, e2⟩ := A o (a o rfl)
      rw [← e1, ← e2]
      exact r
  | .func f cap, v, a, r => by
    simp only [VR, al] at *
    obtain ⟨ds, e, r⟩ := r
    exact ⟨ds, e, VRs.to A a r⟩
  | .agg cs, v, a, r => by
    simp only [VR, al] at *
    obtain ⟨ds, e, r, c⟩ := r
    exact ⟨ds, e, VRs.to A a r, c⟩
  | .tuple cs, v, a, r => by
    simp only [VR, al] at *
    obtain ⟨ds, e, r⟩ := r
    exact ⟨ds, e, VRs.to A a r⟩
theorem VRs.to {h μ1 h1 μ2 h2} (A : Agree h μ1 h1 μ2 h2) : ∀ {cs ds}, als h cs → VRs μ1 h1 cs ds → VRs μ2 h2 cs ds
  | [], ds, _, r => by simpa only [VRs] using r
  | c :: cs, ds, a, r => by
    simp only [VRs, als] at *
    obtain ⟨d, ds', e, h1, h2⟩ := r
    exact ⟨d, ds', e, VR.to A a.1 h1, VRs.to A a.2 h2⟩
end
theorem live_of {h : H} {o : Nat} {t m : Nat} (e : inf h o = some (t, m)) : live h o := by unfold live; rw [e]; rfl
theorem inf_own {h : H} {o : Nat} {cs} (e : h[o]? = some (.own cs)) : inf h o = some (0, cs.length) := by unfold inf; rw [e]
theorem inf_ro {h : H} {o : Nat} {cs} (e : h[o]? = some (.ro cs)) : inf h o = some (1, cs.length) := by unfold inf; rw [e]
theorem inf_mp {h : H} {o : Nat} {cs} (e : h[o]? = some (.mp cs)) : inf h o = some (2, 0) := by unfold inf; rw [e]
theorem inf_dead {h : H} {o : Nat} (e : h[o]? = some .dead) : inf h o = none := by unfold inf; rw [e]
theorem inf_none {h : H} {o : Nat} (e : h[o]? = none) : inf h o = none := by unfold inf; rw [e]
theorem not_dead {h : H} {o : Nat} (l : live h o) : h[o]? ≠ some .dead := fun e => by unfold live at l; rw [inf_dead e] at l; cases l
theorem dead_of {h : H} {o : Nat} (hl : o < h.length) (e : inf h o = none) : h[o]? = some .dead := by
  unfold inf at e
  split at e <;> first | (cases e; done) | skip
  next hn1 hn2 hn3 =>
  rw [List.getElem?_eq_getElem hl] at *
  cases hx : h[o] with
  | own cs => rw [hx] at hn1; exact absurd rfl (hn1 cs)
  | ro cs => rw [hx] at hn2; exact absurd rfl (hn2 cs)
  | mp cs => rw [hx] at hn3; exact absurd rfl (hn3 cs)
  | dead => rfl
section
variable {P : Program} {T : Tab} {S : SatT}
theorem inf_fill_live {F : Fil} {h : H} {o : Nat} (l : live h o) : inf (fill F h) o = inf h o := by
  have hd := not_dead l
  unfold inf
  rw [fill_get]
  cases hx : h[o]? with
  | none => rfl
  | some x =>
    have : x ≠ .dead := fun e => hd (by rw [hx, e])
    simp only [Option.map_some, fillO_live this]
/-- A heap of which a filled one tells, told alone. -/
theorem Rel.unfill {μ μ0 : Mu} {F : Fil} {h : H} {w w0 : World} (r : Rel μ (fill F h) w) (r0 : Rel μ0 h w0) : Rel μ h w := by
  have A : Agree h μ (fill F h) μ h := fun o l => ⟨inf_fill_live l, rfl⟩
  refine ⟨fun o cs e => ?_, fun o cs e i v hv => ?_, fun o es e => ?_, fun o o' t m t' m' e1 ht e2 hz hne hb => ?_⟩
  · obtain ⟨h1, h2, h3, h4⟩ := r.own o cs (fill_live e (by simp))
    refine ⟨h1, h2, h3, fun i v hv => ?_⟩
    obtain ⟨k1, d, k2, k3⟩ := h4 i v hv
    obtain ⟨_, _, _, q4⟩ := r0.own o cs e
    obtain ⟨_, _, _, q⟩ := q4 i v hv
    exact ⟨k1, d, k2, k3.to A q.al⟩
  · obtain ⟨k1, d, k2, k3⟩ := r.ro o cs (fill_live e (by simp)) i v hv
    obtain ⟨_, _, _, q⟩ := r0.ro o cs e i v hv
    exact ⟨k1, d, k2, k3.to A q.al⟩
  · obtain ⟨h1, ms, ck, h2, h3, h4⟩ := r.mp o es (fill_live e (by simp))
    refine ⟨h1, ms, ck, h2, h3, fun i k v hv => ?_⟩
    obtain ⟨k1, m, k2, k3, k4⟩ := h4 i k v hv
    obtain ⟨_, _, _, _, _, q4⟩ := r0.mp o es e
    obtain ⟨_, _, _, q5, q6⟩ := q4 i k v hv
    exact ⟨k1, m, k2, k3.to A q5.al, k4.to A q6.al⟩
  · exact r.sep o o' t m t' m' (by rw [inf_fill_live (live_of e1)]; exact e1) ht (by rw [inf_fill_live (live_of e2)]; exact e2) hz hne hb
/-- The places filled are dead ones. -/
def Fits (F : Fil) (h : H) : Prop := ∀ o cs, F o = some cs → h[o]? = some .dead
theorem VR.unfill {μ : Mu} {F : Fil} {h : H} {c v} (a : Cl.al h c) (r : VR μ (fill F h) c v) : VR μ h c v := r.to (fun o l => ⟨inf_fill_live l, rfl⟩) a
theorem VRs.unfill {μ : Mu} {F : Fil} {h : H} {c v} (a : als h c) (r : VRs μ (fill F h) c v) : VRs μ h c v := r.to (fun o l => ⟨inf_fill_live l, rfl⟩) a
theorem inf_fill_at {F : Fil} {h : H} {o : Nat} {cs} (hF : F o = some cs) (e : h[o]? = some .dead) : (fill F h)[o]? = some (.own cs) := by
  rw [fill_get, e, Option.map_some, hF]; rfl
/-- What a step brings about beside filled places. -/
theorem Tr.fill {μ μ' : Mu} {F : Fil} {h h' : H} {w w' : World} (hF : Fits F h) (hF' : Fits F h') (r : Rel μ (fill F h) w) (t : Tr μ h w μ' h' w') :
    ∃ μ2, Tr μ (Cl.fill F h) w μ2 (Cl.fill F h') w' ∧ ∀ {c v}, VR μ' h' c v → VR μ2 (Cl.fill F h') c v := by
  classical
  have hm2 : ∀ o, live h' o → F o = none := fun o l => by
    cases e : F o with
    | none => rfl
    | some cs => exact absurd (hF' o cs e) (not_dead l)
  refine ⟨fun o => if (F o).isSome then μ o else μ' o, ?_⟩
  generalize hμ : (fun o => if (F o).isSome then μ o else μ' o) = μ2
  have m1 : ∀ o, F o = none → μ2 o = μ' o := fun o e => by rw [← hμ]; simp [e]
  have m2 : ∀ o cs, F o = some cs → μ2 o = μ o := fun o cs e => by rw [← hμ]; simp [e]
  have A : Agree h' μ' h' μ2 (Cl.fill F h') := fun o l => ⟨(inf_fill_live l).symm, (m1 o (hm2 o l)).symm⟩
  have hinf : ∀ o t m, inf (Cl.fill F h') o = some (t, m) → (∃ cs, F o = some cs ∧ inf (Cl.fill F h) o = some (t, m) ∧ t = 0) ∨ (F o = none ∧ inf h' o = some (t, m)) := by
    intro o t m e
    cases hf : F o with
    | none =>
      refine .inr ⟨rfl, ?_⟩
      unfold inf at e ⊢
      rw [fill_get] at e
      cases hx : h'[o]? with
      | none => rw [hx] at e; cases e
      | some x =>
        rw [hx] at e
        simp only [Option.map_some, hf] at e
        have : fillO none x = x := by cases x <;> rfl
        rw [this] at e
        exact e
    | some cs =>
      rw [inf_own (inf_fill_at hf (hF' o cs hf))] at e
      refine .inl ⟨cs, rfl, ?_, ?_⟩
      · rw [inf_own (inf_fill_at hf (hF o cs hf))]; exact e
      · cases e; rfl
  have hst : Step μ (Cl.fill F h) μ2 (Cl.fill F h') := by
    refine ⟨by rw [fill_len, fill_len]; exact t.step.len, fun o l => ?_, fun o ty m ho e => ?_⟩
    · cases hf : F o with
      | some cs => rw [inf_own (inf_fill_at hf (hF' o cs hf))]; rfl
      | none =>
        have l' : live h o := by
          unfold live inf at *
          rw [fill_get] at l
          cases hx : h[o]? with
          | none => rw [hx] at l; cases l
          | some x =>
            rw [hx] at l
            simp only [Option.map_some, hf] at l
            have : fillO none x = x := by cases x <;> rfl
            rw [this] at l
            exact l
        have := t.step.alive o l'
        show (inf (Cl.fill F h') o).isSome = true
        rw [inf_fill_live this]; exact this
    · rw [fill_len] at ho
      rcases hinf o ty m e with ⟨cs, hf, e2, _⟩ | ⟨hf, e2⟩
      · exact ⟨m, e2, Nat.le_refl _, fun _ => m2 o cs hf⟩
      · obtain ⟨n, e3, h1, h2⟩ := t.step.same o ty m ho e2
        refine ⟨n, by rw [inf_fill_live (live_of e3)]; exact e3, h1, fun hmn => by rw [m1 o hf]; exact h2 hmn⟩
  have hblk : ∀ o cs, F o = some cs → (μ o).b < w.heap.size ∧ w'.heap[(μ o).b]? = w.heap[(μ o).b]? := by
    intro o cs hf
    have hq := inf_fill_at hf (hF o cs hf)
    obtain ⟨h1, _⟩ := r.own o cs hq
    refine ⟨h1, t.keep.block _ h1 ?_⟩
    rintro ⟨o', ty, m, e, ht, hb⟩
    have hne : o ≠ o' := fun e2 => by subst e2; exact not_dead (live_of e) (hF o cs hf)
    exact r.sep o o' 0 cs.length ty m (inf_own hq) (by decide) (by rw [inf_fill_live (live_of e)]; exact e) (fun h => absurd h ht) hne hb.symm
  have hcell : ∀ o cs i, F o = some cs → w'.cell? (place (μ o) i) = w.cell? (place (μ o) i) ∧ w'.frozen? (place (μ o) i) = w.frozen? (place (μ o) i) := by
    intro o cs i hf
    have := (hblk o cs hf).2
    unfold World.cell? World.frozen?
    simp only [place]
    rw [this]
    exact ⟨rfl, rfl⟩
  refine ⟨⟨⟨fun o cs e => ?_, fun o cs e i v hv => ?_, fun o es e => ?_, fun o o' ty m ty' m' e1 ht e2 hz hne hb => ?_⟩, hst, ⟨t.keep.os, t.keep.tape, t.keep.output, t.keep.size, fun k hk hn => ?_⟩, fun b hb => ?_, fun b hb => ?_⟩, fun {c v} hv => hv.to A hv.al⟩
  · cases hf : F o with
    | some cs' =>
      have e' := inf_fill_at hf (hF' o cs' hf)
      rw [e'] at e
      cases e
      obtain ⟨h1, h2, h3, h4⟩ := r.own o cs (inf_fill_at hf (hF o cs hf))
      rw [m2 o cs hf]
      refine ⟨Nat.lt_of_lt_of_le h1 t.keep.size, h2, fun i hi => ?_, fun i v hv => ?_⟩
      · rw [(hcell o cs i hf).1, (hcell o cs i hf).2]; exact h3 i hi
      · obtain ⟨k1, d, k2, k3⟩ := h4 i v hv
        exact ⟨k1, d, by rw [(hcell o cs i hf).1]; exact k2, k3.step hst⟩
    | none =>
      have e' : h'[o]? = some (.own cs) := by
        rw [fill_get] at e
        cases hx : h'[o]? with
        | none => rw [hx] at e; cases e
        | some x =>
          rw [hx] at e
          simp only [Option.map_some, hf] at e
          have : fillO none x = x := by cases x <;> rfl
          rw [this] at e
          exact e
      obtain ⟨h1, h2, h3, h4⟩ := t.rel.own o cs e'
      rw [m1 o hf]
      refine ⟨h1, h2, h3, fun i v hv => ?_⟩
      obtain ⟨k1, d, k2, k3⟩ := h4 i v hv
      exact ⟨k1, d, k2, k3.to A k3.al⟩
  · have hf : F o = none := by
      cases hf : F o with
      | none => rfl
      | some cs' => rw [inf_fill_at hf (hF' o cs' hf)] at e; cases e
    have e' : h'[o]? = some (.ro cs) := by
      rw [fill_get] at e
      cases hx : h'[o]? with
      | none => rw [hx] at e; cases e
      | some x =>
        rw [hx] at e
        simp only [Option.map_some, hf] at e
        have : fillO none x = x := by cases x <;> rfl
        rw [this] at e
        exact e
    obtain ⟨k1, d, k2, k3⟩ := t.rel.ro o cs e' i v hv
    rw [m1 o hf]
    exact ⟨k1, d, k2, k3.to A k3.al⟩
  · have hf : F o = none := by
      cases hf : F o with
      | none => rfl
      | some cs' => rw [inf_fill_at hf (hF' o cs' hf)] at e; cases e
    have e' : h'[o]? = some (.mp es) := by
      rw [fill_get] at e
      cases hx : h'[o]? with
      | none => rw [hx] at e; cases e
      | some x =>
        rw [hx] at e
        simp only [Option.map_some, hf] at e
        have : fillO none x = x := by cases x <;> rfl
        rw [this] at e
        exact e
    obtain ⟨h1, ms, ck, h2, h3, h4⟩ := t.rel.mp o es e'
    rw [m1 o hf]
    refine ⟨h1, ms, ck, h2, h3, fun i k v hv => ?_⟩
    obtain ⟨k1, m, k2, k3, k4⟩ := h4 i k v hv
    exact ⟨k1, m, k2, k3.to A k3.al, k4.to A k4.al⟩
  · have cross : ∀ o cs o' ty' m', F o = some cs → F o' = none → inf h' o' = some (ty', m') → (ty' = 1 → 0 < m') → (μ o).b = (μ' o').b → False := by
      intro o cs o' ty' m' hf hf' e2 hz hb
      have hq := inf_fill_at hf (hF o cs hf)
      rcases t.has (μ' o').b ⟨o', ty', m', e2, hz, rfl⟩ with ⟨o2, t2, m2', e3, hz2, hb2⟩ | hsz
      · have hne : o ≠ o2 := fun e => by subst e; exact not_dead (live_of e3) (hF o cs hf)
        exact r.sep o o2 0 cs.length t2 m2' (inf_own hq) (by decide) (by rw [inf_fill_live (live_of e3)]; exact e3) hz2 hne (by rw [hb2, hb])
      · have := (hblk o cs hf).1
        omega
    rcases hinf o ty m e1 with ⟨cs, hf, e3, _⟩ | ⟨hf, e3⟩
    · rcases hinf o' ty' m' e2 with ⟨cs', hf', e4, _⟩ | ⟨hf', e4⟩
      · rw [m2 o cs hf, m2 o' cs' hf'] at hb
        exact r.sep o o' ty m ty' m' e3 ht e4 hz hne hb
      · rw [m2 o cs hf, m1 o' hf'] at hb
        exact cross o cs o' ty' m' hf hf' e4 hz hb
    · rcases hinf o' ty' m' e2 with ⟨cs', hf', e4, _⟩ | ⟨hf', e4⟩
      · rw [m1 o hf, m2 o' cs' hf'] at hb
        exact cross o' cs' o ty m hf' hf e3 (fun h => absurd h ht) hb.symm
      · rw [m1 o hf, m1 o' hf'] at hb
        exact t.rel.sep o o' ty m ty' m' e3 ht e4 hz hne hb
  · refine t.keep.block k hk fun hm => hn ?_
    obtain ⟨o, ty, m, e, ht, hb⟩ := hm
    exact ⟨o, ty, m, by rw [inf_fill_live (live_of e)]; exact e, ht, hb⟩
  · obtain ⟨o, ty, m, e, ht, hb⟩ := hb
    rcases hinf o ty m e with ⟨cs, hf, e2, _⟩ | ⟨hf, e2⟩
    · rw [m2 o cs hf] at hb
      exact .inl ⟨o, ty, m, e2, ht, hb⟩
    · rw [m1 o hf] at hb
      rcases t.mine b ⟨o, ty, m, e2, ht, hb⟩ with ⟨o2, t2, m2', e3, ht2, hb2⟩ | hs
      · exact .inl ⟨o2, t2, m2', by rw [inf_fill_live (live_of e3)]; exact e3, ht2, hb2⟩
      · exact .inr hs
  · obtain ⟨o, ty, m, e, ht, hb⟩ := hb
    rcases hinf o ty m e with ⟨cs, hf, e2, _⟩ | ⟨hf, e2⟩
    · rw [m2 o cs hf] at hb
      exact .inl ⟨o, ty, m, e2, ht, hb⟩
    · rw [m1 o hf] at hb
      rcases t.has b ⟨o, ty, m, e2, ht, hb⟩ with ⟨o2, t2, m2', e3, ht2, hb2⟩ | hs
      · exact .inl ⟨o2, t2, m2', by rw [inf_fill_live (live_of e3)]; exact e3, ht2, hb2⟩
      · exact .inr hs
/-- A call in a heap with filled places. -/
theorem Sat.fill {F : Fil} {f : Nat} {args : List AVal} {h h' : H} {v : AVal} (hF : Fits F h) (hF' : Fits F h') {μ0 : Mu} {w0 : World} {ds0 : List Value} (r0 : Rel μ0 h w0) (a0 : VRs μ0 h args ds0)
    (s : Sat P f args h v h') : Sat P f args (Cl.fill F h) v (Cl.fill F h') := by
  refine ⟨s.1, fun μ w ds r hd => ?_⟩
  refine (s.2 μ w ds (r.unfill r0) (hd.unfill a0.al)).mono fun e w' ⟨x, μ', he, ht, hv⟩ => ?_
  obtain ⟨μ2, t2, k⟩ := ht.fill hF hF' r
  exact ⟨x, μ2, he, t2, k hv⟩
end
end Go.Proofs.Ytdmhchgaeepdmaa.Cl
