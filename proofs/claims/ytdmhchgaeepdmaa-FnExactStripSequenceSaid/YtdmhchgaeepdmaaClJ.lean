/- The clean machine: an operation sees of the frame and the heap what it reads. No claim is stated here. -/
import Derived.Test.YtdmhchgaeepdmaaClI
set_option linter.unusedVariables false
set_option linter.unusedSimpArgs false
namespace Go.Proofs.Ytdmhchgaeepdmaa.Cl
open Go
section
variable {T : Tab} {S : SatT} {h : H}
theorem parts_congr {fr fr' : Frame} {ps : Array (Nat × Operand)} (hp : ∀ x ∈ ps.toList.map (·.2), ev fr x = ev fr' x) : parts ps fr = parts ps fr' := by
  unfold parts
  apply List.map_congr_left
  intro p hm
  rw [hp p.2 (List.mem_map_of_mem hm)]
theorem opt_congr {fr fr' : Frame} {o : Option Operand} (hp : ∀ x ∈ o.toArray.toList, ev fr x = ev fr' x) : o.map (ev fr) = o.map (ev fr') := by
  cases o with
  | none => rfl
  | some x => simp only [Option.map_some]; rw [hp x (by simp)]
theorem opK_congr {o : Oper} {fr fr' : Frame} (hp : ∀ x ∈ o.op.operands.toList, ev fr x = ev fr' x) (K : AVal → H → Prop) : opK S T o fr h K = opK S T o fr' h K := by
  unfold opK
  cases ho : o.op with
  | move x => simp only [ho, Op.operands] at hp ⊢; rw [hp x (by simp)]
  | assign x => simp only [ho, Op.operands] at hp ⊢; rw [hp x (by simp)]
  | pick c a b => simp only [ho, Op.operands] at hp ⊢; rw [hp c (by simp), hp a (by simp), hp b (by simp)]
  | alloc t => rfl
  | box t x => simp only [ho, Op.operands] at hp ⊢; rw [hp x (by simp)]
  | build t ps =>
    simp only [ho, Op.operands] at hp ⊢
    rw [parts_congr (fr' := fr') (by simpa using hp)]
  | buildSlice t n ps =>
    simp only [ho, Op.operands] at hp ⊢
    rw [parts_congr (fr' := fr') (by simpa using hp)]
  | load t a => simp only [ho, Op.operands] at hp ⊢; rw [hp a (by simp)]
  | store t a x => simp only [ho, Op.operands] at hp ⊢; rw [hp a (by simp), hp x (by simp)]
  | nilCheck x => simp only [ho, Op.operands] at hp ⊢; rw [hp x (by simp)]
  | binOp op t x y _ => simp only [ho, Op.operands] at hp ⊢; rw [hp x (by simp), hp y (by simp)]
  | unOp op t x => simp only [ho, Op.operands] at hp ⊢; rw [hp x (by simp)]
  | convert s d x => simp only [ho, Op.operands] at hp ⊢; rw [hp x (by simp)]
  | makeFunc fn first cap =>
    simp only [ho, Op.operands] at hp ⊢
    rw [List.map_congr_left (f := ev fr) (g := ev fr') (l := cap.toList) (fun x hx => hp x (by simp; exact .inr (by simpa using hx)))]
  | makeSlice t n c => simp only [ho, Op.operands] at hp ⊢; rw [hp n (by simp), hp c (by simp)]
  | slice t x lo hi mx =>
    simp only [ho, Op.operands] at hp ⊢
    rw [hp x (by simp), opt_congr (fr := fr) (fr' := fr') (o := lo) (fun y hy => hp y (by simp at hy ⊢; simp [hy])), opt_congr (fr := fr) (fr' := fr') (o := hi) (fun y hy => hp y (by simp at hy ⊢; simp [hy]))]
  | fieldAddr t x f => simp only [ho, Op.operands] at hp ⊢; rw [hp x (by simp)]
  | field t x f => simp only [ho, Op.operands] at hp ⊢; rw [hp x (by simp)]
  | indexAddr t x i => simp only [ho, Op.operands] at hp ⊢; rw [hp x (by simp), hp i (by simp)]
  | index t x i => simp only [ho, Op.operands] at hp ⊢; rw [hp x (by simp), hp i (by simp)]
  | extract x i => simp only [ho, Op.operands] at hp ⊢; rw [hp x (by simp)]
  | call c =>
    simp only [ho, Op.operands, Call.operands] at hp ⊢
    have ha : c.args.toList.map (ev fr) = c.args.toList.map (ev fr') := List.map_congr_left fun x hx => hp x (by simp; exact .inr (by simpa using hx))
    rw [ha]
    split
    · rfl
    · next f _ hc =>
      rw [hp f (by rw [hc]; simp)]
    all_goals rfl
  | _ => rfl
theorem readT_same {t : Nat} {p : Pt} {h' : H} {R : AVal → Prop} (e : bif isAggT T t then range h' p.o p.n p.off (tget T t).size = range h p.o p.n p.off (tget T t).size else cell h' p = cell h p) (K : AVal → Prop) :
    ldT T t p h K → ldT T t p h' K := by
  intro hK
  unfold ldT at *
  unfold isAggT at e
  split at hK
  all_goals first
    | (next e1 => rw [e1] at e; simp only [cond_true, cond_false] at e; obtain ⟨n, h1, h2⟩ := hK; exact ⟨n, by rw [e]; exact h1, h2⟩)
    | exact hK.elim
theorem same_eq (o : Oper) (fr : Frame) (hm : isMut o.op = false) (h : H) (K : AVal → H → Prop) : opK S T o fr h K = opK S T o fr h (fun v _ => K v h) := by
  unfold opK
  cases ho : o.op with
  | call c =>
    rw [ho] at hm
    simp only
    unfold isMut at hm
    split <;> first
      | rfl
      | (next hc => simp only [hc] at hm; cases hm)
      | (next hc _ => simp only [hc] at hm; cases hm)
      | (next hc => simp [hc] at hm)
  | _ => first
    | rfl
    | (rw [ho] at hm; simp [isMut] at hm; done)
theorem pure_eq (o : Oper) (fr : Frame) (hm : isMut o.op = false) (hr : isRead o.op = false) (h h0 : H) (K : AVal → H → Prop) : opK S T o fr h K = opK S T o fr h0 (fun v _ => K v h) := by
  unfold opK
  cases ho : o.op with
  | call c =>
    rw [ho] at hm
    simp only
    unfold isMut at hm
    split <;> first
      | rfl
      | (next hc => simp only [hc] at hm; cases hm)
      | (next hc _ => simp only [hc] at hm; cases hm)
      | (next hc => simp [hc] at hm)
  | _ => first
    | rfl
    | (rw [ho] at hm; simp [isMut] at hm; done)
    | (rw [ho] at hr; simp [isRead] at hr; done)
/-- What an operation that changes nothing tells. -/
theorem nonmut (o : Oper) (fr : Frame) (hm : isMut o.op = false) : ∃ R : H → AVal → Prop, (∀ h K, opK S T o fr h K ↔ ∃ v, R h v ∧ K v h) ∧ (isRead o.op = false → ∀ h h' v, R h v → R h' v) ∧
    (∀ h h' K', chkK T o fr h h' K' → (∀ v, R h v → R h' v) ∧ K') := by
  refine ⟨fun h v => opK S T o fr h (fun v2 _ => v2 = v), fun h K => ?_, fun hr h h' v hv => ?_, fun h h' K' hK => ?_⟩
  · rw [same_eq o fr hm h K]
    obtain ⟨R, hR⟩ := Lin.two (opK_lin (S := S) (T := T) (h := h) o fr)
    rw [hR]
    constructor
    · rintro ⟨v, h2, a, b⟩; exact ⟨v, (hR _).2 ⟨v, h2, a, rfl⟩, b⟩
    · rintro ⟨v, a, b⟩
      obtain ⟨v2, h2, c, rfl⟩ := (hR _).1 a
      exact ⟨v2, h2, c, b⟩
  · show opK S T o fr h' _
    rw [pure_eq o fr hm hr h' h]; exact hv
  · unfold chkK at hK
    cases hr : isRead o.op with
    | false =>
      refine ⟨fun v hv => by show opK S T o fr h' _; rw [pure_eq o fr hm hr h' h]; exact hv, ?_⟩
      cases ho : o.op <;> simp only [ho] at hK hr <;> first | exact hK | (simp [isRead] at hr; done)
    | true =>
      cases ho : o.op <;> simp only [ho] at hK hr <;> first | (simp [isRead] at hr; done) | skip
      · next t a =>
        unfold opK
        simp only [ho]
        split at hK
        · next p e =>
          cases hA : isAggT T t with
          | true => rw [hA] at hK; exact ⟨fun v => readT_same (R := fun _ => True) (by rw [hA]; exact hK.1) _, hK.2⟩
          | false => rw [hA] at hK; exact ⟨fun v => readT_same (R := fun _ => True) (by rw [hA]; exact hK.1) _, hK.2⟩
        · next hne =>
          exact ⟨fun v hv => hv.elim, hK⟩
      · next t x lo hi mx =>
        unfold opK
        simp only [ho]
        split at hK
        · next e0 s e1 e2 =>
          simp only [e1, e2]
          refine ⟨fun v hv => ?_, hK.2⟩
          cases mx with
          | some m => exact hv
          | none =>
            simp only at hv ⊢
            split at hv
            · next k1 a k2 b e3 e4 =>
              obtain ⟨hb, h1, h2, h3⟩ := bif_true hv
              rw [hb]
              exact ⟨h1, hK.1, h3⟩
            · exact hv
        · next hne =>
          refine ⟨fun v hv => ?_, hK⟩
          split at hv
          · next e0 s e1 e2 => exact absurd e2 (hne _ _ e1)
          · exact hv
          · exact hv
end
end Go.Proofs.Ytdmhchgaeepdmaa.Cl
