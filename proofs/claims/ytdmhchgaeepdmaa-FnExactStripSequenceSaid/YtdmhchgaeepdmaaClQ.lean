/- The clean machine: dead places filled. No claim is stated here. -/
import Derived.Test.YtdmhchgaeepdmaaClK
set_option linter.unusedVariables false
set_option linter.unusedSimpArgs false
namespace Go.Proofs.Ytdmhchgaeepdmaa.Cl
open Go
abbrev Fil := Nat → Option (List AVal)
def fillO (f : Option (List AVal)) (x : AObj) : AObj := match x, f with
  | .dead, some cs => .own cs
  | x, _ => x
def fill (F : Fil) (h : H) : H := h.mapIdx fun i x => fillO (F i) x
theorem fill_len (F : Fil) (h : H) : (fill F h).length = h.length := by simp [fill]
theorem fill_get (F : Fil) (h : H) (i : Nat) : (fill F h)[i]? = (h[i]?).map (fillO (F i)) := by simp [fill, List.getElem?_mapIdx]
theorem fillO_live {f : Option (List AVal)} {x : AObj} (h : x ≠ .dead) : fillO f x = x := by
  unfold fillO
  cases x <;> first | rfl | exact absurd rfl h
theorem fill_live {F : Fil} {h : H} {i : Nat} {x : AObj} (e : h[i]? = some x) (hx : x ≠ .dead) : (fill F h)[i]? = some x := by
  rw [fill_get, e]; simp [fillO_live hx]
theorem fill_none (h : H) : fill (fun _ => none) h = h := by
  apply List.ext_getElem?
  intro i
  rw [fill_get]
  cases h[i]? with
  | none => rfl
  | some x => cases x <;> rfl
theorem fill_fill (F G : Fil) (h : H) : fill F (fill G h) = fill (fun i => (G i).orElse fun _ => F i) h := by
  apply List.ext_getElem?
  intro i
  rw [fill_get, fill_get, fill_get]
  cases h[i]? with
  | none => rfl
  | some x => cases x <;> cases hg : G i <;> simp [fillO]
theorem fill_set (F : Fil) (h : H) (n : Nat) {x : AObj} (hx : x ≠ .dead) : fill F (h.set n x) = (fill F h).set n x := by
  apply List.ext_getElem?
  intro i
  rw [fill_get, List.getElem?_set, List.getElem?_set, fill_len]
  split
  · split
    · simp [fillO_live hx]
    · rfl
  · rw [fill_get]
theorem fill_app (F : Fil) (h : H) {x : AObj} (hx : x ≠ .dead) : fill F (h ++ [x]) = fill F h ++ [x] := by
  apply List.ext_getElem?
  intro i
  rw [fill_get]
  by_cases hi : i < h.length
  · rw [List.getElem?_append_left hi, List.getElem?_append_left (by rw [fill_len]; exact hi), fill_get]
  · rw [List.getElem?_append_right (by omega), List.getElem?_append_right (by rw [fill_len]; omega), fill_len]
    cases hq : [x][i - h.length]? with
    | none => rfl
    | some y =>
      have : y = x := by
        have := List.mem_of_getElem? hq
        simpa using this
      subst this
      simp [fillO_live hx]
/-- One place filled. -/
def one1 (n : Nat) (cs : List AVal) : Fil := fun i => if i = n then some cs else none
theorem set_fill {h : H} {n : Nat} (cs : List AVal) (e : h[n]? = some .dead) : h.set n (.own cs) = fill (one1 n cs) h := by
  apply List.ext_getElem?
  intro i
  rw [fill_get, List.getElem?_set]
  unfold one1
  have hl := (List.getElem?_eq_some_iff.1 e).1
  by_cases hi : n = i
  · subst hi
    rw [if_pos rfl, if_pos hl, if_pos rfl, e]; rfl
  · rw [if_neg hi, if_neg (fun e => hi e.symm)]
    cases h[i]? with
    | none => rfl
    | some x => cases x <;> rfl
/-! ### reading and writing in a filled heap -/
section
variable {h : H} (F : Fil)
theorem cells_fill {o n cs} (e : cells h o n = some cs) : cells (fill F h) o n = some cs := by
  unfold cells at e ⊢
  split at e
  · next c hc => rw [fill_live hc (by simp)]; exact e
  · next c hc => rw [fill_live hc (by simp)]; exact e
  · cases e
theorem owned_fill {o n cs} (e : owned h o n = some cs) : owned (fill F h) o n = some cs := by
  unfold owned at e ⊢
  split at e
  · next c hc => rw [fill_live hc (by simp)]; exact e
  · cases e
theorem range_fill {o n off k cs} (e : range h o n off k = some cs) : range (fill F h) o n off k = some cs := by
  unfold range at e ⊢
  cases o with
  | none => exact e
  | some o =>
    simp only at e ⊢
    obtain ⟨c, h1, h2⟩ := Option.bind_eq_some_iff.1 e
    rw [cells_fill F h1]; exact h2
theorem cell_fill {p v} (e : cell h p = some v) : cell (fill F h) p = some v := by
  unfold cell at e ⊢
  cases ho : p.o with
  | none => rw [ho] at e; exact e
  | some o =>
    rw [ho] at e
    simp only at e ⊢
    obtain ⟨c, h1, h2⟩ := Option.bind_eq_some_iff.1 e
    rw [cells_fill F h1]; exact h2
theorem put1_fill {p v h'} (e : put1 h p v = some h') : put1 (fill F h) p v = some (fill F h') := by
  unfold put1 at e ⊢
  cases ho : p.o with
  | none => rw [ho] at e; cases e
  | some o =>
    rw [ho] at e
    simp only at e ⊢
    obtain ⟨c, h1, h2⟩ := Option.bind_eq_some_iff.1 e
    rw [owned_fill F h1]
    simp only [Option.bind_some]
    split at h2
    · next hl => cases h2; rw [if_pos hl, fill_set F _ _ (by simp)]
    · cases h2
theorem putN_fill {o n off vs h'} (e : putN h o n off vs = some h') : putN (fill F h) o n off vs = some (fill F h') := by
  unfold putN at e ⊢
  cases o with
  | none => cases e
  | some o =>
    simp only at e ⊢
    obtain ⟨c, h1, h2⟩ := Option.bind_eq_some_iff.1 e
    rw [owned_fill F h1]
    simp only [Option.bind_some]
    split at h2
    · next hl => cases h2; rw [if_pos hl, fill_set F _ _ (by simp)]
    · cases h2
theorem sread_fill {s cs} (e : sread h s = some cs) : sread (fill F h) s = some cs := by
  unfold sread at e ⊢
  split
  · next hz => rw [if_pos hz] at e; exact e
  · next hz => rw [if_neg hz] at e; exact range_fill F e
theorem okS_fill {s} (e : okS h s) : okS (fill F h) s := by
  unfold okS at e ⊢
  cases ho : s.o with
  | none => trivial
  | some o =>
    rw [ho] at e
    simp only at e ⊢
    cases hc : cells h o s.n with
    | none => rw [hc] at e; cases e
    | some c => rw [cells_fill F hc]; rfl
variable {T : Tab} {S : SatT}
theorem ldT_fill {t p K} (e : ldT T t p h K) : ldT T t p (fill F h) K := by
  unfold ldT at e ⊢
  split at e
  · obtain ⟨x, a, b⟩ := e; exact ⟨x, cell_fill F a, b⟩
  · obtain ⟨x, a, b⟩ := e; exact ⟨x, cell_fill F a, b⟩
  · obtain ⟨x, a, b⟩ := e; exact ⟨x, cell_fill F a, b⟩
  · obtain ⟨x, a, b⟩ := e; exact ⟨x, cell_fill F a, b⟩
  · obtain ⟨x, a, b⟩ := e; exact ⟨x, range_fill F a, b⟩
  · obtain ⟨x, a, b⟩ := e; exact ⟨x, range_fill F a, b⟩
  · obtain ⟨x, a, b⟩ := e; exact ⟨x, cell_fill F a, b⟩
  · obtain ⟨x, a, b⟩ := e; exact ⟨x, cell_fill F a, b⟩
  · obtain ⟨x, a, b⟩ := e; exact ⟨x, cell_fill F a, b⟩
  · exact e
theorem st1_fill {p v K} (e : st1 p v h K) : st1 p v (fill F h) fun h2 => ∃ h1, K h1 ∧ h2 = fill F h1 := by
  obtain ⟨h', a, b⟩ := e; exact ⟨_, put1_fill F a, _, b, rfl⟩
theorem stN_fill {p k vs K} (e : stN p k vs h K) : stN p k vs (fill F h) fun h2 => ∃ h1, K h1 ∧ h2 = fill F h1 := by
  obtain ⟨h', a, b, c⟩ := e; exact ⟨_, a, putN_fill F b, _, c, rfl⟩
theorem stT_fill {t p v K} (e : stT T t p v h K) : stT T t p v (fill F h) fun h2 => ∃ h1, K h1 ∧ h2 = fill F h1 := by
  unfold stT at e ⊢
  cases hA : isAggT T t with
  | true =>
    rw [hA] at e
    simp only [cond_true] at e ⊢
    split at e
    · exact stN_fill F e
    · exact e.elim
  | false =>
    rw [hA] at e
    simp only [cond_false] at e ⊢
    cases hc : (v.isCell && (tget T t).size == 1) with
    | true => rw [hc] at e; exact st1_fill F e
    | false => rw [hc] at e; exact e.elim
theorem App_fill {z s m xs s' h'} (e : App z s m xs h s' h') : App z s m xs (fill F h) s' (fill F h') := by
  cases e with
  | zero a => exact .zero a
  | fresh a b =>
    rw [fill_app F _ (by simp)]
    have := App.fresh (z := z) (xs := xs) (h := fill F h) a b
    rw [fill_len] at this
    exact this
  | fits a b c d e => exact .fits a b c d (putN_fill F e)
  | grows a b c d e f => rw [fill_set F _ _ (by simp)]; exact .grows a b c d e (owned_fill F f)
theorem app_fill {s x z K} (e : app s x z h K) : app s x z (fill F h) fun s' h2 => ∃ h1, K s' h1 ∧ h2 = fill F h1 := by
  obtain ⟨xs, s', h', a, b, c, d, k⟩ := e
  exact ⟨xs, s', _, sread_fill F a, b, c, App_fill F d, _, k, rfl⟩
theorem copyS_fill {s x z K} (e : copyS s x z h K) : copyS s x z (fill F h) fun n h2 => ∃ h1, K n h1 ∧ h2 = fill F h1 := by
  obtain ⟨xs, h', a, b, c, d, k⟩ := e
  exact ⟨xs, _, range_fill F a, b, c, putN_fill F d, _, k, rfl⟩
theorem clearS_fill {s z K} (e : clearS s z h K) : clearS s z (fill F h) fun h2 => ∃ h1, K h1 ∧ h2 = fill F h1 := by
  unfold clearS at e ⊢
  split
  · next hz => rw [if_pos hz] at e; exact ⟨_, e, rfl⟩
  · next hz =>
    rw [if_neg hz] at e
    obtain ⟨h', a, b, k⟩ := e
    exact ⟨_, a, putN_fill F b, _, k, rfl⟩
theorem cut_fill {s z lo hi K} (e : cut s z lo hi h K) : cut s z lo hi (fill F h) K := by
  obtain ⟨a, b, c⟩ := e
  exact ⟨a, okS_fill F b, c⟩
theorem cut_lin (s z lo hi) : Lin (cut s z lo hi h) := (((Lin.ret _).and _).and _).and _ |>.and _
theorem callK_fill {t f args h'} {v : AVal} (hc : ∀ v, S f args h v h' → S f args (fill F h) v (fill F h')) (e : callK S T t f args h fun v2 h2 => v2 = v ∧ h2 = h') :
    callK S T t f args (fill F h) fun v2 h2 => v2 = v ∧ h2 = fill F h' := by
  unfold callK at e ⊢
  split at e <;> (obtain ⟨x, h1, a, b, rfl⟩ := e; exact ⟨x, _, hc _ a, b, rfl⟩)
theorem rr_fill {o : Oper} {fr : Frame} {v : AVal} (hm : isMut o.op = false) (e : Rr S T o fr h v) : Rr S T o fr (fill F h) v := by
  unfold Rr at e ⊢
  cases hr : isRead o.op with
  | false =>
    rw [pure_eq o fr hm hr h (fill F h)] at e
    rw [same_eq o fr hm (fill F h)]
    exact Lin.mono (opK_lin (S := S) (T := T) (h := fill F h) o fr) (K := fun p => p.1 = v ∧ h = h) (K' := fun p => p.1 = v ∧ fill F h = fill F h) (fun p hp => ⟨hp.1, rfl⟩) e
  | true =>
    unfold opK at e ⊢
    cases ho : o.op <;> rw [ho] at hr <;> first
      | (simp [isRead] at hr; done)
      | skip
    · simp only [ho] at e ⊢
      split at e
      · next p he => exact Lin.mono (ldT_lin _ _) (K := fun v2 => v2 = v ∧ True) (fun v2 h => ⟨h.1, trivial⟩) (ldT_fill F e)
      · exact e.elim
    · simp only [ho] at e ⊢
      split at e
      · split at e
        · next a b ea eb =>
          obtain ⟨hz, e⟩ := bif_true e
          rw [hz]
          exact cut_fill F e
        · exact e.elim
      · split at e
        · obtain ⟨hz, e⟩ := bif_true e
          rw [hz]
          obtain ⟨a, b, c, d⟩ := e
          exact ⟨a, b, c, d⟩
        · exact e.elim
      · exact e.elim
/-- What an operation does in a heap it does in the filled heap, too. -/
theorem opK_fill {o : Oper} {fr : Frame} {v : AVal} {h' : H} (ha : isAlloc o.op = false) (hc : ∀ f args v, (∀ {μ w ds}, VRs μ h fr ds → Rel μ h w → ∃ ds2, VRs μ h args ds2) → S f args h v h' → S f args (fill F h) v (fill F h'))
    (e : opK S T o fr h fun v2 h2 => v2 = v ∧ h2 = h') : opK S T o fr (fill F h) fun v2 h2 => v2 = v ∧ h2 = fill F h' := by
  have dn : ∀ {v2 : AVal} {h2 : H}, (∃ h1, (v2 = v ∧ h1 = h') ∧ h2 = fill F h1) → v2 = v ∧ h2 = fill F h' := fun ⟨_, ⟨a, b⟩, c⟩ => ⟨a, by rw [c, b]⟩
  cases hm : isMut o.op with
  | false =>
    have hh := op_same hm e
    subst hh
    exact rr_fill F hm e
  | true =>
    unfold opK at e ⊢
    cases ho : o.op <;> rw [ho] at hm ha <;> first
      | (simp [isMut] at hm; done)
      | (simp [isAlloc] at ha; done)
      | skip
    · simp only [ho] at e ⊢
      split at e
      · next p he => exact Lin.mono (stT_lin _ _ _) (K := fun h2 => ∃ h1, (AVal.gone = v ∧ h1 = h') ∧ h2 = fill F h1) (fun h2 hx => dn hx) (stT_fill F e)
      · exact e.elim
    · next c =>
      simp only [ho] at e ⊢
      split at e
      · exact callK_fill F (fun v => hc _ _ v fun {μ w ds} hf r => ⟨_, maps_VRs (a := ⟨ds.toArray, []⟩) (by simpa using hf) _⟩) e
      · obtain ⟨f, cap, a, b⟩ := e
        refine ⟨f, cap, a, callK_fill F (fun v => hc _ _ v fun {μ w ds} hf r => ?_) b⟩
        next g hg _ =>
        have hv := ev_sound (a := ⟨ds.toArray, []⟩) (μ := μ) (h := h) (fr := fr) (by simpa using hf) g
        rw [a] at hv
        simp only [VR] at hv
        obtain ⟨dc, _, hdc⟩ := hv
        exact ⟨_, VRs.append (maps_VRs (a := ⟨ds.toArray, []⟩) (by simpa using hf) _) hdc⟩
      · next hcal => simp [isMut, hcal] at hm
      · split at e
        · obtain ⟨hz, e⟩ := bif_true e
          rw [hz]
          exact Lin.mono (app_lin _ _ _) (K := fun p => ∃ h1, (AVal.sl p.1 = v ∧ h1 = h') ∧ p.2 = fill F h1) (K' := fun p => AVal.sl p.1 = v ∧ p.2 = fill F h') (fun p hx => dn hx) (app_fill F e)
        · exact e.elim
      · split at e
        · obtain ⟨hz, e⟩ := bif_true e
          rw [hz]
          exact Lin.mono (copyS_lin _ _ _) (K := fun p => ∃ h1, (AVal.int .i64 p.1 = v ∧ h1 = h') ∧ p.2 = fill F h1) (K' := fun p => AVal.int .i64 p.1 = v ∧ p.2 = fill F h') (fun p hx => dn hx) (copyS_fill F e)
        · exact e.elim
      · split at e
        · obtain ⟨hz, e⟩ := bif_true e
          rw [hz]
          exact Lin.mono (clearS_lin _ _) (K := fun h2 => ∃ h1, (AVal.gone = v ∧ h1 = h') ∧ h2 = fill F h1) (fun h2 hx => dn hx) (clearS_fill F e)
        · exact e.elim
      · next hcal => simp [isMut, hcal] at hm
      · next hcal => simp [isMut, hcal] at hm
      · exact e.elim
end
end Go.Proofs.Ytdmhchgaeepdmaa.Cl
