/- The clean machine: every order of a region with allocations in any order. No claim is stated here. -/
import Derived.Test.YtdmhchgaeepdmaaClU
import Derived.LoopN
set_option linter.unusedVariables false
set_option linter.unusedSimpArgs false
namespace Go.Proofs.Ytdmhchgaeepdmaa.Cl
open Go
section
variable {P : Program} {T : Tab} {S : SatT}
/-! ### every order of a drawn region -/
theorem go_acc (m : Region.Mode) (ops : Array Oper) : ∀ (fuel t : Nat) (listed : Array Bool) (acc : List Nat), Region.linearise.go m ops fuel t listed acc = acc.reverse ++ Region.linearise.go m ops fuel t listed []
  | 0, t, listed, acc => by simp [Region.linearise.go]
  | fuel + 1, t, listed, acc => by
    unfold Region.linearise.go
    simp only
    split
    · next i _ =>
      rw [go_acc m ops fuel _ _ (i :: acc), go_acc m ops fuel _ _ [i]]
      simp
    · simp
theorem agree_ev {ops : List Oper} {o : Oper} {fr fr' : Frame} (h : agree ops o fr fr') : ∀ x ∈ o.op.operands.toList, ev fr x = ev fr' x := by
  intro x hx
  cases x with
  | tmp t =>
    refine h t ?_
    unfold readsOf tmpsOf
    rw [List.mem_append]
    exact .inl (List.mem_filterMap.2 ⟨.tmp t, hx, rfl⟩)
  | const v => rfl
  | global g => rfl
  | func f => rfl
theorem agree_guard {ops : List Oper} {o : Oper} {fr fr' : Frame} (h : agree ops o fr fr') {j : Nat} {want : Bool} {d : Nat} (hg : o.guard = some (j, want)) (hd : dstOf ops j = some d) : fr.getD d .undef = fr'.getD d .undef := by
  refine h d ?_
  unfold readsOf
  rw [hg, List.mem_append]
  refine .inr ?_
  show d ∈ (dstOf ops j).toList
  rw [hd]
  simp
theorem simsX_mem {n k : Nat} : ∀ {l m : List Stp}, SimsX n k l m → ∀ b ∈ m, ∃ a ∈ l, SimX n k a b
  | [], [], _, b, hb => by simp at hb
  | a :: l, b' :: m, h, b, hb => by
    rcases List.mem_cons.1 hb with rfl | hb
    · exact ⟨a, by simp, h.1⟩
    · obtain ⟨a', h1, h2⟩ := simsX_mem h.2 b hb
      exact ⟨a', by simp [h1], h2⟩
  | [], _ :: _, h, _, _ => h.elim
  | _ :: _, [], h, _, _ => h.elim
theorem simsX_map {n k : Nat} {β : Type} (f : Oper → Nat → β) : ∀ {l m : List Stp}, SimsX n k l m → l.map (fun s => f s.o s.i) = m.map (fun s => f s.o s.i)
  | [], [], _ => rfl
  | a :: l, b :: m, h => by simp [h.1.i, h.1.o, simsX_map f h.2]
  | [], _ :: _, h => h.elim
  | _ :: _, [], h => h.elim
theorem exec_slot (hT : TOK P T) {ops : Array Oper} (hdeps : ∀ (p : Nat) o, ops.toList[p]? = some o → ∀ d ∈ deps o, d < p) {μ0 : Mu} {h0 : H} {w0 : World} {Q : Exit → Act → World → Prop} {fr2 : Frame} {h2 : H} :
    ∀ (fuel t : Nat) (listed : Array Bool) (L : List Stp) {fr : Frame} {h : H} {μ : Mu} {w : World} {a : Act}, L.length ≤ fuel → ValX (Sat P) T ops.toList h0.length fr h L fr2 h2 → (∀ s ∈ L, ops[s.i]? = some s.o) →
      (L.map fun s => (s.o, s.i)).Pairwise (fun p q => pairE ops.toList (befs ops.toList []) p q = true) → (∀ x ∈ L, ∀ y ∈ L, Both (Sat P) T (befs ops.toList []) x y) → (∀ x ∈ L, Good (Sat P) T h0.length ops.size x) → listed.size = ops.size →
      (∀ i, i < ops.size → (listed[i]? = some false ↔ ∃ s ∈ L, s.i = i)) → (∀ j x, listed[j]? = some true → bef (befs ops.toList []) j x = true → listed[x]? = some true) →
      Tr μ0 h0 w0 μ h w → VRs μ h fr a.tmps.toList → (∀ μ' w' a', Tr μ0 h0 w0 μ' h2 w' → VRs μ' h2 fr2 a'.tmps.toList → a'.defers = a.defers → Q .normal a' w') →
      wpOps P ops Q (Region.linearise.go .any ops fuel t listed []) a w := by
  intro fuel
  induction fuel with
  | zero =>
    intro t listed L fr h μ w a hlen hV _ _ _ _ _ _ _ t0 hf hQ
    have : L = [] := List.length_eq_zero_iff.1 (by omega)
    subst this
    cases hV
    exact hQ μ w a t0 hf rfl
  | succ fuel ih =>
    intro t listed L fr h μ w a hlen hV hops hpw hboth hgood hsz hlist hdown t0 hf hQ
    unfold Region.linearise.go
    simp only
    generalize hrs : ((List.range ops.size).filter fun i => !listed.getD i true && ((ops[i]?).map (·.after.all fun e => !Region.binds .any e || listed.getD e.on false)).getD false) = rs
    have hmem : ∀ i, i ∈ rs ↔ i < ops.size ∧ listed[i]? = some false ∧ ∃ o, ops[i]? = some o ∧ ∀ d ∈ deps o, listed[d]? = some true := by
      intro i
      rw [← hrs, List.mem_filter, List.mem_range, Bool.and_eq_true]
      constructor
      · rintro ⟨h1, h2, h3⟩
        refine ⟨h1, ?_, ?_⟩
        · rw [Array.getD_eq_getD_getElem?, Array.getElem?_eq_getElem (by omega)] at h2
          rw [Array.getElem?_eq_getElem (by omega)]
          simpa using h2
        · cases ho : ops[i]? with
          | none => rw [ho] at h3; simp at h3
          | some o =>
            rw [ho] at h3
            simp only [Option.map_some, Option.getD_some, Array.all_eq_true'] at h3
            refine ⟨o, rfl, fun d hd => ?_⟩
            unfold deps at hd
            rw [List.mem_map] at hd
            obtain ⟨e, he, rfl⟩ := hd
            rw [List.mem_filter] at he
            have := h3 e (by simpa using he.1)
            rw [he.2] at this
            simp only [Bool.not_true, Bool.false_or] at this
            rw [Array.getD_eq_getD_getElem?] at this
            cases hq : listed[e.on]? with
            | none => rw [hq] at this; simp at this
            | some b => rw [hq] at this; simp at this; rw [this]
      · rintro ⟨h1, h2, o, ho, h3⟩
        refine ⟨h1, ?_, ?_⟩
        · rw [Array.getD_eq_getD_getElem?, h2]; rfl
        · rw [ho]
          simp only [Option.map_some, Option.getD_some, Array.all_eq_true']
          intro e he
          cases hb : Region.binds .any e with
          | false => rfl
          | true =>
            have := h3 e.on (by unfold deps; exact List.mem_map_of_mem (List.mem_filter.2 ⟨by simpa using he, hb⟩))
            rw [Array.getD_eq_getD_getElem?, this]
            rfl
    split
    · next i hi =>
      rw [go_acc]
      simp only [List.reverse_cons, List.reverse_nil, List.nil_append, List.cons_append]
      obtain ⟨hi1, hi2, o, ho, hi3⟩ := (hmem i).1 (List.mem_of_getElem? hi)
      obtain ⟨s, hs, hsi⟩ := (hlist i hi1).1 hi2
      obtain ⟨pre, post, rfl⟩ := List.append_of_mem hs
      have hso : s.o = o := by
        have := hops s hs
        rw [hsi, ho] at this
        cases this
        rfl
      rw [List.map_append, List.map_cons, List.pairwise_append] at hpw
      obtain ⟨hp1, hp2, hp3⟩ := hpw
      have hap : ∀ x ∈ pre, ApartX ops.toList (befs ops.toList []) x s ∧ Both (Sat P) T (befs ops.toList []) x s ∧ Both (Sat P) T (befs ops.toList []) s x ∧ Good (Sat P) T h0.length ops.size x := by
        intro x hx
        have hxl : x ∈ pre ++ s :: post := by simp [hx]
        have hpe := hp3 (x.o, x.i) (List.mem_map.2 ⟨x, hx, rfl⟩) (s.o, s.i) (by simp)
        have hxo := hops x hxl
        have hxlt : x.i < ops.size := (Array.getElem?_eq_some_iff.1 hxo).1
        have hxun := (hlist x.i hxlt).2 ⟨x, hxl, rfl⟩
        have hb2 : bef (befs ops.toList []) s.i x.i = false := by
          cases hb : bef (befs ops.toList []) s.i x.i with
          | false => rfl
          | true =>
            rw [hsi] at hb
            obtain ⟨d, hd, h1⟩ := (bef_iff hdeps (by rw [Array.getElem?_toList]; exact ho) x.i).1 hb
            have hl := hi3 d hd
            rcases h1 with rfl | h1
            · rw [hl] at hxun; cases hxun
            · have := hdown d x.i hl h1
              rw [this] at hxun; cases hxun
        unfold pairE at hpe
        simp only [hb2, Bool.false_or, Bool.and_eq_true] at hpe
        obtain ⟨⟨⟨e1, e2⟩, e3⟩, ⟨e4, e5⟩, e6⟩ := hpe
        have hun : unord (befs ops.toList []) x.i s.i = true := by unfold unord; rw [hb2, e2]; rfl
        refine ⟨⟨by simpa using e1, hun, fun hx1 hs1 => ?_, fun d hd => ?_, fun d hd => ?_, fun d e hd he => ?_⟩, hboth x hxl s hs, hboth s hs x hxl, hgood x hxl⟩
        · rw [hx1, hs1] at e4; simpa using e4
        · rw [hd] at e5; simpa using e5
        · rw [hd] at e6; simpa using e6
        · unfold dstApart at e3; rw [hd, he] at e3; simpa using e3
      obtain ⟨pre', s', q1, ⟨qi, qo, qe, qd⟩, q3⟩ := frontX pre hV (hgood s hs) hap
      have hso' : s'.o = o := by rw [qo, hso]
      have hlen' : pre'.length = pre.length := by have := congrArg List.length (simsX_map (fun _ i => i) q1); simpa using this.symm
      -- the rest
      have hrest : ∀ {fr' : Frame} {h' : H} {μ' : Mu} {w' : World} {a' : Act}, ValX (Sat P) T ops.toList h0.length fr' h' (pre' ++ post) fr2 h2 → Tr μ0 h0 w0 μ' h' w' → VRs μ' h' fr' a'.tmps.toList → a'.defers = a.defers →
          wpOps P ops Q (Region.linearise.go .any ops fuel (t / rs.length) (listed.setIfInBounds i true) []) a' w' := by
        intro fr' h' μ' w' a' hV' ht hf' hd'
        have hmemL : ∀ y ∈ pre' ++ post, ∃ x ∈ pre ++ s :: post, SimX h0.length ops.size x y ∧ x.i ≠ i := by
          intro y hy
          rcases List.mem_append.1 hy with hy | hy
          · obtain ⟨x, hx, hxy⟩ := simsX_mem q1 y hy
            exact ⟨x, by simp [hx], hxy, by rw [← hsi]; exact pairE_ne (hp3 (x.o, x.i) (List.mem_map.2 ⟨x, hx, rfl⟩) (s.o, s.i) (by simp))⟩
          · exact ⟨y, by simp [hy], SimX.refl y, by rw [← hsi]; exact Ne.symm (pairE_ne ((List.pairwise_cons.1 hp2).1 (y.o, y.i) (List.mem_map.2 ⟨y, hy, rfl⟩)))⟩
        refine ih (t / rs.length) (listed.setIfInBounds i true) (pre' ++ post) (by simp at hlen ⊢; omega) hV' ?_ ?_ ?_ ?_ (by simpa using hsz) ?_ ?_ ht hf' fun μ2 w2 a2 t2 f2 d2 => hQ μ2 w2 a2 t2 f2 (d2.trans hd')
        · intro y hy
          obtain ⟨x, hx, hxy, _⟩ := hmemL y hy
          have := hops x hx
          rw [hxy.i, hxy.o] at this
          exact this
        · rw [List.map_append, ← simsX_map (fun o i => (o, i)) q1, List.pairwise_append]
          exact ⟨hp1, (List.pairwise_cons.1 hp2).2, fun x hx y hy => hp3 x hx y (List.mem_cons_of_mem _ hy)⟩
        · intro x hx y hy
          obtain ⟨x', hx', sx, _⟩ := hmemL x hx
          obtain ⟨y', hy', sy, _⟩ := hmemL y hy
          exact (hboth x' hx' y' hy').simX sx sy
        · intro x hx
          obtain ⟨x', hx', sx, _⟩ := hmemL x hx
          exact (hgood x' hx').sim sx
        · intro k hk
          rw [Array.getElem?_setIfInBounds]
          by_cases hki : i = k
          · subst hki
            rw [if_pos rfl, if_pos (by omega)]
            constructor
            · intro e; cases e
            · rintro ⟨y, hy, rfl⟩
              obtain ⟨x, _, sx, hxi⟩ := hmemL y hy
              exact absurd sx.i hxi
          · rw [if_neg hki, hlist k hk]
            constructor
            · rintro ⟨x, hx, rfl⟩
              rcases List.mem_append.1 hx with hx | hx
              · have : x.i ∈ pre'.map (fun s => s.i) := by rw [← simsX_map (fun _ i => i) q1]; exact List.mem_map.2 ⟨x, hx, rfl⟩
                obtain ⟨y, hy, hyx⟩ := List.mem_map.1 this
                exact ⟨y, by simp [hy], hyx⟩
              · rcases List.mem_cons.1 hx with rfl | hx
                · exact absurd hsi.symm hki
                · exact ⟨x, by simp [hx], rfl⟩
            · rintro ⟨y, hy, rfl⟩
              obtain ⟨x, hx, sx, _⟩ := hmemL y hy
              exact ⟨x, hx, sx.i⟩
        · intro j x hj hjx
          rw [Array.getElem?_setIfInBounds] at hj ⊢
          by_cases hix : i = x
          · subst hix; rw [if_pos rfl, if_pos (by omega)]
          · rw [if_neg hix]
            by_cases hij : i = j
            · subst hij
              obtain ⟨d, hd, h1⟩ := (bef_iff hdeps (by rw [Array.getElem?_toList]; exact ho) x).1 hjx
              have hl := hi3 d hd
              rcases h1 with rfl | h1
              · exact hl
              · exact hdown d x hl h1
            · rw [if_neg hij] at hj
              exact hdown j x hj hjx
      simp only [wpOps, ho]
      cases q3 with
      | cons k1 k2 k3 k4 k5 =>
        rw [hso'] at k2 k3 k4 k5
        cases hex : s'.ex with
        | true =>
          obtain ⟨hg, hop⟩ := k3 hex
          have hw : Region.wanted o (yielded ops a.tmps) = true := by
            unfold gOK at hg
            unfold Region.wanted
            cases hgd : o.guard with
            | none => rfl
            | some g =>
              obtain ⟨j, want⟩ := g
              rw [hgd] at hg
              obtain ⟨d, hd, he⟩ := hg
              rw [← agree_guard k2 hgd hd] at he
              obtain ⟨x, hx1, hx2, hx3⟩ := yielded_of hf hd he (by simp)
              simp only [VR] at hx2
              subst hx2
              simp [hx3]
          rw [if_pos hw]
          have hsi' : s'.i = i := by rw [qi, hsi]
          cases ha : isAlloc o.op with
          | true =>
            have hd := qd (by rw [← qe]; exact hex) (by rw [hso]; exact ha)
            unfold opX at hop
            rw [ha] at hop
            simp only [cond_true] at hop
            rw [k1, hsi'] at hop
            rw [hsi] at hd
            have hop' : opA (Sat P) T o fr h (h0.length + i) fun v h2 => v = s'.v ∧ h2 = s'.h' := by
              unfold opA at hop ⊢
              rw [opK_congr (agree_ev k2)]; exact hop
            refine .inl ((opA_sound (fun _ _ _ _ _ h => h) hT t0 (by omega) hd hf ha hop').upon fun x w' ⟨v, h', μ', ⟨e1, e2⟩, t2, v2, f2⟩ => ?_)
            subst e1 e2
            exact hrest k5 t2 (put_VRs f2 v2) (put_defers _ _ _)
          | false =>
            unfold opX at hop
            rw [ha] at hop
            simp only [cond_false] at hop
            rw [k1, ← opK_congr (agree_ev k2)] at hop
            refine .inl ((op_sound (fun _ _ _ _ _ h => h) hT t0.rel hf hop).upon fun x w' ⟨v, h', μ', ⟨e1, e2⟩, t2, v2⟩ => ?_)
            subst e1 e2
            exact hrest k5 (t0.trans t2) (put_VRs (VRs.step t2.step hf) v2) (put_defers _ _ _)
        | false =>
          obtain ⟨hg, hv, hh⟩ := k4 hex
          have hw : Region.wanted o (yielded ops a.tmps) = false := by
            unfold gNo at hg
            unfold Region.wanted
            cases hgd : o.guard with
            | none => rw [hgd] at hg; exact hg.elim
            | some g =>
              obtain ⟨j, want⟩ := g
              rw [hgd] at hg
              obtain ⟨d, hd, he⟩ := hg
              rw [← agree_guard k2 hgd hd] at he
              rcases he with he | he
              · obtain ⟨x, hx1, hx2, hx3⟩ := yielded_of hf hd he (by simp)
                simp only [VR] at hx2
                subst hx2
                cases want <;> simp [hx3]
              · obtain ⟨x, hx1, hx2, hx3⟩ := yielded_of hf hd he (by simp)
                simp only [VR] at hx2
                subst hx2
                simp [hx3]
          rw [if_neg (by rw [hw]; simp)]
          rw [hv, hh, k1] at k5
          exact hrest k5 t0 (put_VRs (v := .gone) (x := undef) hf (by simp only [VR]; rfl)) (put_defers _ _ _)
    · next hno =>
      cases L with
      | nil =>
        cases hV
        exact hQ μ w a t0 hf rfl
      | cons s L =>
        exfalso
        have hs := hops s (by simp)
        have hlt : s.i < ops.size := (Array.getElem?_eq_some_iff.1 hs).1
        have hin : s.i ∈ rs := (hmem s.i).2 ⟨hlt, (hlist s.i hlt).2 ⟨s, by simp, rfl⟩, s.o, hs, fun d hd => by
          have hd1 := hdeps s.i s.o (by rw [Array.getElem?_toList]; exact hs) d hd
          have hb : bef (befs ops.toList []) s.i d = true := (bef_iff hdeps (by rw [Array.getElem?_toList]; exact hs) d).2 ⟨d, hd, .inl rfl⟩
          have hdl : d < ops.size := by omega
          cases hq : listed[d]? with
          | none => rw [Array.getElem?_eq_none_iff] at hq; omega
          | some b =>
            cases b with
            | true => rfl
            | false =>
              obtain ⟨y, hy, rfl⟩ := (hlist d hdl).1 hq
              rcases List.mem_cons.1 hy with rfl | hy
              · omega
              · have := pairE_bef ((List.pairwise_cons.1 hpw).1 (y.o, y.i) (List.mem_map.2 ⟨y, hy, rfl⟩))
                have this' : bef (befs ops.toList []) s.i y.i = false := this
                rw [this'] at hb
                cases hb⟩
        have hpos : 0 < rs.length := List.length_pos_of_mem hin
        rw [List.getElem?_eq_getElem (Nat.mod_lt _ hpos)] at hno
        cases hno
end
end Go.Proofs.Ytdmhchgaeepdmaa.Cl
