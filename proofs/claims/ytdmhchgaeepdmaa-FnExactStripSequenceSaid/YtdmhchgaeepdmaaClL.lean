/- The clean machine: code and functions. No claim is stated here. -/
import Derived.Test.YtdmhchgaeepdmaaClV
import Derived.LoopN
set_option linter.unusedVariables false
set_option linter.unusedSimpArgs false
namespace Go.Proofs.Ytdmhchgaeepdmaa.Cl
open Go
section
variable {P : Program} {T : Tab} {S : SatT}
/-! ### every order of a drawn region -/
theorem sims_mem : ∀ {l m : List Stp}, Sims l m → ∀ b ∈ m, ∃ a ∈ l, Sim a b
  | [], [], _, b, hb => by simp at hb
  | a :: l, b' :: m, h, b, hb => by
    rcases List.mem_cons.1 hb with rfl | hb
    · exact ⟨a, by simp, h.1⟩
    · obtain ⟨a', h1, h2⟩ := sims_mem h.2 b hb
      exact ⟨a', by simp [h1], h2⟩
  | [], _ :: _, h, _, _ => h.elim
  | _ :: _, [], h, _, _ => h.elim
theorem sims_map {β : Type} (f : Nat → β) : ∀ {l m : List Stp}, Sims l m → l.map (fun s => f s.i) = m.map (fun s => f s.i)
  | [], [], _ => rfl
  | a :: l, b :: m, h => by simp [h.1.i, sims_map f h.2]
  | [], _ :: _, h => h.elim
  | _ :: _, [], h => h.elim
theorem exec_sched (hS : ∀ f args h v h2, S f args h v h2 → Sat P f args h v h2) (hT : TOK P T) {ops : Array Oper} (hok : okD ops.toList (befs ops.toList []) = true) {Q : Exit → Act → World → Prop} {fr2 : Frame} {h2 : H} :
    ∀ (fuel t : Nat) (listed : Array Bool) (L : List Stp) {fr : Frame} {h : H} {μ : Mu} {w : World} {a : Act}, L.length ≤ fuel → Val S T ops.toList fr h L fr2 h2 → (∀ s ∈ L, ops[s.i]? = some s.o) →
      (L.map (·.i)).Pairwise (fun x y => x ≠ y ∧ bef (befs ops.toList []) x y = false) → (∀ x ∈ L, ∀ y ∈ L, Both S T (befs ops.toList []) x y) → listed.size = ops.size →
      (∀ i, i < ops.size → (listed[i]? = some false ↔ ∃ s ∈ L, s.i = i)) → (∀ j x, listed[j]? = some true → bef (befs ops.toList []) j x = true → listed[x]? = some true) →
      Rel μ h w → VRs μ h fr a.tmps.toList → (∀ μ' w' a', Tr μ h w μ' h2 w' → VRs μ' h2 fr2 a'.tmps.toList → a'.defers = a.defers → Q .normal a' w') →
      wpOps P ops Q (Region.linearise.go .any ops fuel t listed []) a w := by
  obtain ⟨hdeps, hpair⟩ := okD_spec hok
  intro fuel
  induction fuel with
  | zero =>
    intro t listed L fr h μ w a hlen hV _ _ _ _ _ _ r hf hQ
    have : L = [] := List.length_eq_zero_iff.1 (by omega)
    subst this
    cases hV
    exact hQ μ w a (Tr.refl r) hf rfl
  | succ fuel ih =>
    intro t listed L fr h μ w a hlen hV hops hpw hboth hsz hlist hdown r hf hQ
    unfold Region.linearise.go
    simp only
    generalize hrs : ((List.range ops.size).filter fun i => !listed.getD i true && ((ops[i]?).map (·.after.all fun e => !Region.binds .any e || listed.getD e.on false)).getD false) = rs
    have hmem : ∀ i, i ∈ rs ↔ i < ops.size ∧ listed[i]? = some false ∧ ∃ o, ops[i]? = some o ∧ ∀ d ∈ deps o, listed[d]? = some true := by
      intro i
      rw [← hrs, List.mem_filter, List.mem_range, Bool.and_eq_true]
      constructor
      · rintro ⟨h1, h2, h3⟩
        refine ⟨h1, ?_, ?_⟩
        · rw [Array.getD_eq_getD_getElem?, Array.getElem?_eq_getElem (by omega)] at h2
          rw [Array.getElem?_eq_getElem (by omega)]
          simpa using h2
        · cases ho : ops[i]? with
          | none => rw [ho] at h3; simp at h3
          | some o =>
            rw [ho] at h3
            simp only [Option.map_some, Option.getD_some, Array.all_eq_true'] at h3
            refine ⟨o, rfl, fun d hd => ?_⟩
            unfold deps at hd
            rw [List.mem_map] at hd
            obtain ⟨e, he, rfl⟩ := hd
            rw [List.mem_filter] at he
            have := h3 e (by simpa using he.1)
            rw [he.2] at this
            simp only [Bool.not_true, Bool.false_or] at this
            rw [Array.getD_eq_getD_getElem?] at this
            cases hq : listed[e.on]? with
            | none => rw [hq] at this; simp at this
            | some b => rw [hq] at this; simp at this; rw [this]
      · rintro ⟨h1, h2, o, ho, h3⟩
        refine ⟨h1, ?_, ?_⟩
        · rw [Array.getD_eq_getD_getElem?, h2]; rfl
        · rw [ho]
          simp only [Option.map_some, Option.getD_some, Array.all_eq_true']
          intro e he
          cases hb : Region.binds .any e with
          | false => rfl
          | true =>
            have := h3 e.on (by unfold deps; exact List.mem_map_of_mem (List.mem_filter.2 ⟨by simpa using he, hb⟩))
            rw [Array.getD_eq_getD_getElem?, this]
            rfl
    split
    · next i hi =>
      rw [go_acc]
      simp only [List.reverse_cons, List.reverse_nil, List.nil_append, List.cons_append]
      obtain ⟨hi1, hi2, o, ho, hi3⟩ := (hmem i).1 (List.mem_of_getElem? hi)
      obtain ⟨s, hs, hsi⟩ := (hlist i hi1).1 hi2
      obtain ⟨pre, post, rfl⟩ := List.append_of_mem hs
      have hso : s.o = o := by
        have := hops s hs
        rw [hsi, ho] at this
        cases this
        rfl
      rw [List.map_append, List.map_cons, List.pairwise_append] at hpw
      obtain ⟨hp1, hp2, hp3⟩ := hpw
      have hap : ∀ x ∈ pre, Apart ops.toList (befs ops.toList []) x s ∧ Both S T (befs ops.toList []) x s ∧ Both S T (befs ops.toList []) s x := by
        intro x hx
        have hxl : x ∈ pre ++ s :: post := by simp [hx]
        obtain ⟨hne, hb1⟩ := hp3 x.i (List.mem_map_of_mem hx) s.i (by simp)
        have hxo := hops x hxl
        have hxlt : x.i < ops.size := (Array.getElem?_eq_some_iff.1 hxo).1
        have hxun := (hlist x.i hxlt).2 ⟨x, hxl, rfl⟩
        have hb2 : bef (befs ops.toList []) s.i x.i = false := by
          cases hb : bef (befs ops.toList []) s.i x.i with
          | false => rfl
          | true =>
            rw [hsi] at hb
            obtain ⟨d, hd, h1⟩ := (bef_iff hdeps (by rw [Array.getElem?_toList]; exact ho) x.i).1 hb
            have hl := hi3 d hd
            rcases h1 with rfl | h1
            · rw [hl] at hxun; cases hxun
            · have := hdown d x.i hl h1
              rw [this] at hxun; cases hxun
        have hun : unord (befs ops.toList []) x.i s.i = true := by unfold unord; rw [hb1, hb2]; rfl
        have hst : ops[s.i]? = some s.o := hops s hs
        have key : (¬ (isMut x.o.op = true ∧ isMut s.o.op = true)) ∧ (∀ d, x.o.dst = some d → d ∉ readsOf ops.toList s.o) ∧ (∀ d, s.o.dst = some d → d ∉ readsOf ops.toList x.o) ∧ ∀ d e, x.o.dst = some d → s.o.dst = some e → d ≠ e := by
          rcases Nat.lt_or_gt_of_ne hne with hlt | hlt
          · obtain ⟨h1, h2⟩ := hpair x.i s.i x.o s.o (by rw [Array.getElem?_toList]; exact hxo) (by rw [Array.getElem?_toList]; exact hst) hlt
            unfold pairOK at h1
            rw [hb2] at h1
            rw [Bool.false_or, Bool.and_eq_true, Bool.and_eq_true] at h1
            obtain ⟨⟨h3, h4⟩, h5⟩ := h1
            refine ⟨fun hh => by (rw [hh.1, hh.2] at h3; cases h3), fun d hd => ?_, fun d hd => ?_, fun d e hd he => ?_⟩
            · rw [hd] at h4; simpa using h4
            · rw [hd] at h5; simpa using h5
            · unfold dstApart at h2; rw [hd, he] at h2; simpa using h2
          · obtain ⟨h1, h2⟩ := hpair s.i x.i s.o x.o (by rw [Array.getElem?_toList]; exact hst) (by rw [Array.getElem?_toList]; exact hxo) hlt
            unfold pairOK at h1
            rw [hb1] at h1
            rw [Bool.false_or, Bool.and_eq_true, Bool.and_eq_true] at h1
            obtain ⟨⟨h3, h4⟩, h5⟩ := h1
            refine ⟨fun hh => by (rw [hh.1, hh.2] at h3; cases h3), fun d hd => ?_, fun d hd => ?_, fun d e hd he => ?_⟩
            · rw [hd] at h5; simpa using h5
            · rw [hd] at h4; simpa using h4
            · unfold dstApart at h2; rw [hd, he] at h2; intro hde; rw [hde] at h2; simp at h2
        exact ⟨⟨hun, key.1, key.2.1, key.2.2.1, key.2.2.2⟩, hboth x hxl s hs, hboth s hs x hxl⟩
      obtain ⟨pre', s', q1, q2, q3⟩ := front pre hV hap
      have hso' : s'.o = o := by rw [← q2.o, hso]
      have hlen' : pre'.length = pre.length := by have := congrArg List.length (sims_map (fun i => i) q1); simpa using this.symm
      -- the rest
      have hrest : ∀ {fr' : Frame} {h' : H} {μ' : Mu} {w' : World} {a' : Act}, Val S T ops.toList fr' h' (pre' ++ post) fr2 h2 → Tr μ h w μ' h' w' → VRs μ' h' fr' a'.tmps.toList → a'.defers = a.defers →
          wpOps P ops Q (Region.linearise.go .any ops fuel (t / rs.length) (listed.setIfInBounds i true) []) a' w' := by
        intro fr' h' μ' w' a' hV' ht hf' hd'
        have hmemL : ∀ y ∈ pre' ++ post, ∃ x ∈ pre ++ s :: post, Sim x y ∧ x.i ≠ i := by
          intro y hy
          rcases List.mem_append.1 hy with hy | hy
          · obtain ⟨x, hx, hxy⟩ := sims_mem q1 y hy
            exact ⟨x, by simp [hx], hxy, by rw [← hsi]; exact (hp3 x.i (List.mem_map_of_mem hx) s.i (by simp)).1⟩
          · exact ⟨y, by simp [hy], Sim.refl y, by rw [← hsi]; exact Ne.symm ((List.pairwise_cons.1 hp2).1 y.i (List.mem_map_of_mem hy)).1⟩
        refine ih (t / rs.length) (listed.setIfInBounds i true) (pre' ++ post) (by simp at hlen ⊢; omega) hV' ?_ ?_ ?_ (by simpa using hsz) ?_ ?_ ht.rel hf' fun μ2 w2 a2 t2 f2 d2 => hQ μ2 w2 a2 (ht.trans t2) f2 (d2.trans hd')
        · intro y hy
          obtain ⟨x, hx, hxy, _⟩ := hmemL y hy
          have := hops x hx
          rw [hxy.i, hxy.o] at this
          exact this
        · rw [List.map_append, ← sims_map (fun i => i) q1, List.pairwise_append]
          exact ⟨hp1, (List.pairwise_cons.1 hp2).2, fun x hx y hy => hp3 x hx y (by simp at hy ⊢; exact .inr hy)⟩
        · intro x hx y hy
          obtain ⟨x', hx', sx, _⟩ := hmemL x hx
          obtain ⟨y', hy', sy, _⟩ := hmemL y hy
          exact (hboth x' hx' y' hy').sim sx sy
        · intro k hk
          rw [Array.getElem?_setIfInBounds]
          by_cases hki : i = k
          · subst hki
            rw [if_pos rfl, if_pos (by omega)]
            constructor
            · intro e; cases e
            · rintro ⟨y, hy, rfl⟩
              obtain ⟨x, _, sx, hxi⟩ := hmemL y hy
              exact absurd sx.i hxi
          · rw [if_neg hki, hlist k hk]
            constructor
            · rintro ⟨x, hx, rfl⟩
              rcases List.mem_append.1 hx with hx | hx
              · have : x.i ∈ pre'.map (fun s => s.i) := by rw [← sims_map (fun i => i) q1]; exact List.mem_map_of_mem hx
                obtain ⟨y, hy, hyx⟩ := List.mem_map.1 this
                exact ⟨y, by simp [hy], hyx⟩
              · rcases List.mem_cons.1 hx with rfl | hx
                · exact absurd hsi.symm hki
                · exact ⟨x, by simp [hx], rfl⟩
            · rintro ⟨y, hy, rfl⟩
              obtain ⟨x, hx, sx, _⟩ := hmemL y hy
              exact ⟨x, hx, sx.i⟩
        · intro j x hj hjx
          rw [Array.getElem?_setIfInBounds] at hj ⊢
          by_cases hix : i = x
          · subst hix; rw [if_pos rfl, if_pos (by omega)]
          · rw [if_neg hix]
            by_cases hij : i = j
            · subst hij
              obtain ⟨d, hd, h1⟩ := (bef_iff hdeps (by rw [Array.getElem?_toList]; exact ho) x).1 hjx
              have hl := hi3 d hd
              rcases h1 with rfl | h1
              · exact hl
              · exact hdown d x hl h1
            · rw [if_neg hij] at hj
              exact hdown j x hj hjx
      simp only [wpOps, ho]
      cases q3 with
      | cons k1 k2 k3 k4 k5 =>
        rw [hso'] at k2 k3 k4 k5
        cases hex : s'.ex with
        | true =>
          obtain ⟨hg, hop⟩ := k3 hex
          have hw : Region.wanted o (yielded ops a.tmps) = true := by
            unfold gOK at hg
            unfold Region.wanted
            cases hgd : o.guard with
            | none => rfl
            | some g =>
              obtain ⟨j, want⟩ := g
              rw [hgd] at hg
              obtain ⟨d, hd, he⟩ := hg
              rw [← agree_guard k2 hgd hd] at he
              obtain ⟨x, hx1, hx2, hx3⟩ := yielded_of hf hd he (by simp)
              simp only [VR] at hx2
              subst hx2
              simp [hx3]
          rw [if_pos hw]
          rw [k1, ← opK_congr (agree_ev k2)] at hop
          refine .inl ((op_sound hS hT r hf hop).upon fun x w' ⟨v, h', μ', ⟨e1, e2⟩, t2, v2⟩ => ?_)
          subst e1 e2
          exact hrest k5 t2 (put_VRs (VRs.step t2.step hf) v2) (put_defers _ _ _)
        | false =>
          obtain ⟨hg, hv, hh⟩ := k4 hex
          have hw : Region.wanted o (yielded ops a.tmps) = false := by
            unfold gNo at hg
            unfold Region.wanted
            cases hgd : o.guard with
            | none => rw [hgd] at hg; exact hg.elim
            | some g =>
              obtain ⟨j, want⟩ := g
              rw [hgd] at hg
              obtain ⟨d, hd, he⟩ := hg
              rw [← agree_guard k2 hgd hd] at he
              rcases he with he | he
              · obtain ⟨x, hx1, hx2, hx3⟩ := yielded_of hf hd he (by simp)
                simp only [VR] at hx2
                subst hx2
                cases want <;> simp [hx3]
              · obtain ⟨x, hx1, hx2, hx3⟩ := yielded_of hf hd he (by simp)
                simp only [VR] at hx2
                subst hx2
                simp [hx3]
          rw [if_neg (by rw [hw]; simp)]
          rw [hv, hh, k1] at k5
          exact hrest k5 (Tr.refl r) (put_VRs (v := .gone) (x := undef) hf (by simp only [VR]; rfl)) (put_defers _ _ _)
    · next hno =>
      cases L with
      | nil =>
        cases hV
        exact hQ μ w a (Tr.refl r) hf rfl
      | cons s L =>
        exfalso
        have hs := hops s (by simp)
        have hlt : s.i < ops.size := (Array.getElem?_eq_some_iff.1 hs).1
        have hin : s.i ∈ rs := (hmem s.i).2 ⟨hlt, (hlist s.i hlt).2 ⟨s, by simp, rfl⟩, s.o, hs, fun d hd => by
          have hd1 := hdeps s.i s.o (by rw [Array.getElem?_toList]; exact hs) d hd
          have hb : bef (befs ops.toList []) s.i d = true := (bef_iff hdeps (by rw [Array.getElem?_toList]; exact hs) d).2 ⟨d, hd, .inl rfl⟩
          have hdl : d < ops.size := by omega
          cases hq : listed[d]? with
          | none => rw [Array.getElem?_eq_none_iff] at hq; omega
          | some b =>
            cases b with
            | true => rfl
            | false =>
              obtain ⟨y, hy, rfl⟩ := (hlist d hdl).1 hq
              rcases List.mem_cons.1 hy with rfl | hy
              · omega
              · have := (List.pairwise_cons.1 hpw).1 y.i (List.mem_map_of_mem hy)
                rw [this.2] at hb
                cases hb⟩
        have hpos : 0 < rs.length := List.length_pos_of_mem hin
        rw [List.getElem?_eq_getElem (Nat.mod_lt _ hpos)] at hno
        cases hno
theorem drawK_sound (hS : ∀ f args h v h2, S f args h v h2 → Sat P f args h v h2) (hT : TOK P T) (hmix : P.follows .mixedOrders = true) {ops : Array Oper} {k : Frame → H → Prop} {Q : Exit → Act → World → Prop} {μ : Mu} {h : H} {w : World} {fr : Frame} {a : Act}
    (r : Rel μ h w) (hf : VRs μ h fr a.tmps.toList) (hD : drawK S T ops.toList k fr h)
    (hQ : ∀ μ' h' w' fr' a', Tr μ h w μ' h' w' → VRs μ' h' fr' a'.tmps.toList → a'.defers = a.defers → k fr' h' → Q .normal a' w') (t : Nat) :
    wpOps P ops Q (Region.schedule (P.follows .mixedOrders) ops t) a w := by
  have hz : ∀ p ∈ ops.toList.zipIdx, ops.toList[p.2]? = some p.1 := fun p hp => by
    obtain ⟨n, hn, rfl⟩ := List.mem_iff_getElem.1 hp
    simp
  unfold drawK at hD
  cases hok : okD ops.toList (befs ops.toList []) with
  | false =>
    rw [hok] at hD
    simp only [cond_false] at hD
    obtain ⟨hoE, hD⟩ := bif_true hD
    unfold slotK at hD
    unfold okE at hoE
    simp only [Bool.and_eq_true] at hoE
    obtain ⟨⟨⟨hE1, hE2⟩, hE3⟩, hE4⟩ := hoE
    have hdeps : ∀ (p : Nat) o, ops.toList[p]? = some o → ∀ d ∈ deps o, d < p := fun p o ho d hd => by
      rw [List.all_eq_true] at hE1
      have := hE1 (o, p) (List.mem_of_getElem? (by rw [List.getElem?_zipIdx, ho]; simp : ops.toList.zipIdx[p]? = some (o, p)))
      rw [List.all_eq_true] at this
      simpa using this d hd
    have hlz : ∀ p ∈ late ops.toList, ops.toList[p.2]? = some p.1 := fun p hp => hz p (lateGo_mem _ _ _ p hp)
    have hll : ∀ p ∈ late ops.toList, p.2 < ops.toList.length := fun p hp => (List.getElem?_eq_some_iff.1 (hlz p hp)).1
    have t1 := Tr.deads ops.toList.length r
    obtain ⟨L, fr2, h2, q1, q2, q3, q4, q5, _, _⟩ := slot_trace hS hT (late ops.toList) [] [] fr _ hll (okPairsE_pair _ hE4) (fun e he => by simp at he) trivial (by simp)
      (fun p hp _ => by rw [List.getElem?_append_right (by omega), Nat.add_sub_cancel_left, List.getElem?_replicate, if_pos (hll p hp)]) ⟨μ, w, _, t1, hf.step t1.step⟩ hD
    have hLi : ∀ s ∈ L, (s.o, s.i) ∈ late ops.toList := fun s hs => by rw [← q3]; exact List.mem_map.2 ⟨s, hs, rfl⟩
    rw [hmix]
    unfold Region.schedule
    simp only [Bool.true_or, if_true]
    unfold Region.linearise
    refine exec_slot hT hdeps ops.size t _ L ?_ q1 ?_ (by rw [q3]; exact okPairsE_pair _ hE4) q5 (by simpa using q4) (by simp) ?_ ?_ t1 (hf.step t1.step) fun μ' w' a' t' f' d' => hQ μ' h2 w' fr2 a' t' f' d' q2
    · have := congrArg List.length q3
      have h3 : (late ops.toList).length = ops.toList.length := by simpa using hE2
      simp at this h3
      omega
    · intro s hs
      have := hlz _ (hLi s hs)
      rwa [Array.getElem?_toList] at this
    · intro i hi
      rw [Array.getElem?_replicate, if_pos hi]
      refine ⟨fun _ => ?_, fun _ => rfl⟩
      rw [List.all_eq_true] at hE3
      have := hE3 i (by simpa using hi)
      rw [List.any_eq_true] at this
      obtain ⟨p, hp, e⟩ := this
      rw [← q3] at hp
      obtain ⟨s, hs, rfl⟩ := List.mem_map.1 hp
      exact ⟨s, hs, by simpa using e⟩
    · intro j x hj
      rw [Array.getElem?_replicate] at hj
      split at hj <;> cases hj
  | true =>
  rw [hok] at hD
  simp only [cond_true] at hD
  obtain ⟨hdeps, hpair⟩ := okD_spec hok
  have hinc : ∀ (l : List Oper) (n : Nat), (l.zipIdx n).Pairwise (fun p q => p.2 < q.2) := by
    intro l
    induction l with
    | nil => intro n; simp
    | cons x l ih =>
      intro n
      rw [List.zipIdx_cons, List.pairwise_cons]
      refine ⟨fun p hp => ?_, ih (n + 1)⟩
      have := List.mem_zipIdx hp
      show n < p.2
      omega
  obtain ⟨L, fr2, h2, q1, q2, q3, q4, _, _⟩ := run_trace (S := S) (T := T) hok ops.toList.zipIdx [] [] fr h hz (hinc _ 0) (fun e he => by simp at he) (fun e he => by simp at he) trivial (fun e he => by simp at he) hD
  have hLi : L.map (·.i) = List.range ops.size := by
    have := congrArg (List.map Prod.snd) q3
    simpa [List.range_eq_range', Function.comp_def] using this
  rw [hmix]
  unfold Region.schedule
  simp only [Bool.true_or, if_true]
  unfold Region.linearise
  refine exec_sched hS hT hok ops.size t _ L (by have := congrArg List.length hLi; simp at this; omega) q1 ?_ ?_ q4 (by simp) ?_ ?_ r hf fun μ' w' a' t' f' d' => hQ μ' h2 w' fr2 a' t' f' d' q2
  · intro s hs
    have : (s.o, s.i) ∈ ops.toList.zipIdx := by rw [← q3]; exact List.mem_map_of_mem hs
    have := hz _ this
    rwa [Array.getElem?_toList] at this
  · rw [hLi, List.range_eq_range']
    rw [← List.range_eq_range']
    refine List.pairwise_lt_range.imp fun {x y} hxy => ⟨by omega, ?_⟩
    cases hb : bef (befs ops.toList []) x y with
    | false => rfl
    | true => have := bef_lt hdeps _ _ hb; omega
  · intro i hi
    rw [Array.getElem?_replicate, if_pos hi]
    refine ⟨fun _ => ?_, fun _ => rfl⟩
    have : i ∈ L.map (·.i) := by rw [hLi]; simpa using hi
    obtain ⟨s, hs, e⟩ := List.mem_map.1 this
    exact ⟨s, hs, e⟩
  · intro j x hj
    rw [Array.getElem?_replicate] at hj
    split at hj <;> cases hj
def exm : Exit → Ex → Prop
  | .normal, .normal => True
  | .exit i, .exit j => i = j
  | .ret, .ret => True
  | _, _ => False
def CPost (μ : Mu) (h : H) (w : World) (df : List Deferred) (k : Kont) : Exit → Act → World → Prop := fun e a' w' =>
  a'.defers = df ∧ ∃ e2 fr' h' μ', exm e e2 ∧ k e2 fr' h' ∧ Tr μ h w μ' h' w' ∧ VRs μ' h' fr' a'.tmps.toList
theorem mask_VRs {μ h} {fr : Frame} {ds : List Value} (m : List Nat) (hf : VRs μ h fr ds) : VRs μ h (mask m fr) ds := by
  refine VRs.mk (by simp [mask, hf.len]) fun i v d h1 h2 => ?_
  unfold mask at h1
  rw [List.getElem?_map, List.getElem?_zipIdx] at h1
  cases hq : fr[i]? with
  | none => rw [hq] at h1; cases h1
  | some x =>
    rw [hq] at h1
    simp only [Option.map_some, Option.some.injEq, Nat.zero_add] at h1
    obtain ⟨d', h3, h4⟩ := hf.get hq
    rw [h2] at h3
    cases h3
    subst h1
    generalize m.contains i = b
    cases b
    · simp [VR]
    · exact h4
theorem CPost.later {μ h w df k μ1 h1 w1 e a' w'} (t : Tr μ h w μ1 h1 w1) (c : CPost μ1 h1 w1 df k e a' w') : CPost μ h w df k e a' w' := by
  obtain ⟨hd, e2, fr', h', μ', c1, c2, c3, c4⟩ := c
  exact ⟨hd, e2, fr', h', μ', c1, c2, t.trans c3, c4⟩
theorem cwp_sound (hS : ∀ f args h v h2, S f args h v h2 → Sat P f args h v h2) (hT : TOK P T) (hmix : P.follows .mixedOrders = true) (M : Nat → List Nat) :
    ∀ (c : Code) (m : List Nat) (k : Kont) {μ : Mu} {h : H} {w : World} {fr : Frame} {a : Act}, Rel μ h w → VRs μ h fr a.tmps.toList → cwp S T M m c k fr h → c.wp P (CPost μ h w a.defers k) a w
  | .skip, m, k, μ, h, w, fr, a, r, hf, H => wp_skip ⟨rfl, .normal, fr, h, μ, trivial, H, Tr.refl r, hf⟩
  | .region id ops d, m, k, μ, h, w, fr, a, r, hf, H => by
    cases d with
    | false =>
      refine wp_region ?_
      rw [List.range_eq_range', ← Array.length_toList]
      exact runOps_sound hS hT ops.toList 0 rfl r hf H fun μ' h' w' fr' a' t f' d' hk => ⟨d', .normal, fr', h', μ', trivial, hk, t, f'⟩
    | true =>
      refine wp_region_draw fun t => ?_
      have := drawK_sound hS hT hmix (w := w.drew) (Q := CPost μ h w a.defers k) r.drew hf H (fun μ' h' w' fr' a' t f' d' hk => ⟨d', .normal, fr', h', μ', trivial, hk, (Tr.drew r).trans t, f'⟩) t
      exact this
  | .seq x y, m, k, μ, h, w, fr, a, r, hf, H => by
    refine wp_seq (wp_mono (cwp_sound hS hT hmix M x m _ r hf H) fun e a' w' hq => ?_)
    obtain ⟨hd, e2, fr', h', μ', c1, c2, c3, c4⟩ := hq
    cases e <;> cases e2 <;> first
      | exact c1.elim
      | (show y.wp P _ a' w'
         refine wp_mono (cwp_sound hS hT hmix M y m k c3.rel c4 c2) fun e a2 w2 hq => ?_
         rw [hd] at hq
         exact hq.later c3)
      | exact ⟨hd, _, fr', h', μ', c1, c2, c3, c4⟩
  | .cond c x y, m, k, μ, h, w, fr, a, r, hf, H => by
    unfold cwp at H
    have hc := ev_sound hf c
    split at H
    · next t e =>
      rw [e] at hc
      simp only [VR] at hc
      refine wp_cond_split hc (fun ht => ?_) (fun ht => ?_)
      · subst ht; exact cwp_sound hS hT hmix M x m k r hf H
      · subst ht; exact cwp_sound hS hT hmix M y m k r hf H
    · exact H.elim
  | .block id x, m, k, μ, h, w, fr, a, r, hf, H => by
    refine wp_block (wp_mono (cwp_sound hS hT hmix M x (M id) _ r hf H) fun e a' w' hq => ?_)
    obtain ⟨hd, e2, fr', h', μ', c1, c2, c3, c4⟩ := hq
    cases e <;> cases e2 <;> first
      | exact c1.elim
      | exact ⟨hd, _, fr', h', μ', c1, c2, c3, c4⟩
      | (next i j =>
         obtain rfl : i = j := c1
         simp only [Exit.inBlock]
         have c2' : (bif i == id then k .normal fr' h' else k (.exit i) fr' h') := c2
         by_cases hi : i = id
         · subst hi
           rw [if_pos rfl]
           simp at c2'
           exact ⟨hd, .normal, fr', h', μ', trivial, c2', c3, c4⟩
         · rw [if_neg hi]
           have hb : (i == id) = false := by simpa using hi
           rw [hb] at c2'
           exact ⟨hd, .exit i, fr', h', μ', rfl, c2', c3, c4⟩)
  | .loop x, m, k, μ, h, w, fr, a, r, hf, H => by
    obtain ⟨n, H⟩ := H
    refine wp_loop_rounds n ?_
    have key : ∀ n {μ1 : Mu} {h1 : List AObj} {w1 : World} {fr1 : Frame} {a1 : Act}, Tr μ h w μ1 h1 w1 → VRs μ1 h1 fr1 a1.tmps.toList → a1.defers = a.defers →
        iter (fun X fr h => cwp S T M m x (kSeq (fun fr h => X (mask m fr) h) k) fr h) n fr1 h1 → Code.rounds P x (CPost μ h w a.defers k) n a1 w1 := by
      intro n
      induction n with
      | zero => intro μ1 h1 w1 fr1 a1 t f d H; exact H.elim
      | succ n ih =>
        intro μ1 h1 w1 fr1 a1 t f d H
        rw [rounds_succ]
        refine wp_mono (cwp_sound hS hT hmix M x m _ t.rel f H) fun e a' w' hq => ?_
        obtain ⟨hd, e2, fr', h', μ', c1, c2, c3, c4⟩ := hq
        rw [d] at hd
        cases e <;> cases e2 <;> first
          | exact c1.elim
          | exact ih (t.trans c3) (mask_VRs m c4) hd c2
          | exact ⟨hd, _, fr', h', μ', c1, c2, t.trans c3, c4⟩
    exact key n (Tr.refl r) (mask_VRs m hf) rfl H
  | .exit id, m, k, μ, h, w, fr, a, r, hf, H => wp_exit ⟨rfl, .exit id, fr, h, μ, rfl, H, Tr.refl r, hf⟩
  | .ret, m, k, μ, h, w, fr, a, r, hf, H => wp_ret ⟨rfl, .ret, fr, h, μ, trivial, H, Tr.refl r, hf⟩
  | .rangeFunc _ _ _ _, m, k, μ, h, w, fr, a, r, hf, H => H.elim
  | .scope _, m, k, μ, h, w, fr, a, r, hf, H => H.elim
  | .label _, m, k, μ, h, w, fr, a, r, hf, H => H.elim
  | .goto _, m, k, μ, h, w, fr, a, r, hf, H => H.elim
  | .refuse _, m, k, μ, h, w, fr, a, r, hf, H => H.elim

/-! ### functions -/
def resOne (tmps : Array Value) : ResultVar → Sem Value
  | .tmp t => pure (tmps.getD t undef)
  | .cell a t => do loadVar t (← asAddr (tmps.getD a undef))
theorem results_eq (fn : Func) (tmps : Array Value) : results fn tmps = (do let vs ← fn.results.mapM (resOne tmps); pure (if h : vs.size = 1 then vs[0] else .tuple vs)) := by
  unfold results
  congr 1
theorem resK_sound (hT : TOK P T) {μ : Mu} {h : H} {w : World} {fr : Frame} {tmps : Array Value} (r : Rel μ h w) (hf : VRs μ h fr tmps.toList) :
    ∀ (l : List ResultVar) (K : List AVal → Prop), resK T l fr h K → ∃ vs ds, (l.mapM (resOne tmps)).run P w = .ok ds w ∧ K vs ∧ VRs μ h vs ds
  | [], K, hK => ⟨[], [], rfl, hK, VRs.nil⟩
  | .tmp t :: l, K, hK => by
    obtain ⟨vs, ds, h1, h2, h3⟩ := resK_sound hT r hf l _ hK
    have := ev_sound (a := ⟨tmps, []⟩) hf (.tmp t)
    refine ⟨_, tmps.getD t undef :: ds, ?_, h2, VRs.cons this h3⟩
    simp only [List.mapM_cons, resOne, Sem.run_bind, Sem.run_pure, Result.andThen_ok, h1]
  | .cell c t :: l, K, hK => by
    unfold resK at hK
    have hc := ev_sound (a := ⟨tmps, []⟩) hf (.tmp c)
    split at hK
    · next p e =>
      have hc' : VR μ h (fr.getD c .undef) (tmps.getD c undef) := hc
      rw [e] at hc'
      obtain ⟨v, d, h1, h2, h3⟩ := ldT_sound (P := P) hT r hc' hK
      obtain ⟨vs, ds, k1, k2, k3⟩ := resK_sound hT r hf l _ h2
      refine ⟨_, d :: ds, ?_, k2, VRs.cons h3 k3⟩
      have hl : (do loadVar t (← asAddr (tmps.getD c undef)) : Sem Value).run P w = .ok d w := by
        simp only [VR, PR] at hc'
        split at hc'
        · next e2 =>
          exfalso
          rw [hc'] at h1
          simp [Instr.loadAt, Instr.sureAddr, stuck] at h1
        · obtain ⟨_, q, hq, _⟩ := hc'
          rw [hq] at h1 ⊢
          simpa [Instr.loadAt, Instr.sureAddr, asAddr] using h1
      rw [List.mapM_cons, Sem.run_bind]
      rw [show resOne tmps (ResultVar.cell c t) = (do loadVar t (← asAddr (tmps.getD c undef)) : Sem Value) from rfl, hl]
      simp only [Result.andThen_ok, Sem.run_bind, k1, Sem.run_pure]
    · exact hK.elim
/-- What holds of a function's body holds of its calls. -/
theorem Sat.body (hT : TOK P T) (hmix : P.follows .mixedOrders = true) (M : Nat → List Nat) {f : Nat} {fn : Func} {c : Code} (hfn : P.funcs[f]? = some fn) (hb : fn.body = some c) (hcall : ∀ (a : Array Value) (w : World), (callFunc f a).run P w = .ok (.enter f a) w)
    {args : List AVal} {h : H} {v : AVal} {h2 : H}
    (hH : cwp (Sat P) T M [] c (kFun T fn.results.toList fun v' h' => ∀ μ' w', Rel μ' h' w' → ∀ x, VR μ' h' v' x → ∀ μ w, Tr μ h w μ' h' w' → ∃ μ2, Tr μ h w μ2 h2 w' ∧ VR μ2 h2 v x) (fr0 fn args) h) : Sat P f args h v h2 := by
  refine ⟨hcall, fun μ w ds r hd => calls_of_wp hfn hb ?_⟩
  have hfr : VRs μ h (fr0 fn args) (ds.toArray ++ Array.replicate (fn.ntmps - ds.toArray.size) undef).toList := by
    unfold fr0
    rw [Array.toList_append]
    refine hd.append ?_
    have : ds.toArray.size = args.length := by simp [hd.len]
    rw [this]
    refine VRs.mk (by simp) fun i v d h1 h2 => ?_
    rw [List.getElem?_replicate] at h1
    simp only [Array.toList_replicate, List.getElem?_replicate] at h2
    split at h1
    · next hi =>
      rw [if_pos hi] at h2
      cases h1
      cases h2
      simp only [VR]
      rfl
    · cases h1
  refine wp_mono (cwp_sound (fun _ _ _ _ _ h => h) hT hmix M c [] _ r (a := ⟨_, []⟩) hfr hH) fun e a' w' hq => ?_
  obtain ⟨hd', e2, fr', h', μ', c1, c2, c3, c4⟩ := hq
  have main : resK T fn.results.toList fr' h' (fun vs => ∀ μ' w', Rel μ' h' w' → ∀ x, VR μ' h' (one vs) x → ∀ μ w, Tr μ h w μ' h' w' → ∃ μ2, Tr μ h w μ2 h2 w' ∧ VR μ2 h2 v x) →
      a'.defers = [] ∧ ∃ x, (results fn a'.tmps).run P w' = .ok x w' ∧ ∃ x2 μ', (Ending.returned x) = .returned x2 ∧ Tr μ h w μ' h2 w' ∧ VR μ' h2 v x2 := by
    intro hK
    obtain ⟨vs, ds', k1, k2, k3⟩ := resK_sound (P := P) hT c3.rel c4 _ _ hK
    have hone : ∃ x, (results fn a'.tmps).run P w' = .ok x w' ∧ VR μ' h' (one vs) x := by
      rw [results_eq, Sem.run_bind, Array.mapM_eq_mapM_toList, Sem.run_map, k1]
      simp only [Result.andThen_ok]
      cases vs with
      | nil =>
        simp only [VRs] at k3
        subst k3
        exact ⟨_, rfl, by simp only [one, VR]; exact ⟨#[], rfl, VRs.nil⟩⟩
      | cons v1 vs =>
        have k3' := k3
        simp only [VRs] at k3'
        obtain ⟨d1, ds'', rfl, hv1, hvs⟩ := k3'
        cases vs with
        | nil =>
          simp only [VRs] at hvs
          subst hvs
          exact ⟨d1, rfl, hv1⟩
        | cons v2 vs =>
          have k4 := hvs
          simp only [VRs] at k4
          obtain ⟨d2, ds3, rfl, _, _⟩ := k4
          refine ⟨.tuple (d1 :: d2 :: ds3).toArray, ?_, by simp only [one, VR]; exact ⟨_, rfl, k3⟩⟩
          simp
    obtain ⟨x, hx, hvx⟩ := hone
    obtain ⟨μ2, t2, v2⟩ := k2 μ' w' c3.rel x hvx μ w c3
    exact ⟨hd', x, hx, x, μ2, rfl, t2, v2⟩
  cases e <;> cases e2 <;> first
    | exact c1.elim
    | exact c2.elim
    | exact main c2
end
end Go.Proofs.Ytdmhchgaeepdmaa.Cl
