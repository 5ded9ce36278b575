/- The clean machine: one operation, whatever it is. No claim is stated here. -/
import Derived.Test.YtdmhchgaeepdmaaClF
set_option linter.unusedVariables false
set_option linter.unusedSimpArgs false
namespace Go.Proofs.Ytdmhchgaeepdmaa.Cl
open Go
section
variable {P : Program} {T : Tab} {μ : Mu} {h : H} {w : World}

theorem bif_true {b : Bool} {A : Prop} (H : bif b then A else False) : b = true ∧ A := by
  cases b
  · exact H.elim
  · exact ⟨rfl, H⟩
theorem bounds_of {fr : Frame} {a : Act} (hf : VRs μ h fr a.tmps.toList) (lo : Option Operand) (z : Int) {k : IntKind} {n : Int} (e : (lo.map (ev fr)).getD (i64 z) = .int k n) : Bound (lo.map a.eval) z n := by
  cases lo with
  | none => simp at e; rw [← e.2]; exact .none z
  | some x =>
    simp at e
    have := ev_sound hf x
    rw [e] at this
    simp only [VR] at this
    simp only [Option.map_some, this]
    exact .told k n z
theorem partT_lt {t : Nat} {cs : List AVal} {i : Int} {K : AVal → Prop} (hs : (tget T t).size = 1) (H : partT T t cs i K) : i.toNat < cs.length := by
  unfold partT at H
  split at H <;> first
    | (obtain ⟨n, h0, h1, h2⟩ := H; exact (List.getElem?_eq_some_iff.1 h1).1)
    | (obtain ⟨⟨h0, h1⟩, h2⟩ := H; omega)
    | exact H.elim
theorem args2 {α β : Type} {f : α → β} {l : Array α} {a b : β} (e : l.toList.map f = [a, b]) : ∃ x y, l = #[x, y] ∧ f x = a ∧ f y = b := by
  obtain ⟨l⟩ := l
  cases l with
  | nil => simp at e
  | cons x l => cases l with
    | nil => simp at e
    | cons y l => cases l with
      | nil => simp at e; exact ⟨x, y, rfl, e.1, e.2⟩
      | cons z l => simp at e
theorem args1 {α β : Type} {f : α → β} {l : Array α} {a : β} (e : l.toList.map f = [a]) : ∃ x, l = #[x] ∧ f x = a := by
  obtain ⟨l⟩ := l
  cases l with
  | nil => simp at e
  | cons x l => cases l with
    | nil => simp at e; exact ⟨x, rfl, e⟩
    | cons y l => simp at e
theorem OpOK.builtin {ρ : Operand → Value} {c : Call} {ty : TypeId} {b : Builtin} (hc : c.callee = .builtin b) {s : Sem Value} {R : Value → World → Prop} {d w'}
    (hb : ∀ cs, builtin b c.argTypes ty cs (c.args.map ρ) = (do pure (.value (← s)))) (e : s.run P w = .ok d w') (h : R d w') :
    OpOK P (do let d ← resolve ρ c ty; invoke d.target d.args) w R := by
  have : (do let d ← resolve ρ c ty; invoke d.target d.args : Sem Next) = (do pure (.value (← s))) := by
    unfold resolve
    simp only [hc, pure_bind]
    exact hb _
  rw [this]
  exact OpOK.val e h
theorem op_sound {S : SatT} (hS : ∀ f args h v h2, S f args h v h2 → Sat P f args h v h2) (hT : TOK P T) (r : Rel μ h w) {o : Oper} {fr : Frame} {a : Act} (hf : VRs μ h fr a.tmps.toList) {K : AVal → H → Prop}
    (H : opK S T o fr h K) : OpOK P (execOp a.eval o) w (Post μ h w K) := by
  have hev := fun x => ev_sound hf x
  unfold opK at H
  unfold execOp
  cases ho : o.op with
  | move x => simp only [ho] at H ⊢; exact Post.here r H (hev x)
  | assign x => simp only [ho] at H ⊢; exact Post.here r H (hev x)
  | pick c x y =>
    simp only [ho] at H ⊢
    unfold pickK at H
    have hc := hev c
    split at H
    · next b e =>
      rw [e] at hc
      simp only [VR] at hc
      have main : ∀ v, K v h → VR μ h v (if b = true then a.eval x else a.eval y) → OpOK P (do pure (Next.value (if ← asBool (a.eval c) then a.eval x else a.eval y))) w (Post μ h w K) := by
        intro v hK hv
        rw [hc]
        unfold OpOK
        simp only [asBool, Sem.run_bind, Sem.run_pure, Result.andThen_ok]
        exact Post.here r hK hv
      have hx := hev x
      have hy := hev y
      split at H
      · next p q e1 e2 =>
        rw [e1] at hx
        rw [e2] at hy
        refine main _ H ?_
        cases b <;> simpa [VR] using by assumption
      · cases b
        · exact main _ H hy
        · exact main _ H hx
    · exact H.elim
  | alloc t =>
    simp only [ho] at H ⊢
    obtain ⟨hb, H⟩ := bif_true H
    obtain ⟨x, w', μ', h1, h2, h3⟩ := alloc_sound (P := P) hT r (t := t) (by intro e; rw [e] at hb; simp [TInfo.none] at hb)
    exact OpOK.val h1 ⟨_, _, μ', H, h2, h3⟩
  | box t x =>
    simp only [ho] at H ⊢
    have hx := hev x
    cases hA : isAggT T t with
    | true =>
      rw [hA] at H
      simp only [cond_true] at H
      split at H
      · next cs e =>
        rw [e] at hx
        simp only [VR] at hx
        obtain ⟨ds, hd, hds, hall⟩ := hx
        obtain ⟨hl, H⟩ := H
        rw [hd]
        obtain ⟨y, w', μ', h1, h2, h3⟩ := box_sound (P := P) r (t := t) (x := .agg ds) (cs := cs) hds hall
        rw [hl] at h3
        exact OpOK.val h1 ⟨_, _, μ', H, h2, h3⟩
      · exact H.elim
    | false =>
      rw [hA] at H
      simp only [cond_false] at H
      obtain ⟨hb, H⟩ := bif_true H
      rw [Bool.and_eq_true] at hb
      obtain ⟨y, w', μ', h1, h2, h3⟩ := box_sound (P := P) r (t := t) (x := a.eval x) (cs := [ev fr x]) (by rw [cells_of_isCell hx hb.1]; exact VRs.cons hx VRs.nil) (by simp [hb.1])
      exact OpOK.val h1 ⟨_, _, μ', H, h2, h3⟩
  | build t ps =>
    simp only [ho] at H ⊢
    have H' : match (tget T t).d with
      | .struct fs => fillK T (fun i => fs[i]?) (tget T t).size (parts ps fr) (tget T t).zero fun cs => K (.agg cs) h
      | .arr _ e => bif decide (0 < (tget T e).size) then fillK T (fun i => some (i * (tget T e).size, e)) (tget T t).size (parts ps fr) (tget T t).zero fun cs => K (.agg cs) h else False
      | _ => False := H
    obtain ⟨cs, x, h1, h2, h3⟩ := build_sound (P := P) (a := a) r hT hf hev (K := fun cs => K (.agg cs) h) H'
    exact OpOK.val h1 (Post.here r h2 h3)
  | buildSlice t n ps =>
    simp only [ho] at H ⊢
    split at H
    · next e he =>
      obtain ⟨x, w', h', μ', s, h1, h2, h3, h4⟩ := buildSlice_sound (P := P) (a := a) r hT hf hev (K := fun s h => K (.sl s) h) he H
      exact OpOK.val h1 ⟨_, _, μ', h2, h3, h4⟩
    · exact H.elim
  | load t x =>
    simp only [ho] at H ⊢
    have hx := hev x
    split at H
    · next p e =>
      rw [e] at hx
      obtain ⟨v, d, h1, h2, h3⟩ := ldT_sound (P := P) hT r hx H
      exact OpOK.val h1 (Post.here r h2 h3)
    · exact H.elim
  | store t x y =>
    simp only [ho] at H ⊢
    have hx := hev x
    split at H
    · next p e =>
      rw [e] at hx
      obtain ⟨w', h', h1, h2, h3⟩ := stT_sound (P := P) hT r hx (hev y) H
      exact OpOK.unit h1 ⟨_, _, μ, h2, h3, rfl⟩
    · exact H.elim
  | nilCheck x =>
    simp only [ho] at H ⊢
    have hx := hev x
    obtain ⟨hn, H⟩ := H
    unfold AVal.nonNil at hn
    split at hn
    · next p e =>
      rw [e] at hx H
      have hx' := hx
      simp only [VR, PR] at hx'
      split at hx'
      · next e2 => rw [e2] at hn; cases hn
      · obtain ⟨_, q, hq, _⟩ := hx'
        rw [hq] at hx ⊢
        exact Post.here r H hx
    · next f c e =>
      rw [e] at hx H
      have hx' := hx
      simp only [VR] at hx'
      obtain ⟨ds, hd, _⟩ := hx'
      rw [hd] at hx ⊢
      exact Post.here r H hx
    · cases hn
  | binOp op t x y yt =>
    simp only [ho] at H ⊢
    obtain ⟨v, d, h1, h2, h3⟩ := binK_sound (P := P) (w := w) (ox := x) (oy := y) hT (hev x) (hev y) H
    exact OpOK.val h1 (Post.here r h2 h3)
  | unOp op t x =>
    simp only [ho] at H ⊢
    have hx := hev x
    split at H
    · next e =>
      rw [e] at hx
      simp only [VR] at hx
      rw [hx]
      exact OpOK.val (d := .bool (!_)) (w' := w) rfl (Post.here r H rfl)
    · next e =>
      rw [e] at hx
      simp only [VR] at hx
      rw [hx]
      exact OpOK.val (w' := w) rfl (Post.here r H rfl)
    · exact H.elim
  | convert s d x =>
    simp only [ho] at H ⊢
    have hx := hev x
    split at H
    · next k1 k k2 n e1 e2 e3 =>
      rw [e3] at hx
      simp only [VR] at hx
      rw [hx]
      obtain ⟨ts⟩ := hT.told s (by rw [e1]; simp)
      obtain ⟨td⟩ := hT.told d (by rw [e2]; simp)
      have hs := ts.hd
      have hd := td.hd
      rw [tdOf_int (P := P) (d := ts.d) (by rw [← ts.td, e1])] at hs
      rw [tdOf_int (P := P) (d := td.d) (by rw [← td.td, e2])] at hd
      refine OpOK.val (w' := w) (d := .int k (k.wrap n)) ?_ (Post.here r H rfl)
      simp only [convert, Sem.run_bind, run_underlying hs, run_underlying hd, Result.andThen_ok]
      rfl
    · exact H.elim
  | makeFunc fn first cap =>
    simp only [ho] at H ⊢
    split at H
    · next f =>
      obtain ⟨hb, H⟩ := bif_true H
      refine OpOK.val (w' := w) rfl (Post.here r H ?_)
      simp only [VR]
      refine ⟨cap.map a.eval, ?_, ?_⟩
      · have : first = #[] := by simpa using hb
        rw [this]; simp
      · rw [Array.toList_map]; exact maps_VRs hf _
    · exact H.elim
  | makeSlice t n c =>
    simp only [ho] at H ⊢
    have hn := hev n
    have hc := hev c
    split at H
    · next e k x k' y e1 e2 e3 =>
      obtain ⟨hb, H⟩ := bif_true H
      rw [Bool.and_eq_true, Bool.and_eq_true] at hb
      obtain ⟨⟨hb1, hb2⟩, hb3⟩ := hb
      have hxy : x = y := by
        split at hb3
        · next i j =>
          have : i = j := by simpa using hb3
          subst this
          rw [e2] at e3
          simp at e3
          exact e3.2
        · next k1 i k2 j =>
          have : i = j := by simpa using hb3
          subst this
          simp [ev, cv] at e2 e3
          omega
        · cases hb3
      subst hxy
      rw [e2] at hn
      rw [e3] at hc
      simp only [VR] at hn hc
      rw [hn, hc]
      obtain ⟨z, w', h', μ', s, h1, h2, h3, h4⟩ := makeSlice_sound (P := P) (k := k) (k' := k') (K := fun s h => K (.sl s) h) r hT e1 (by simpa using hb1) (by simpa using hb2) H
      exact OpOK.val h1 ⟨_, _, μ', h2, h3, h4⟩
    · exact H.elim
  | slice t x lo hi mx =>
    simp only [ho] at H ⊢
    have hx := hev x
    split at H
    · next e s e1 e2 =>
      rw [e2] at hx
      split at H
      · next k1 p k2 q e3 e4 =>
        obtain ⟨hb, H⟩ := bif_true H
        obtain ⟨y, s', h1, h2, h3⟩ := cut_sound (P := P) (w := w) (K := fun s => K (.sl s) h) hx hT e1 (by simpa using hb) (bounds_of hf lo 0 e3) (bounds_of hf hi s.len e4) H
        exact OpOK.val h1 (Post.here r h2 h3)
      · exact H.elim
    · next n e p e1 e2 =>
      rw [e2] at hx
      split at H
      · next k1 p' k2 q e3 e4 =>
        obtain ⟨hb, H⟩ := bif_true H
        obtain ⟨y, s', h1, h2, h3⟩ := cutA_sound (P := P) (w := w) (K := fun s => K (.sl s) h) r hx hT e1 (by simpa using hb) (bounds_of hf lo 0 e3) (bounds_of hf hi n e4) H
        exact OpOK.val h1 (Post.here r h2 h3)
      · exact H.elim
    · exact H.elim
  | fieldAddr t x f =>
    simp only [ho] at H ⊢
    have hx := hev x
    split at H
    · next fs p e1 e2 =>
      rw [e2] at hx
      split at H
      · next off u e3 =>
        obtain ⟨hp, H⟩ := H
        obtain ⟨y, h1, h2⟩ := fieldAt_sound (P := P) (w := w) hx hT e1 e3 hp
        exact OpOK.val h1 (Post.here r H h2)
      · exact H.elim
    · exact H.elim
  | field t x f =>
    simp only [ho] at H ⊢
    have hx := hev x
    split at H
    · next fs cs e1 e2 =>
      rw [e2] at hx
      simp only [VR] at hx
      obtain ⟨ds, hd, hds, hall⟩ := hx
      split at H
      · next off u e3 =>
        obtain ⟨_, v, d, h1, h2, h3⟩ := partT_sound (P := P) (w := w) hT hds hall H
        obtain ⟨th⟩ := hT.told t (by rw [e1]; simp)
        obtain ⟨fs', hu, rfl, hfs⟩ := tdOf_struct (P := P) (d := th.d) (by rw [← th.td, e1])
        have hdd := th.hd
        rw [hu] at hdd
        rw [List.getElem?_map] at e3
        cases hq : fs'.toList[f]? with
        | none => rw [hq] at e3; cases e3
        | some g =>
          rw [hq] at e3
          simp at e3
          obtain ⟨rfl, rfl⟩ := e3
          rw [Array.getElem?_toList] at hq
          rw [hd]
          refine OpOK.val (w' := w) (d := d) ?_ (Post.here r h2 h3)
          simp only [Instr.field, Sem.run_bind, run_underlying hdd, Result.andThen_ok, hq, asAgg, Sem.run_pure]
          simpa using h1
      · exact H.elim
    · exact H.elim
  | indexAddr t x i =>
    simp only [ho] at H ⊢
    have hx := hev x
    have hi := hev i
    split at H
    · next e s k n e1 e2 e3 =>
      rw [e2] at hx
      rw [e3] at hi
      simp only [VR] at hi
      rw [hi]
      obtain ⟨p, y, h1, h2, h3⟩ := ixS_sound (P := P) (w := w) (k := k) (K := fun p => K (.ptr p) h) hx hT e1 H
      exact OpOK.val h1 (Post.here r h2 h3)
    · next len e p k n e1 e2 e3 =>
      rw [e2] at hx
      rw [e3] at hi
      simp only [VR] at hi
      rw [hi]
      obtain ⟨hb, H⟩ := bif_true H
      obtain ⟨p, y, h1, h2, h3⟩ := ixA_sound (P := P) (w := w) (k := k) (K := fun p => K (.ptr p) h) hx hT e1 (by simpa using hb) H
      exact OpOK.val h1 (Post.here r h2 h3)
    · exact H.elim
  | index t x i =>
    simp only [ho] at H ⊢
    have hx := hev x
    have hi := hev i
    split at H
    · next len e cs k n e1 e2 e3 =>
      rw [e2] at hx
      rw [e3] at hi
      simp only [VR] at hi hx
      obtain ⟨ds, hd, hds, hall⟩ := hx
      rw [hi, hd]
      obtain ⟨hb, hl, H⟩ := bif_true H
      obtain ⟨h0, v, d, h1, h2, h3⟩ := partT_sound (P := P) (w := w) hT hds hall H
      obtain ⟨th⟩ := hT.told t (by rw [e1]; simp)
      have hu := tdOf_arr (P := P) (d := th.d) (by rw [← th.td, e1])
      have hdd := th.hd
      rw [hu] at hdd
      have hs1 : (tget T e).size = 1 := by simpa using hb
      obtain ⟨te⟩ := hT.toldS e (by omega)
      have hlt : n < len := by
        have := partT_lt hs1 H
        rw [hl] at this
        omega
      refine OpOK.val (w' := w) (d := d) ?_ (Post.here r h2 h3)
      simp only [Instr.index, Sem.run_bind, asIntOf, Sem.run_pure, Result.andThen_ok, run_underlying hdd]
      rw [if_pos ⟨h0, hlt⟩]
      simp only [Sem.run_bind, run_sizeOf te.hi, Result.andThen_ok]
      rw [← te.size, hs1, Nat.mul_one]
      exact h1
    · exact H.elim
  | extract x i =>
    simp only [ho] at H ⊢
    have hx := hev x
    obtain ⟨vs, e, H⟩ := H
    rw [e] at hx
    obtain ⟨v, d, h1, h2, h3⟩ := extract_sound (P := P) (w := w) hx H
    exact OpOK.val h1 (Post.here r h2 h3)
  | call c =>
    simp only [ho] at H ⊢
    have hargs := maps_VRs hf c.args.toList
    split at H
    · -- a function
      next g hc =>
      have e : (do let d ← resolve a.eval c o.type; invoke d.target d.args : Sem Next) = callFunc g (c.args.map a.eval) := by
        unfold resolve
        simp only [hc, Act.eval, Deferred.ofValue, pure_bind, invoke]
        simp
      rw [e]
      have := call_sound hS r H hargs
      rwa [show (c.args.toList.map a.eval).toArray = c.args.map a.eval from Array.toList_inj.1 (by simp)] at this
    · -- a function value
      next f _ hc =>
      obtain ⟨g, cap, hg, H⟩ := H
      have hf' := hev f
      rw [hg] at hf'
      simp only [VR] at hf'
      obtain ⟨ds, hd, hds⟩ := hf'
      have e : (do let d ← resolve a.eval c o.type; invoke d.target d.args : Sem Next) = callFunc g (c.args.map a.eval ++ ds) := by
        unfold resolve
        simp only [hc, hd, Deferred.ofValue, pure_bind, invoke]
        simp
      rw [e]
      have := call_sound hS r H (hargs.append hds)
      rwa [show (c.args.toList.map a.eval ++ ds.toList).toArray = c.args.map a.eval ++ ds from Array.toList_inj.1 (by simp)] at this
    · next hc =>
      split at H
      · next s e e1 e2 =>
        obtain ⟨x, hx, hxs⟩ := args1 e1
        obtain ⟨t, ht, hte⟩ := args1 e2
        have hv := hev x
        rw [hxs] at hv
        simp only [VR] at hv
        obtain ⟨th⟩ := hT.told t (by rw [hte]; simp)
        have hd := th.hd
        rw [tdOf_sl (P := P) (d := th.d) (by rw [← th.td, hte])] at hd
        refine OpOK.builtin hc (fun cs => rfl) (d := .int .i64 s.len) (w' := w) ?_ (Post.here r H rfl)
        rw [hx, ht]
        unfold SR at hv
        split at hv
        · obtain ⟨hl, hv⟩ := hv
          simp [Builtin.len_, hv, run_underlying hd, hl, goInt]
        · obtain ⟨_, _, p, q, hv, _⟩ := hv
          simp [Builtin.len_, hv, run_underlying hd, goInt]
      · next v n e e1 e2 =>
        obtain ⟨x, hx, hxs⟩ := args1 e1
        obtain ⟨t, ht, hte⟩ := args1 e2
        obtain ⟨th⟩ := hT.told t (by rw [hte]; simp)
        have hd := th.hd
        rw [tdOf_arr (P := P) (d := th.d) (by rw [← th.td, hte])] at hd
        refine OpOK.builtin hc (fun cs => rfl) (d := .int .i64 n) (w' := w) ?_ (Post.here r H rfl)
        rw [hx, ht]
        simp [Builtin.len_, run_underlying hd, goInt]
      · exact H.elim
    · next hc =>
      split at H
      · next s x e ex e1 e2 =>
        obtain ⟨hb, H⟩ := bif_true H
        rw [Bool.and_eq_true, Bool.and_eq_true] at hb
        obtain ⟨⟨hb1, hb2⟩, hb3⟩ := hb
        obtain ⟨x1, x2, hx, hx1, hx2⟩ := args2 e1
        obtain ⟨t1, t2, ht, ht1, ht2⟩ := args2 e2
        have hv1 := hev x1
        have hv2 := hev x2
        rw [hx1] at hv1
        rw [hx2] at hv2
        obtain ⟨y, w', h', μ', s', k1, k2, k3, k4⟩ := app_sound (P := P) (ty := o.type) (K := fun s h => K (.sl s) h) r hT ht1 ht2 (by simpa using hb1) (by simpa using hb2) (by simpa using hb3) hv1 hv2 H
        refine OpOK.builtin hc (fun cs => rfl) (d := y) (w' := w') ?_ ⟨_, _, μ', k2, k3, k4⟩
        rw [hx, ht]
        simp only [List.map_toArray, List.map_cons, List.map_nil]
        exact k1
      · exact H.elim
    · next hc =>
      split at H
      · next s x e ex e1 e2 =>
        obtain ⟨hb, H⟩ := bif_true H
        obtain ⟨x1, x2, hx, hx1, hx2⟩ := args2 e1
        obtain ⟨t1, t2, ht, ht1, ht2⟩ := args2 e2
        have hv1 := hev x1
        have hv2 := hev x2
        rw [hx1] at hv1
        rw [hx2] at hv2
        obtain ⟨w', h', n, k1, k2, k3⟩ := copy_sound (P := P) (ty := o.type) (K := fun n h => K (.int .i64 n) h) r hT ht1 ht2 (by simpa using hb) hv1 hv2 H
        refine OpOK.builtin hc (fun cs => rfl) (d := .int .i64 n) (w' := w') ?_ ⟨_, _, μ, k2, k3, rfl⟩
        rw [hx, ht]
        simp only [List.map_toArray, List.map_cons, List.map_nil]
        exact k1
      · exact H.elim
    · next hc =>
      split at H
      · next s e e1 e2 =>
        obtain ⟨hb, H⟩ := bif_true H
        obtain ⟨x, hx, hxs⟩ := args1 e1
        obtain ⟨t, ht, hte⟩ := args1 e2
        have hv := hev x
        rw [hxs] at hv
        obtain ⟨w', h', k1, k2, k3⟩ := clear_sound (P := P) (ty := o.type) (K := fun h => K .gone h) r hT hte (by simpa using hb) hv H
        refine OpOK.builtin hc (fun cs => rfl) (d := .tuple #[]) (w' := w') ?_ ⟨_, _, μ, k2, k3, rfl⟩
        rw [hx, ht]
        simp only [List.map_toArray, List.map_cons, List.map_nil]
        exact k1
      · exact H.elim
    · next hc =>
      split at H
      · next k n l e =>
        have hA : ∃ xs, (c.args.map a.eval).toList = .int k n :: xs ∧ VRs μ h l xs := by
          rw [e] at hargs
          simp only [VRs, VR] at hargs
          obtain ⟨d, ds', h1, rfl, h2⟩ := hargs
          exact ⟨ds', by rw [Array.toList_map]; exact h1, h2⟩
        obtain ⟨xs, hx, hxs⟩ := hA
        obtain ⟨v, d, k1, k2, k3⟩ := foldI_sound (P := P) (w := w) (f := mxI) (m2 := Builtin.max2) (fun _ _ _ _ => rfl) l xs n (fun v => K v h) hxs H
        refine OpOK.builtin hc (fun cs => rfl) (d := d) (w' := w) ?_ (Post.here r k2 k3)
        unfold Builtin.max_
        rw [hx]
        exact k1
      · exact H.elim
    · next hc =>
      split at H
      · next k n l e =>
        have hA : ∃ xs, (c.args.map a.eval).toList = .int k n :: xs ∧ VRs μ h l xs := by
          rw [e] at hargs
          simp only [VRs, VR] at hargs
          obtain ⟨d, ds', h1, rfl, h2⟩ := hargs
          exact ⟨ds', by rw [Array.toList_map]; exact h1, h2⟩
        obtain ⟨xs, hx, hxs⟩ := hA
        obtain ⟨v, d, k1, k2, k3⟩ := foldI_sound (P := P) (w := w) (f := mnI) (m2 := Builtin.min2) (fun _ _ _ _ => rfl) l xs n (fun v => K v h) hxs H
        refine OpOK.builtin hc (fun cs => rfl) (d := d) (w' := w) ?_ (Post.here r k2 k3)
        unfold Builtin.min_
        rw [hx]
        exact k1
      · exact H.elim
    · exact H.elim
  | _ => simp only [ho] at H
end
end Go.Proofs.Ytdmhchgaeepdmaa.Cl
