/- Texts of the clean machine, joined. No claim is stated here. -/
import Derived.Test.YtlbglfgienklfaaFa1
import Derived.RangeFuncNested
import Derived.RangeFuncLeaves
import Derived.RangeFuncCalls
import Derived.LoopNIn
import Derived.Test.YtlbglfgienklfaaFa2
import Derived.Shelf.SlSortCmp.InsertionK
/- The clean machine inside a range over a function: regions in a round's frame, and what lies beside the clean heap. No claim is stated here. -/
set_option linter.unusedVariables false
set_option linter.unusedSimpArgs false
namespace Go.Proofs.Ytlbglfgienklfaa.Cl
open Go
def ApartO : Go.Obj → Prop | .cells .. => False | .map .. => False | _ => True
theorem po_cell {w : World} {rb : Nat} {x y : Go.Obj} (h : w.heap[rb]? = some x) (hx : ApartO x) (hy : ApartO y) (a : Addr) : (w.putObj rb y).cell? a = w.cell? a := by
  have hl : rb < w.heap.size := (Array.getElem?_eq_some_iff.1 h).1
  unfold World.cell?
  by_cases e : a.block = rb
  · rw [e, World.putObj_heap_same hl, h]
    cases x <;> cases y <;> first | rfl | exact hx.elim | exact hy.elim
  · rw [World.putObj_heap_other e]
theorem po_frozen {w : World} {rb : Nat} {x y : Go.Obj} (h : w.heap[rb]? = some x) (hx : ApartO x) (hy : ApartO y) (a : Addr) : (w.putObj rb y).frozen? a = w.frozen? a := by
  have hl : rb < w.heap.size := (Array.getElem?_eq_some_iff.1 h).1
  unfold World.frozen?
  by_cases e : a.block = rb
  · rw [e, World.putObj_heap_same hl, h]
    cases x <;> cases y <;> first | rfl | exact hx.elim | exact hy.elim
  · rw [World.putObj_heap_other e]
theorem po_size (w : World) (rb : Nat) (y : Go.Obj) : (w.putObj rb y).heap.size = w.heap.size := by simp [World.putObj]
theorem Rel.turn {μ h w} (r : Rel μ h w) {rb : Nat} {x y : Go.Obj} (hr : w.heap[rb]? = some x) (hx : ApartO x) (hy : ApartO y) : Rel μ h (w.putObj rb y) := by
  refine ⟨fun o cs ho => ?_, fun o cs ho i v hv => ?_, fun o es ho => ?_, r.sep⟩
  · obtain ⟨h1, h2, h3, h4⟩ := r.own o cs ho
    refine ⟨by rw [po_size]; exact h1, h2, fun i hi => ?_, fun i v hv => ?_⟩
    · rw [po_cell hr hx hy, po_frozen hr hx hy]; exact h3 i hi
    · obtain ⟨q, d, h5, h6⟩ := h4 i v hv
      exact ⟨q, d, by rw [po_cell hr hx hy]; exact h5, h6⟩
  · obtain ⟨q, d, h5, h6⟩ := r.ro o cs ho i v hv
    exact ⟨q, d, by rw [po_cell hr hx hy]; exact h5, h6⟩
  · obtain ⟨h1, ms, ck, h2, h3, h4⟩ := r.mp o es ho
    refine ⟨by rw [po_size]; exact h1, ms, ck, ?_, h3, h4⟩
    rw [World.putObj_heap_other]
    · exact h2
    · intro e
      rw [e, hr] at h2
      cases h2
      exact hx
theorem Tr.turn {μ h w μ1 h1 w1} (t : Tr μ h w μ1 h1 w1) {rb : Nat} {x y : Go.Obj} (hr : w1.heap[rb]? = some x) (hx : ApartO x) (hy : ApartO y) (hb : w.heap.size ≤ rb) : Tr μ h w μ1 h1 (w1.putObj rb y) := by
  refine ⟨t.rel.turn hr hx hy, t.step, ⟨t.keep.os, t.keep.tape, t.keep.output, by rw [po_size]; exact t.keep.size, fun k hk hn => ?_, t.keep.drawn⟩, t.mine, t.has⟩
  rw [World.putObj_heap_other (by omega)]; exact t.keep.block k hk hn
theorem Tr.apart {μ h w μ1 h1 w1 rb x} (t : Tr μ h w μ1 h1 w1) (hr : w.heap[rb]? = some x) (hm : ¬ Mine μ h rb) : w1.heap[rb]? = some x ∧ ¬ Mine μ1 h1 rb := by
  have hl : rb < w.heap.size := (Array.getElem?_eq_some_iff.1 hr).1
  refine ⟨by rw [t.keep.block rb hl hm]; exact hr, fun hc => ?_⟩
  rcases t.mine rb hc with h | h
  · exact hm h
  · omega
section
variable {P : Program} {T : Tab} {S : SatT}
/-- A fence that lets all in. -/
structure WideF (F : Fence) (n : Nat) (P : Program) : Prop where
  all : ∀ f, F.fn f
  deep : F.depth = none
  call : ∀ f args w R, Calls P f args w R → CallsIn F (n - 1) P f args w R
theorem wide_wide (n : Nat) (P : Program) : WideF Fence.wide n P := ⟨fun _ => trivial, rfl, fun _ _ _ _ h => callsIn_wide.2 h⟩
theorem wide_round (n l : Nat) (P : Program) : WideF (Fence.wide.inRound l) n P := ⟨fun _ => trivial, rfl, fun _ _ _ _ h => CallsIn.inRound l (callsIn_wide.2 h)⟩
theorem OpOK.inn {F : Fence} {n : Nat} (W : WideF F n P) {o : Oper} {a : Act} {w : World} {R : Value → World → Prop} {next : Act → World → Prop} {Q : Exit → Act → World → Prop} (h : OpOK P (execOp a.eval o) w R) (hd : ∀ c, o.op ≠ .defer c)
    (hn : ∀ v w', R v w' → next (a.put o.dst v) w') : o.wpIn F n P a w next Q := by
  refine ⟨fun f _ => W.all f, ?_⟩
  rw [Oper.semAt_eq _ _ _ hd]
  unfold OpOK at h
  split at h
  · next v w' e => rw [e]; exact hn _ _ h
  · next w' e => rw [e]; exact hn _ _ h
  · next f args w' e =>
    rw [e]
    refine ⟨fun hh => (by rw [W.deep] at hh; cases hh), W.call _ _ _ _ (Calls.mono h fun e w'' ⟨v, he, hr⟩ => ?_)⟩
    rw [he]
    exact hn _ _ hr
  · exact h.elim
theorem opK_nodefer {o : Oper} {fr : Frame} {h : H} {K : AVal → H → Prop} (H : opK S T o fr h K) : ∀ c, o.op ≠ .defer c := by
  intro c e
  unfold opK at H
  rw [e] at H
  exact H
theorem runOps_in (hS : ∀ f args h v h2, S f args h v h2 → Sat P f args h v h2) (hT : TOK P T) {ops : Array Oper} {k : Frame → H → Prop} {Q : Exit → Act → World → Prop} {F : Fence} {n : Nat} (W : WideF F n P) :
    ∀ (l : List Oper) (i : Nat), ops.toList.drop i = l → ∀ {μ : Mu} {h : H} {w : World} {fr : Frame} {a : Act}, Rel μ h w → VRs μ h fr a.tmps.toList → runOps S T ops.toList l k fr h →
      (∀ μ' h' w' fr' a', Tr μ h w μ' h' w' → VRs μ' h' fr' a'.tmps.toList → a'.defers = a.defers → (∀ d, (∀ o ∈ l, o.dst ≠ some d) → a'.tmps[d]? = a.tmps[d]?) → k fr' h' → Q .normal a' w') → wpOpsIn F n P ops Q (List.range' i l.length) a w
  | [], i, _, μ, h, w, fr, a, r, hf, hR, hQ => hQ μ h w fr a (Tr.refl r) hf rfl (fun _ _ => rfl) hR
  | o :: l, i, hl, μ, h, w, fr, a, r, hf, hR, hQ => by
    have ho : ops[i]? = some o := by
      rw [← Array.getElem?_toList]
      have := congrArg (·[0]?) hl
      simpa using this
    have hl' : ops.toList.drop (i + 1) = l := by
      rw [← List.drop_drop, hl]; rfl
    rw [List.length_cons, List.range'_succ]
    simp only [wpOpsIn, ho]
    have stepOK : ∀ {K : AVal → H → Prop}, opK S T o fr h K → (∀ v h', K v h' → runOps S T ops.toList l k (put fr o.dst v) h') →
        o.wpIn F n P a w (wpOpsIn F n P ops Q (List.range' (i + 1) l.length)) Q := by
      intro K hK hn
      refine (op_sound hS hT r hf hK).inn W (opK_nodefer hK) fun x w' ⟨v, h', μ', h1, h2, h3⟩ => ?_
      refine runOps_in hS hT W l (i + 1) hl' h2.rel (put_VRs (VRs.step h2.step hf) h3) (hn v h' h1) fun μ2 h2' w2 fr2 a2 t2 f2 d2 g2 k2 => ?_
      exact hQ μ2 h2' w2 fr2 a2 (h2.trans t2) f2 (by rw [d2, put_defers]) (fun d hd => (g2 d fun o' ho' => hd o' (List.mem_cons_of_mem _ ho')).trans (put_keeps (hd o (List.mem_cons_self ..)))) k2
    have skipOK : runOps S T ops.toList l k (put fr o.dst .gone) h → wpOpsIn F n P ops Q (List.range' (i + 1) l.length) (a.put o.dst undef) w := by
      intro hK
      refine runOps_in hS hT W l (i + 1) hl' r (put_VRs (v := .gone) (x := undef) hf (by simp only [VR]; rfl)) hK fun μ2 h2' w2 fr2 a2 t2 f2 d2 g2 k2 => ?_
      exact hQ μ2 h2' w2 fr2 a2 t2 f2 (by rw [d2, put_defers]) (fun d hd => (g2 d fun o' ho' => hd o' (List.mem_cons_of_mem _ ho')).trans (put_keeps (hd o (List.mem_cons_self ..)))) k2
    unfold runOps at hR
    cases hg : o.guard with
    | none =>
      rw [hg] at hR
      rw [if_pos (by unfold Region.wanted; rw [hg])]
      exact stepOK hR fun v h' hK => hK
    | some g =>
      obtain ⟨j, want⟩ := g
      rw [hg] at hR
      simp only at hR
      have hw : Region.wanted o (yielded ops a.tmps) = (yielded ops a.tmps j == some want) := by unfold Region.wanted; rw [hg]
      cases hd : dstOf ops.toList j with
      | none => rw [hd] at hR; exact hR.elim
      | some d =>
        rw [hd] at hR
        simp only at hR
        split at hR
        · next b e =>
          obtain ⟨x, hx1, hx2, hx3⟩ := yielded_of hf hd e (by simp)
          simp only [VR] at hx2
          subst hx2
          have es := set_same e (by simp)
          cases b <;> cases want <;> simp only [cond_true, cond_false, es] at hR <;> first
            | (rw [if_pos (by rw [hw, hx3]; rfl)]; exact stepOK hR fun v h' hK => hK)
            | (rw [if_neg (by rw [hw, hx3]; simp)]; exact ⟨fun f _ => W.all f, skipOK hR⟩)
        · next e =>
          obtain ⟨x, hx1, hx2, hx3⟩ := yielded_of hf hd e (by simp)
          simp only [VR] at hx2
          subst hx2
          rw [if_neg (by rw [hw, hx3]; simp)]
          exact ⟨fun f _ => W.all f, skipOK hR⟩
        · exact hR.elim

/-- The same, of a whole region. -/
theorem region_in (hS : ∀ f args h v h2, S f args h v h2 → Sat P f args h v h2) (hT : TOK P T) {id : Nat} {ops : Array Oper} {k : Frame → H → Prop} {Q : Exit → Act → World → Prop} {F : Fence} {n : Nat} (W : WideF F n P)
    {μ : Mu} {h : H} {w : World} {fr : Frame} {a : Act} (r : Rel μ h w) (hf : VRs μ h fr a.tmps.toList) (hR : runOps S T ops.toList ops.toList k fr h)
    (hQ : ∀ μ' h' w' fr' a', Tr μ h w μ' h' w' → VRs μ' h' fr' a'.tmps.toList → a'.defers = a.defers → (∀ d, (∀ o ∈ ops.toList, o.dst ≠ some d) → a'.tmps[d]? = a.tmps[d]?) → k fr' h' → Q .normal a' w') : (Code.region id ops false).wpIn F n P Q a w := by
  refine wpIn_region ?_
  rw [List.range_eq_range', ← Array.length_toList]
  exact runOps_in hS hT W ops.toList 0 rfl r hf hR hQ
end
end Go.Proofs.Ytlbglfgienklfaa.Cl

/- The clean machine: append of all that slices.Values gives. No claim is stated here. -/
set_option linter.unusedVariables false
set_option linter.unusedSimpArgs false
namespace Go.Proofs.Ytlbglfgienklfaa.Cl
open Go
structure IterP where
  y : Nat
  d11 : Nat
  d12 : Nat
  d13 : Nat
  d14 : Nat
  tc : Nat
  V0 : Array Oper
  V1 : Array Oper
  V2 : Array Oper
  V4 : Array Oper
  o1 : Oper
  mm : List Nat
structure AppP where
  prm : Nat
  A0 : Array Oper
  A1 : Array Oper
  A2 : Array Oper
  A3 : Array Oper
  A4 : Array Oper
  g : Nat
/-- One round. -/
def seqRound (S : SatT) (T : Tab) (q : AppP) (frA : Frame) (v : AVal) (K : H → Prop) (h : H) : Prop :=
  runOps S T q.A2.toList q.A2.toList (fun fr h => runOps S T q.A3.toList q.A3.toList (fun _ h => K h) fr h) (frA.set q.prm v) h
def seqLoop (S : SatT) (T : Tab) (p : IterP) (q : AppP) (frA : Frame) (K : H → Prop) : Nat → Frame → H → Prop
  | 0, fr, h => runOps S T p.V1.toList p.V1.toList (fun fr h => fr.getD p.tc .undef = .bool false ∧ K h) fr h
  | n + 1, fr, h => runOps S T p.V1.toList p.V1.toList (fun fr h => fr.getD p.tc .undef = .bool true ∧ runOps S T p.V2.toList p.V2.toList (fun fr h => opK S T p.o1 (fr.set p.d11 .undef) h fun v h =>
      seqRound S T q frA v (fun h => runOps S T p.V4.toList p.V4.toList (fun fr h => seqLoop S T p q frA K n (mask p.mm fr) h) (clr [p.d11, p.d12, p.d13, p.d14] fr) h) h) fr h) fr h
def seqAll (S : SatT) (T : Tab) (p : IterP) (q : AppP) (fV : Nat) (n : Nat) (frV0 : List AVal → Frame) (fr : Frame) (rs : List ResultVar) (h : H) (K : AVal → H → Prop) : Prop :=
  runOps S T q.A0.toList q.A0.toList (fun fr h => runOps S T q.A1.toList q.A1.toList (fun fr h => ∃ cap, (fr.getD q.g .undef = .func fV cap ∧ cap.length = 1) ∧
    runOps S T p.V0.toList p.V0.toList (fun frV h => seqLoop S T p q fr (fun h => runOps S T q.A4.toList q.A4.toList (fun fr h => resK T rs fr h fun vs => K (one vs) h) fr h) n (mask p.mm frV) h) (frV0 cap) h) fr h) fr h
section
variable {P : Program} {T : Tab} {S : SatT}
theorem args4 {α β : Type} {f : α → β} {l : Array α} {a b c d : β} (e : l.toList.map f = [a, b, c, d]) : ∃ x y z u, l = #[x, y, z, u] ∧ f x = a ∧ f y = b ∧ f z = c ∧ f u = d := by
  obtain ⟨l⟩ := l
  match l, e with
  | [x, y, z, u], e => simp at e; exact ⟨x, y, z, u, rfl, e.1, e.2.1, e.2.2.1, e.2.2.2⟩
  | [], e => simp at e
  | [_], e => simp at e
  | [_, _], e => simp at e
  | [_, _, _], e => simp at e
  | _ :: _ :: _ :: _ :: _ :: _, e => simp at e
theorem wpOpsIn_one {F : Fence} {n : Nat} (W : WideF F n P) {ops : Array Oper} {Q : Exit → Act → World → Prop} {i : Nat} {rest : List Nat} {a : Act} {w : World} {o : Oper} {op : Op} {d : Nat} (ho : ops[i]? = some o) (hp : plainO o = some (op, d)) (hd : ∀ c, op ≠ .defer c)
    {s : Sem Value} (hs : execOp a.eval o = (do pure (.value (← s)))) {x : Value} {w' : World} (hx : s.run P w = .ok x w') (hn : wpOpsIn F n P ops Q rest (a.put (some d) x) w') : wpOpsIn F n P ops Q (i :: rest) a w := by
  obtain ⟨hg, hdd, hop⟩ := plain_of hp
  simp only [wpOpsIn, ho]
  rw [if_pos (by unfold Region.wanted; rw [hg])]
  have hok : OpOK P (execOp a.eval o) w (fun v w2 => v = x ∧ w2 = w') := by rw [hs]; exact OpOK.val hx ⟨rfl, rfl⟩
  refine hok.inn W (fun c => by rw [hop]; exact hd c) fun v w2 hv => ?_
  obtain ⟨rfl, rfl⟩ := hv
  rw [hdd]
  exact hn
theorem wpOpsIn_go {F : Fence} {n : Nat} {ops : Array Oper} {Q : Exit → Act → World → Prop} {i : Nat} {rest : List Nat} {a : Act} {w : World} {o : Oper} (ho : ops[i]? = some o) (hg : o.guard = none)
    (h : o.wpIn F n P a w (wpOpsIn F n P ops Q rest) Q) : wpOpsIn F n P ops Q (i :: rest) a w := by
  simp only [wpOpsIn, ho]
  rw [if_pos (by unfold Region.wanted; rw [hg])]
  exact h
/-- The record of the loop. -/
def recOf (fn : FuncId) (tmps : Array Value) (prm : Nat) (assign body : Code) (D : Nat) (st : LoopState) : Loop := { state := st, pending := none, fn, tmps, params := #[prm], assign, body, defers := D }
/-- What stands between two rounds. -/
structure RSt (st : LoopState) (μ0 : Mu) (h0 : H) (w0 : World) (frA : Frame) (at0 : Array Value) (fn : FuncId) (prm : Nat) (assign body : Code) (l D : Nat) (μ : Mu) (h : H) (w : World) : Prop where
  tr : Tr μ0 h0 w0 μ h w
  fa : VRs μ h frA at0.toList
  rl : w.heap[l]? = some (.loop (recOf fn at0 prm assign body D st))
  rd : w.heap[D]? = some (.deferred (some []))
  ml : ¬ Mine μ h l
  md : ¬ Mine μ h D
  gl : w0.heap.size ≤ l
  gd : w0.heap.size ≤ D
  ne : D ≠ l
theorem RSt.step {st μ0 h0 w0 frA at0 fn prm assign body l D μ h w μ1 h1 w1} (r : RSt st μ0 h0 w0 frA at0 fn prm assign body l D μ h w) (t : Tr μ h w μ1 h1 w1) : RSt st μ0 h0 w0 frA at0 fn prm assign body l D μ1 h1 w1 :=
  ⟨r.tr.trans t, VRs.step t.step r.fa, (t.apart r.rl r.ml).1, (t.apart r.rd r.md).1, (t.apart r.rl r.ml).2, (t.apart r.rd r.md).2, r.gl, r.gd, r.ne⟩
theorem RSt.turn {st st' μ0 h0 w0 frA at0 fn prm assign body l D μ h w} (r : RSt st μ0 h0 w0 frA at0 fn prm assign body l D μ h w) : RSt st' μ0 h0 w0 frA at0 fn prm assign body l D μ h (w.putObj l (.loop (recOf fn at0 prm assign body D st'))) :=
  ⟨r.tr.turn r.rl trivial trivial r.gl, r.fa, World.putObj_heap_same (Array.getElem?_eq_some_iff.1 r.rl).1, by rw [World.putObj_heap_other r.ne]; exact r.rd, r.ml, r.md, r.gl, r.gd, r.ne⟩
variable {μ0 : Mu} {h0 : H} {w0 : World} {frA : Frame} {at0 : Array Value} {fn : FuncId} {l D : Nat}
theorem round_in (hS : ∀ f args h v h2, S f args h v h2 → Sat P f args h v h2) (hT : TOK P T) {q : AppP} {i2 i3 b1 : Nat} {n : Nat} {μ : Mu} {h : H} {w : World} {v : AVal} {x : Value} {K : H → Prop} {R : Ending → World → Prop}
    (r : RSt .ready μ0 h0 w0 frA at0 fn q.prm (.region i2 q.A2 false) (.block b1 (.region i3 q.A3 false)) l D μ h w) (hv : VR μ h v x) (hK : seqRound S T q frA v K h)
    (hR : ∀ μ1 h1 w1, RSt .ready μ0 h0 w0 frA at0 fn q.prm (.region i2 q.A2 false) (.block b1 (.region i3 q.A3 false)) l D μ1 h1 w1 → Step μ h μ1 h1 → K h1 → R (.returned (.bool true)) w1) :
    RoundIn Fence.wide n P l fn (at0.setIfInBounds q.prm x) (.region i2 q.A2 false) (.block b1 (.region i3 q.A3 false)) w R := by
  refine roundIn_of_wpIn trivial ?_
  refine region_in hS hT (wide_round n l P) r.tr.rel (fr := frA.set q.prm v) ?_ hK fun μ1 h1 w1 fr1 a1 t1 f1 d1 _ k1 => ?_
  · simp only [Array.toList_setIfInBounds]
    exact r.fa.set _ hv
  show ∃ w₂, (Instr.beginRound l).run P w1 = .ok () w₂ ∧ _
  have r1 := r.step t1
  refine ⟨_, run_beginRound r1.rl rfl, ?_⟩
  have r2 : RSt .busy μ0 h0 w0 frA at0 fn q.prm (.region i2 q.A2 false) (.block b1 (.region i3 q.A3 false)) l D μ1 h1 _ := r1.turn
  refine wpIn_block (region_in hS hT (wide_round n l P) r2.tr.rel f1 k1 fun μ2 h2 w2 fr2 a2 t2 f2 d2 _ k2 => ?_)
  have r3 := r2.step t2
  exact ⟨_, _, run_endRound none r3.rl, hR μ2 h2 _ r3.turn (t1.step.trans t2.step) k2⟩
theorem exec_call_in {ρ : Operand → Value} {o : Oper} {c : Call} (h : o.op = .call c) : execOp ρ o = (do let d ← resolve ρ c o.type; invoke d.target d.args) := by unfold execOp; rw [h]
theorem exec_not {ρ : Operand → Value} {o : Oper} {t : TypeId} {x : Operand} (h : o.op = .unOp .not t x) : execOp ρ o = (do pure (.value (← Op.unary .not (ρ x)))) := by unfold execOp; rw [h]
/-- The iterator's loop. -/
theorem seqLoop_in (hS : ∀ f args h v h2, S f args h v h2 → Sat P f args h v h2) (hT : TOK P T) {p : IterP} {q : AppP} {i1 i2 i3 i4 j2 j3 b0 b1 bb : Nat} {V3 : Array Oper} {tt : Nat} {yc : Call} {n : Nat}
    (hV3 : V3.toList.map plainO = [some (.move (.tmp p.y), p.d11), some (p.o1.op, p.d12), some (.call yc, p.d13), some (.unOp .not tt (.tmp p.d13), p.d14)]) (ho1 : V3[1]? = some p.o1) (hyc : yc.callee = .value (.tmp p.d11)) (hya : yc.args = #[.tmp p.d12])
    (hnd : [p.y, p.d11, p.d12, p.d13, p.d14].Nodup) (hyk : ∀ V ∈ [p.V1, p.V2, p.V4], ∀ o ∈ V.toList, ∀ d ∈ [p.y, p.d11, p.d12, p.d13, p.d14], o.dst ≠ some d)
    {K : H → Prop} {Q : Exit → Act → World → Prop}
    (hQ : ∀ μ h w a, RSt .ready μ0 h0 w0 frA at0 fn q.prm (.region j2 q.A2 false) (.block bb (.region j3 q.A3 false)) l D μ h w → a.defers = [] → K h → Q (.exit b0) a w) :
    ∀ (N : Nat) {μ : Mu} {h : H} {w : World} {fr : Frame} {a : Act}, RSt .ready μ0 h0 w0 frA at0 fn q.prm (.region j2 q.A2 false) (.block bb (.region j3 q.A3 false)) l D μ h w → VRs μ h fr a.tmps.toList → a.tmps[p.y]? = some (.func (.yield l) #[] #[]) →
      (∀ d ∈ [p.y, p.d11, p.d12, p.d13, p.d14], d < a.tmps.size) → a.defers = [] → seqLoop S T p q frA K N fr h →
      Code.roundsIn Fence.wide n P (.seq (.region i1 p.V1 false) (.seq (.cond (.tmp p.tc) .skip (.exit b0)) (.seq (.block b1 (.seq (.region i2 p.V2 false) (.seq (.region i3 V3 false) (.cond (.tmp p.d14) .ret .skip)))) (.region i4 p.V4 false)))) Q (N + 1) a w
  | 0, μ, h, w, fr, a, r, hf, hy, hds, hdf, hg => by
    rw [roundsIn_succ]
    refine wpIn_seq (region_in hS hT (wide_wide n P) r.tr.rel hf hg fun μ1 h1 w1 fr1 a1 t1 f1 d1 _ k1 => ?_)
    have hc := ev_sound (a := a1) f1 (.tmp p.tc)
    rw [show ev fr1 (.tmp p.tc) = .bool false from k1.1] at hc
    simp only [VR] at hc
    refine wpIn_seq (wpIn_cond_false hc (wpIn_exit ?_))
    exact hQ μ1 h1 w1 a1 (r.step t1) (by rw [d1, hdf]) k1.2
  | N + 1, μ, h, w, fr, a, r, hf, hy, hds, hdf, hg => by
    rw [roundsIn_succ]
    have hyk1 := hyk p.V1 (by simp)
    have hyk2 := hyk p.V2 (by simp)
    have hyk4 := hyk p.V4 (by simp)
    obtain ⟨o0, o1, o2, o3, rfl, e0, e1, e2, e3⟩ := args4 hV3
    have ho1' : o1 = p.o1 := by simpa using ho1
    simp only [List.nodup_cons, List.mem_cons, List.not_mem_nil, or_false, not_or, not_false_eq_true, List.nodup_nil, and_true] at hnd
    obtain ⟨⟨n01, n02, n03, n04⟩, ⟨n12, n13, n14⟩, ⟨n23, n24⟩, n34⟩ := hnd
    refine wpIn_seq (region_in hS hT (wide_wide n P) r.tr.rel hf hg fun μ1 h1 w1 fr1 a1 t1 f1 d1 g1 k1 => ?_)
    have hc := ev_sound (a := a1) f1 (.tmp p.tc)
    rw [show ev fr1 (.tmp p.tc) = .bool true from k1.1] at hc
    simp only [VR] at hc
    refine wpIn_seq (wpIn_cond_true hc (wpIn_skip ?_))
    refine wpIn_seq (wpIn_block (wpIn_seq (region_in hS hT (wide_wide n P) t1.rel f1 k1.2 fun μ2 h2 w2 fr2 a2 t2 f2 d2 g2 k2 => ?_)))
    have r2 := (r.step t1).step t2
    have get2 : ∀ d, d ∈ [p.y, p.d11, p.d12, p.d13, p.d14] → a2.tmps[d]? = a.tmps[d]? := fun d hd => (g2 d fun o ho => hyk2 o ho d hd).trans (g1 d fun o ho => hyk1 o ho d hd)
    have sz2 : ∀ d, d ∈ [p.y, p.d11, p.d12, p.d13, p.d14] → d < a2.tmps.size := fun d hd => by
      have := get2 d hd
      rw [Array.getElem?_eq_getElem (hds d hd)] at this
      exact (Array.getElem?_eq_some_iff.1 this).1
    have hy2 : a2.tmps[p.y]? = some (.func (.yield l) #[] #[]) := by rw [get2 _ (by simp)]; exact hy
    obtain ⟨_, _, p0⟩ := plain_of e0
    obtain ⟨q1g, q1d, p1⟩ := plain_of e1
    obtain ⟨q2g, q2d, p2⟩ := plain_of e2
    obtain ⟨_, _, p3⟩ := plain_of e3
    refine wpIn_seq (wpIn_region ?_)
    show wpOpsIn Fence.wide n P #[o0, o1, o2, o3] _ [0, 1, 2, 3] a2 w2
    refine wpOpsIn_one (wide_wide n P) rfl e0 (fun c h => by cases h) (exec_move p0) (x := .func (.yield l) #[] #[]) (w' := w2) (by rw [eval_tmp hy2]; rfl) ?_
    -- the value that is handed on
    have hokk := op_sound (P := P) hS hT t2.rel (o := o1) (a := a2.put (some p.d11) (.func (.yield l) #[] #[])) (VRs.put_clr f2) (by rw [ho1']; exact k2)
    refine wpOpsIn_go (o := o1) rfl q1g ?_
    refine hokk.inn (wide_wide n P) (opK_nodefer (by rw [ho1']; exact k2)) fun x w3 ⟨v, h3, μ3, k3, t3, v3⟩ => ?_
    rw [q1d]
    refine wpOpsIn_go (o := o2) rfl q2g ?_
    have r3 := r2.step t3
    generalize ha3 : (a2.put (some p.d11) (.func (.yield l) #[] #[])).put (some p.d12) x = a3
    have hya3 : a3.eval (.tmp p.d11) = .func (.yield l) #[] #[] := by
      rw [← ha3]
      refine eval_tmp ?_
      rw [put_keeps (by simpa using fun e => n12 e.symm)]
      exact put_self (sz2 _ (by simp))
    have hx3 : a3.eval (.tmp p.d12) = x := by
      rw [← ha3]
      exact eval_tmp (put_self (by rw [put_size]; exact sz2 _ (by simp)))
    refine ⟨fun f _ => trivial, ?_⟩
    rw [show Oper.semAt Fence.wide.round a3.eval o2 = execOp a3.eval o2 from rfl, exec_call_in p2]
    have hrun : (do let d ← resolve a3.eval yc o2.type; invoke d.target d.args : Sem Next).run P w3 = .ok (.round l fn (at0.setIfInBounds q.prm x) (.region j2 q.A2 false) (.block bb (.region j3 q.A3 false))) w3 := by
      have hy := run_yield (P := P) (args := #[x]) r3.rl (by simp [recOf])
      have hr : resolve a3.eval yc o2.type = pure { target := .fn (.yield l) #[], args := #[x] } := by
        simp only [resolve, hyc, hya, hya3]
        simp [Deferred.ofValue, hx3]
      rw [hr]
      simp only [pure_bind, invoke]
      rw [hy]
      simp [recOf]
    rw [hrun]
    refine ⟨fun hh => (by cases hh), round_in hS hT r3 v3 k3 fun μ5 h5 w5 r5 st5 k5 => ?_⟩
    show wpOpsIn Fence.wide n P #[o0, o1, o2, o3] _ [3] _ w5
    rw [q2d]
    refine wpOpsIn_one (wide_wide n P) rfl e3 (fun c h => by cases h) (exec_not p3) (x := .bool false) (w' := w5) (by rw [eval_tmp (put_self (by rw [← ha3, put_size, put_size]; exact sz2 _ (by simp)))]; rfl) ?_
    show (Code.cond (.tmp p.d14) .ret .skip).wpIn Fence.wide n P _ _ w5
    refine wpIn_cond_false (eval_tmp (put_self (by rw [← ha3]; simp only [put_size]; exact sz2 _ (by simp)))) (wpIn_skip ?_)
    show (Code.region i4 p.V4 false).wpIn Fence.wide n P _ _ w5
    generalize ha5 : (a3.put (some p.d13) (.bool true)).put (some p.d14) (.bool false) = a5
    have f5 : VRs μ5 h5 (clr [p.d11, p.d12, p.d13, p.d14] fr2) a5.tmps.toList := by
      rw [← ha5, ← ha3]
      exact VRs.put_clr (VRs.put_clr (VRs.put_clr (VRs.put_clr (VRs.step (t3.step.trans st5) f2))))
    refine region_in hS hT (wide_wide n P) r5.tr.rel f5 k5 fun μ6 h6 w6 fr6 a6 t6 f6 d6 g6 k6 => ?_
    have get6 : ∀ d, d ∈ [p.y, p.d11, p.d12, p.d13, p.d14] → a6.tmps[d]? = a5.tmps[d]? := fun d hd => g6 d fun o ho => hyk4 o ho d hd
    have sz5 : a5.tmps.size = a2.tmps.size := by rw [← ha5, ← ha3]; simp only [put_size]
    refine seqLoop_in hS hT hV3 ho1 hyc hya (by simp only [List.nodup_cons, List.mem_cons, List.not_mem_nil, or_false, not_or, not_false_eq_true, List.nodup_nil, and_true]; exact ⟨⟨n01, n02, n03, n04⟩, ⟨n12, n13, n14⟩, ⟨n23, n24⟩, n34⟩) hyk hQ N (r5.step t6) (mask_VRs2 _ f6) ?_ ?_ ?_ k6
    · rw [get6 _ (by simp), ← ha5, ← ha3, put_keeps (by simpa using fun e => n04 e.symm), put_keeps (by simpa using fun e => n03 e.symm), put_keeps (by simpa using fun e => n02 e.symm), put_keeps (by simpa using fun e => n01 e.symm)]
      exact hy2
    · intro d hd
      have := get6 d hd
      rw [Array.getElem?_eq_getElem (show d < a5.tmps.size by rw [sz5]; exact sz2 d hd)] at this
      exact (Array.getElem?_eq_some_iff.1 this).1
    · rw [d6, ← ha5, ← ha3]
      simp only [put_defers]
      rw [d2, d1, hdf]
/-- The iterator, whole. -/
theorem values_in (hS : ∀ f args h v h2, S f args h v h2 → Sat P f args h v h2) (hT : TOK P T) {p : IterP} {q : AppP} {i0 i1 i2 i3 i4 j2 j3 b0 b1 bb : Nat} {V3 : Array Oper} {tt : Nat} {yc : Call} {n : Nat}
    {f : FuncId} {fnv : Func} (hfn : P.funcs[f]? = some fnv)
    (hb : fnv.body = some (.seq (.region i0 p.V0 false) (.block b0 (.loop (.seq (.region i1 p.V1 false) (.seq (.cond (.tmp p.tc) .skip (.exit b0)) (.seq (.block b1 (.seq (.region i2 p.V2 false) (.seq (.region i3 V3 false) (.cond (.tmp p.d14) .ret .skip)))) (.region i4 p.V4 false))))))))
    (hres : fnv.results = #[])
    (hV3 : V3.toList.map plainO = [some (.move (.tmp p.y), p.d11), some (p.o1.op, p.d12), some (.call yc, p.d13), some (.unOp .not tt (.tmp p.d13), p.d14)]) (ho1 : V3[1]? = some p.o1) (hyc : yc.callee = .value (.tmp p.d11)) (hya : yc.args = #[.tmp p.d12])
    (hnd : [p.y, p.d11, p.d12, p.d13, p.d14].Nodup) (hyk : ∀ V ∈ [p.V0, p.V1, p.V2, p.V4], ∀ o ∈ V.toList, ∀ d ∈ [p.y, p.d11, p.d12, p.d13, p.d14], o.dst ≠ some d)
    {K : H → Prop} {R : Ending → World → Prop} {N : Nat} {μ : Mu} {h : H} {w : World} {cap : List AVal} {ds : Array Value}
    (r : RSt .ready μ0 h0 w0 frA at0 fn q.prm (.region j2 q.A2 false) (.block bb (.region j3 q.A3 false)) l D μ h w) (hcap : VRs μ h cap ds.toList) (hy0 : p.y = 0) (hsz : ∀ d ∈ [p.y, p.d11, p.d12, p.d13, p.d14], d < fnv.ntmps) (hnt : 1 + ds.size ≤ fnv.ntmps)
    (hK : runOps S T p.V0.toList p.V0.toList (fun frV h => seqLoop S T p q frA K N (mask p.mm frV) h) (fr0 fnv (.undef :: cap)) h)
    (hR : ∀ μ h w v, RSt .ready μ0 h0 w0 frA at0 fn q.prm (.region j2 q.A2 false) (.block bb (.region j3 q.A3 false)) l D μ h w → K h → R (.returned v) w) :
    CallsIn Fence.wide n P f (#[.func (.yield l) #[] #[]] ++ ds) w R := by
  refine callsIn_of_wp hfn hb trivial ?_
  have hargs : (#[Value.func (.yield l) #[] #[]] ++ ds).size = 1 + ds.size := by simp
  generalize ha : ({ tmps := (#[Value.func (.yield l) #[] #[]] ++ ds) ++ Array.replicate (fnv.ntmps - (#[Value.func (.yield l) #[] #[]] ++ ds).size) undef, defers := [] } : Act) = a
  have hf : VRs μ h (fr0 fnv (.undef :: cap)) a.tmps.toList := by
    rw [← ha]
    unfold fr0
    simp only [Array.toList_append]
    have hl : ds.size = cap.length := by rw [← Array.length_toList, hcap.len]
    refine VRs.append (VRs.append (VRs.cons (by simp only [VR]) VRs.nil : VRs μ h [.undef] _) hcap) ?_
    refine VRs.mk (by simp [hl, Nat.add_comm]) fun i v d h1 h2 => ?_
    rw [List.getElem?_replicate] at h1
    simp only [Array.toList_replicate, List.getElem?_replicate] at h2
    split at h1
    · cases h1
      split at h2
      · cases h2
        simp only [VR]
        rfl
      · cases h2
    · cases h1
  have hsz' : a.tmps.size = fnv.ntmps := by rw [← ha]; simp; omega
  have hyv : a.tmps[p.y]? = some (.func (.yield l) #[] #[]) := by
    rw [← ha, hy0]
    show ((#[Value.func (.yield l) #[] #[]] ++ ds) ++ Array.replicate _ undef)[0]? = _
    rw [Array.getElem?_append, if_pos (by rw [hargs]; omega), Array.getElem?_append, if_pos (by simp)]
    rfl
  have had : a.defers = [] := by rw [← ha]
  refine wpIn_seq (region_in hS hT (wide_wide n P) r.tr.rel hf hK fun μ1 h1 w1 fr1 a1 t1 f1 d1 g1 k1 => ?_)
  have hyk0 := hyk p.V0 (by simp)
  have get1 : ∀ d, d ∈ [p.y, p.d11, p.d12, p.d13, p.d14] → a1.tmps[d]? = a.tmps[d]? := fun d hd => g1 d fun o ho => hyk0 o ho d hd
  refine wpIn_block (wpIn_loop_rounds (N + 1) ?_)
  refine seqLoop_in hS hT hV3 ho1 hyc hya hnd (fun V hV => hyk V (List.mem_cons_of_mem _ hV)) (b0 := b0) (K := K) ?_ N (r.step t1) (mask_VRs2 _ f1) (by rw [get1 _ (by simp)]; exact hyv) ?_ (by rw [d1, had]) k1
  · intro μ2 h2 w2 a2 r2 d2 k2
    simp only [Exit.inBlock, if_true]
    show a2.defers = [] ∧ _
    refine ⟨d2, .tuple #[], ?_, hR μ2 h2 w2 _ r2 k2⟩
    unfold results
    rw [hres]
    simp
  · intro d hd
    have := get1 d hd
    rw [Array.getElem?_eq_getElem (show d < a.tmps.size by rw [hsz']; exact hsz d hd)] at this
    exact (Array.getElem?_eq_some_iff.1 this).1
/-! what is brought about -/
theorem runOps_bind {β : Type} (ops l : List Oper) (fr : Frame) (h : H) {G : Frame → H → (β → Prop) → Prop} (hG : ∀ fr h, Lin (G fr h)) : Lin fun K => runOps S T ops l (fun fr h => G fr h K) fr h :=
  Lin.bind (F := fun (K : Frame × H → Prop) => runOps S T ops l (fun fr h => K (fr, h)) fr h) (G := fun x K => G x.1 x.2 K) (runOps_lin ops l fr h) fun x => hG x.1 x.2
theorem seqRound_bind {β : Type} (q : AppP) (frA : Frame) (v : AVal) (h : H) {G : H → (β → Prop) → Prop} (hG : ∀ h, Lin (G h)) : Lin fun K => seqRound S T q frA v (fun h => G h K) h :=
  runOps_bind (G := fun fr h K => runOps S T q.A3.toList q.A3.toList (fun _ h => G h K) fr h) _ _ _ _ fun fr h => runOps_bind (G := fun _ h K => G h K) _ _ _ _ fun _ h => hG h
theorem seqLoop_bind {β : Type} (p : IterP) (q : AppP) (frA : Frame) {G : H → (β → Prop) → Prop} (hG : ∀ h, Lin (G h)) : ∀ (n : Nat) (fr : Frame) (h : H), Lin fun K => seqLoop S T p q frA (fun h => G h K) n fr h
  | 0, fr, h => runOps_bind (G := fun fr h K => fr.getD p.tc .undef = .bool false ∧ G h K) _ _ _ _ fun fr h => (hG h).and _
  | n + 1, fr, h => by
    unfold seqLoop
    refine runOps_bind (G := fun fr h K => fr.getD p.tc .undef = .bool true ∧ runOps S T p.V2.toList p.V2.toList (fun fr h => opK S T p.o1 (fr.set p.d11 .undef) h fun v h =>
      seqRound S T q frA v (fun h => runOps S T p.V4.toList p.V4.toList (fun fr h => seqLoop S T p q frA (fun h => G h K) n (mask p.mm fr) h) (clr [p.d11, p.d12, p.d13, p.d14] fr) h) h) fr h) _ _ _ _ fun fr h => Lin.and _ ?_
    refine runOps_bind (G := fun fr h K => opK S T p.o1 (fr.set p.d11 .undef) h fun v h =>
      seqRound S T q frA v (fun h => runOps S T p.V4.toList p.V4.toList (fun fr h => seqLoop S T p q frA (fun h => G h K) n (mask p.mm fr) h) (clr [p.d11, p.d12, p.d13, p.d14] fr) h) h) _ _ _ _ fun fr h => ?_
    refine op_bind (G := fun v h K => seqRound S T q frA v (fun h => runOps S T p.V4.toList p.V4.toList (fun fr h => seqLoop S T p q frA (fun h => G h K) n (mask p.mm fr) h) (clr [p.d11, p.d12, p.d13, p.d14] fr) h) h) _ _ _ fun v h => ?_
    refine seqRound_bind (G := fun h K => runOps S T p.V4.toList p.V4.toList (fun fr h => seqLoop S T p q frA (fun h => G h K) n (mask p.mm fr) h) (clr [p.d11, p.d12, p.d13, p.d14] _) h) _ _ _ _ fun h => ?_
    exact runOps_bind (G := fun fr h K => seqLoop S T p q frA (fun h => G h K) n (mask p.mm fr) h) _ _ _ _ fun fr h => seqLoop_bind p q frA hG n _ h
theorem seqAll_lin (p : IterP) (q : AppP) (fV n : Nat) (frV0 : List AVal → Frame) (fr : Frame) (rs : List ResultVar) (h : H) : Lin fun (K : AVal × H → Prop) => seqAll S T p q fV n frV0 fr rs h fun v h => K (v, h) := by
  unfold seqAll
  refine runOps_bind (G := fun fr h (K : AVal × H → Prop) => runOps S T q.A1.toList q.A1.toList (fun fr h => ∃ cap, (fr.getD q.g .undef = .func fV cap ∧ cap.length = 1) ∧
    runOps S T p.V0.toList p.V0.toList (fun frV h => seqLoop S T p q fr (fun h => runOps S T q.A4.toList q.A4.toList (fun fr h => resK T rs fr h fun vs => K (one vs, h)) fr h) n (mask p.mm frV) h) (frV0 cap) h) fr h) _ _ _ _ fun fr h => ?_
  refine runOps_bind (G := fun fr h (K : AVal × H → Prop) => ∃ cap, (fr.getD q.g .undef = .func fV cap ∧ cap.length = 1) ∧
    runOps S T p.V0.toList p.V0.toList (fun frV h => seqLoop S T p q fr (fun h => runOps S T q.A4.toList q.A4.toList (fun fr h => resK T rs fr h fun vs => K (one vs, h)) fr h) n (mask p.mm frV) h) (frV0 cap) h) _ _ _ _ fun fr h => Lin.exists_ fun cap => Lin.and _ ?_
  refine runOps_bind (G := fun frV h (K : AVal × H → Prop) => seqLoop S T p q fr (fun h => runOps S T q.A4.toList q.A4.toList (fun fr h => resK T rs fr h fun vs => K (one vs, h)) fr h) n (mask p.mm frV) h) _ _ _ _ fun frV h => ?_
  refine seqLoop_bind (G := fun h (K : AVal × H → Prop) => runOps S T q.A4.toList q.A4.toList (fun fr h => resK T rs fr h fun vs => K (one vs, h)) fr h) p q fr (fun h => ?_) n _ h
  exact runOps_bind (G := fun fr h (K : AVal × H → Prop) => resK T rs fr h fun vs => K (one vs, h)) _ _ _ _ fun fr h => Lin.map (resK_lin fr h rs) fun vs => (one vs, h)
theorem results_of (hT : TOK P T) {fn : Func} {μ : Mu} {h : H} {w : World} {fr : Frame} {tmps : Array Value} {K : AVal → Prop} (r : Rel μ h w) (hf : VRs μ h fr tmps.toList) (hK : resK T fn.results.toList fr h fun vs => K (one vs)) :
    ∃ x v, (results fn tmps).run P w = .ok x w ∧ K v ∧ VR μ h v x := by
  obtain ⟨vs, ds', k1, k2, k3⟩ := resK_sound (P := P) hT r hf _ _ hK
  have hone : ∃ x, (results fn tmps).run P w = .ok x w ∧ VR μ h (one vs) x := by
    rw [results_eq, Sem.run_bind, Array.mapM_eq_mapM_toList, Sem.run_map, k1]
    simp only [Result.andThen_ok]
    cases vs with
    | nil =>
      simp only [VRs] at k3
      subst k3
      exact ⟨_, rfl, by simp only [one, VR]; exact ⟨#[], rfl, VRs.nil⟩⟩
    | cons v1 vs =>
      have k3' := k3
      simp only [VRs] at k3'
      obtain ⟨d1, ds'', rfl, hv1, hvs⟩ := k3'
      cases vs with
      | nil =>
        simp only [VRs] at hvs
        subst hvs
        exact ⟨d1, rfl, hv1⟩
      | cons v2 vs =>
        have k4 := hvs
        simp only [VRs] at k4
        obtain ⟨d2, ds3, rfl, _, _⟩ := k4
        refine ⟨.tuple (d1 :: d2 :: ds3).toArray, ?_, by simp only [one, VR]; exact ⟨_, rfl, k3⟩⟩
        simp
  obtain ⟨x, hx, hvx⟩ := hone
  exact ⟨x, _, hx, k2, hvx⟩
theorem appSeq_sat (hT : TOK P T) {p : IterP} {q : AppP} {i0 i1 i2 i3 i4 j0 j1 j2 j3 j4 b0 b1 bb c0 : Nat} {V3 : Array Oper} {tt : Nat} {yc : Call} {fV f : FuncId} {fnv fna : Func} {N : Nat}
    (hfn : P.funcs[fV]? = some fnv)
    (hb : fnv.body = some (.seq (.region i0 p.V0 false) (.block b0 (.loop (.seq (.region i1 p.V1 false) (.seq (.cond (.tmp p.tc) .skip (.exit b0)) (.seq (.block b1 (.seq (.region i2 p.V2 false) (.seq (.region i3 V3 false) (.cond (.tmp p.d14) .ret .skip)))) (.region i4 p.V4 false))))))))
    (hres : fnv.results = #[])
    (hV3 : V3.toList.map plainO = [some (.move (.tmp p.y), p.d11), some (p.o1.op, p.d12), some (.call yc, p.d13), some (.unOp .not tt (.tmp p.d13), p.d14)]) (ho1 : V3[1]? = some p.o1) (hyc : yc.callee = .value (.tmp p.d11)) (hya : yc.args = #[.tmp p.d12])
    (hnd : [p.y, p.d11, p.d12, p.d13, p.d14].Nodup) (hyk : ∀ V ∈ [p.V0, p.V1, p.V2, p.V4], ∀ o ∈ V.toList, ∀ d ∈ [p.y, p.d11, p.d12, p.d13, p.d14], o.dst ≠ some d)
    (hy0 : p.y = 0) (hsz : ∀ d ∈ [p.y, p.d11, p.d12, p.d13, p.d14], d < fnv.ntmps)
    (hfa : P.funcs[f]? = some fna)
    (hba : fna.body = some (.seq (.region j0 q.A0 false) (.seq (.seq (.region j1 q.A1 false) (.block c0 (.rangeFunc (.tmp q.g) #[q.prm] (.region j2 q.A2 false) (.block bb (.region j3 q.A3 false))))) (.seq (.region j4 q.A4 false) .ret))))
    (hcall : ∀ (a : Array Value) (w : World), (callFunc f a).run P w = .ok (.enter f a) w) (hcallV : ∀ (a : Array Value) (w : World), (callFunc fV a).run P w = .ok (.enter fV a) w)
    {args : List AVal} {h : H} {K : AVal → H → Prop} (hcp : 2 ≤ fnv.ntmps)
    (hH : seqAll (Sat P) T p q fV N (fun cap => fr0 fnv (.undef :: cap)) (fr0 fna args) fna.results.toList h K) : ∃ v h2, Sat P f args h v h2 ∧ K v h2 := by
  have hl := seqAll_lin (S := Sat P) (T := T) p q fV N (fun cap => fr0 fnv (.undef :: cap)) (fr0 fna args) fna.results.toList h
  obtain ⟨⟨v, h2⟩, hk, hx⟩ := Lin.wit hl (K := fun p => K p.1 p.2) hH
  refine ⟨v, h2, ⟨hcall, fun μ w ds r hd => callsIn_wide.1 (callsIn_of_wp_marks (n := 2) hfa hba trivial ?_)⟩, hk⟩
  clear hk hH hl
  have hS : ∀ f args h v h2, Sat P f args h v h2 → Sat P f args h v h2 := fun _ _ _ _ _ h => h
  have hfr : VRs μ h (fr0 fna args) (ds.toArray ++ Array.replicate (fna.ntmps - ds.toArray.size) undef).toList := by
    unfold fr0
    rw [Array.toList_append]
    refine hd.append ?_
    have : ds.toArray.size = args.length := by simp [hd.len]
    rw [this]
    refine VRs.mk (by simp) fun i v d h1 h2 => ?_
    rw [List.getElem?_replicate] at h1
    simp only [Array.toList_replicate, List.getElem?_replicate] at h2
    split at h1
    · next hi =>
      rw [if_pos hi] at h2
      cases h1
      cases h2
      simp only [VR]
      rfl
    · cases h1
  refine wpIn_seq (region_in hS hT (wide_wide 2 P) r hfr hx fun μ1 h1 w1 fr1 a1 t1 f1 d1 _ k1 => ?_)
  refine wpIn_seq (wpIn_seq (region_in hS hT (wide_wide 2 P) t1.rel f1 k1 fun μ2 h2' w2 fr2 a2 t2 f2 d2 _ k2 => ?_))
  have t := t1.trans t2
  obtain ⟨cap, ⟨hcap, hcl⟩, k3⟩ := k2
  have hg := ev_sound (a := a2) f2 (.tmp q.g)
  rw [show ev fr2 (.tmp q.g) = .func fV cap from hcap] at hg
  simp only [VR] at hg
  obtain ⟨dsc, hg, hvc⟩ := hg
  have ad2 : a2.defers = [] := by rw [d2, d1]
  refine wpIn_block (wpIn_rangeFunc fun fn _ => ?_)
  generalize hW1 : (w2.alloc (.deferred (some []))).alloc (.loop (recOf fn a2.tmps q.prm (.region j2 q.A2 false) (.block bb (.region j3 q.A3 false)) w2.heap.size .ready)) = W1
  have sz1 : (w2.alloc (.deferred (some []))).heap.size = w2.heap.size + 1 := alloc_size _ _
  have rs : RSt .ready μ h w fr2 a2.tmps fn q.prm (.region j2 q.A2 false) (.block bb (.region j3 q.A3 false)) (w2.heap.size + 1) w2.heap.size μ2 h2' W1 := by
    have e1 := Tr.extra t.rel (.deferred (some []))
    have e2 := Tr.extra e1.rel (.loop (recOf fn a2.tmps q.prm (.region j2 q.A2 false) (.block bb (.region j3 q.A3 false)) w2.heap.size .ready))
    rw [hW1] at e2
    refine ⟨t.trans (e1.trans e2), f2, ?_, ?_, ?_, ?_, ?_, t.keep.size, by omega⟩
    · rw [← hW1, ← sz1]; exact heap_alloc_new _ _
    · rw [← hW1, heap_alloc_old _ _ (by omega)]; exact heap_alloc_new _ _
    · intro hc; have := t.rel.mine_lt hc; omega
    · intro hc; have := t.rel.mine_lt hc; omega
    · have := t.keep.size; omega
  refine ⟨w2.heap.size + 1, [{ target := .collected w2.heap.size, args := #[] }], W1, { target := .fn (.func fV) dsc, args := #[.func (.yield (w2.heap.size + 1)) #[] #[]] }, W1, fV, #[.func (.yield (w2.heap.size + 1)) #[] #[]] ++ dsc, W1, ?_, ?_, ?_, ?_, fun hh => (by cases hh), ?_⟩
  · rw [← hW1]; exact run_enterLoop_outer _ _ _ _ _
  · simp only [resolve, hg]
    simp [Deferred.ofValue, Act.eval]
  · intro f' hf'; trivial
  · simp only [invoke]; exact hcallV _ _
  refine values_in hS hT hfn hb hres hV3 ho1 hyc hya hnd hyk rs hvc hy0 hsz ?_ k3 fun μ3 h3 w3 vr r3 k4 => ?_
  · have := hvc.len
    rw [Array.length_toList] at this
    omega
  refine ⟨none, _, run_endLoop r3.rl (by simp [recOf]), ?_⟩
  have r4 : RSt .exhausted μ h w fr2 a2.tmps fn q.prm (.region j2 q.A2 false) (.block bb (.region j3 q.A3 false)) (w2.heap.size + 1) w2.heap.size μ3 h3 _ := r3.turn
  show Code.wpIn Fence.wide 2 P (.seq (.region j4 q.A4 false) .ret) _ _ (w3.putObj (w2.heap.size + 1) (.loop (recOf fn a2.tmps q.prm (.region j2 q.A2 false) (.block bb (.region j3 q.A3 false)) w2.heap.size .exhausted)))
  refine wpIn_seq (region_in hS hT (wide_wide 2 P) r4.tr.rel (a := { a2 with defers := [{ target := .collected w2.heap.size, args := #[] }] ++ a2.defers }) r4.fa k4 fun μ5 h5 w5 fr5 a5 t5 f5 d5 _ k5 => ?_)
  refine wpIn_ret ?_
  have r5 := r4.step t5
  show LeavesInM Fence.wide 2 P fna a5.tmps _ a5.defers .returning w5
  rw [d5, ad2]
  refine ⟨by simp, .inl ⟨w2.heap.size, _, rfl, run_takeDeferred r5.rd, ?_⟩⟩
  have rr : Tr μ h w μ5 h5 (w5.putObj w2.heap.size (.deferred none)) := r5.tr.turn r5.rd trivial trivial r5.gd
  generalize w5.putObj w2.heap.size (.deferred none) = w6 at rr
  obtain ⟨x, v', hxr, hve, hv⟩ := results_of (P := P) hT (fn := fna) (tmps := a5.tmps) (K := fun v' => (v', h5) = (v, h2)) rr.rel f5 k5
  cases hve
  exact ⟨x, hxr, x, μ5, rfl, rr, hv⟩
end
end Go.Proofs.Ytlbglfgienklfaa.Cl

/- The clean machine: slices.SortFunc by its contract of the shelf. No claim is stated here. -/
set_option linter.unusedVariables false
set_option linter.unusedSimpArgs false
namespace Go.Proofs.Ytlbglfgienklfaa.Cl
open Go Go.Sort Go.Shelf Go.Lib
theorem world_grow (w w' : World) (hos : w'.os = w.os) (htp : w'.tape = w.tape) (hout : w'.output = w.output) (hsz : w.heap.size ≤ w'.heap.size) (hblk : ∀ k, k < w.heap.size → w'.heap[k]? = w.heap[k]?) (hdr : w.drawn ≤ w'.drawn) :
    ∃ q os', w' = Sort.grow (w.drewN q) os' := by
  refine ⟨w'.drawn - w.drawn, w'.heap.extract w.heap.size w'.heap.size, ?_⟩
  have hh : w'.heap = w.heap ++ w'.heap.extract w.heap.size w'.heap.size := by
    apply Array.ext_getElem?
    intro i
    rw [Array.getElem?_append]
    split
    · next h => exact hblk i h
    · next h =>
      rw [Array.getElem?_extract]
      split
      · next h2 => congr 1; omega
      · next h2 =>
        rw [Array.getElem?_eq_none]
        omega
  have hd : w.drawn + (w'.drawn - w.drawn) = w'.drawn := by omega
  cases w
  cases w'
  simp only [Sort.grow, World.drewN] at *
  rw [hd]
  subst hos htp hout
  congr 1
theorem Tr.grown {μ h w} (r : Rel μ h w) (os : Array Go.Obj) : Tr μ h w μ h (Sort.grow w os) := by
  have hs : (Sort.grow w os).heap.size = w.heap.size + os.size := size_grow _ _
  have hold : ∀ k, k < w.heap.size → (Sort.grow w os).heap[k]? = w.heap[k]? := fun k hk => heap_grow_old w os hk
  have hc : ∀ a : Addr, a.block < w.heap.size → (Sort.grow w os).cell? a = w.cell? a := fun a ha => World.cell?_of_block (hold _ ha)
  have hf : ∀ a : Addr, a.block < w.heap.size → (Sort.grow w os).frozen? a = w.frozen? a := fun a ha => World.frozen?_of_block (hold _ ha)
  refine ⟨⟨fun o cs ho => ?_, fun o cs ho i v hv => ?_, fun o es ho => ?_, r.sep⟩, Step.refl _ _, ⟨rfl, rfl, rfl, by rw [hs]; omega, fun k hk _ => hold k hk, Nat.le_refl _⟩, fun _ h => .inl h, fun _ h => .inl h⟩
  · obtain ⟨h1, h2, h3, h4⟩ := r.own o cs ho
    refine ⟨by rw [hs]; omega, h2, fun i hi => ?_, fun i v hv => ?_⟩
    · rw [hc _ h1, hf _ h1]; exact h3 i hi
    · obtain ⟨q, d, h5, h6⟩ := h4 i v hv
      exact ⟨q, d, by rw [hc _ h1]; exact h5, h6⟩
  · obtain ⟨q, d, h5, h6⟩ := r.ro o cs ho i v hv
    exact ⟨q, d, by rw [hc _ (cell_lt h5)]; exact h5, h6⟩
  · obtain ⟨h1, ms, ck, h2, h3, h4⟩ := r.mp o es ho
    exact ⟨by rw [hs]; omega, ms, ck, by rw [hold _ h1]; exact h2, h3, h4⟩
theorem flat_get {α β : Type} (cl : α → List β) {k : Nat} (hk : ∀ x, (cl x).length = k) (k0 : 0 < k) : ∀ (ts : List α) (i : Nat), (ts.map cl).flatten[i]? = (ts[i / k]?).bind fun x => (cl x)[i % k]?
  | [], i => by simp
  | t :: ts, i => by
    rw [List.map_cons, List.flatten_cons, List.getElem?_append, hk]
    by_cases h : i < k
    · rw [if_pos h, Nat.div_eq_of_lt h, Nat.mod_eq_of_lt h]; rfl
    · rw [if_neg h, flat_get cl hk k0 ts (i - k)]
      have e1 : i / k = (i - k) / k + 1 := Nat.div_eq_sub_div k0 (by omega)
      have e2 : i % k = (i - k) % k := Nat.mod_eq_sub_mod (by omega)
      rw [e1, e2]; simp
theorem flat_len {α β : Type} (cl : α → List β) {k : Nat} (hk : ∀ x, (cl x).length = k) : ∀ (ts : List α), (ts.map cl).flatten.length = ts.length * k
  | [] => by simp
  | t :: ts => by rw [List.map_cons, List.flatten_cons, List.length_append, hk, flat_len cl hk ts, List.length_cons, Nat.add_mul]; omega
section
variable {P : Program} {α : Type} [Inhabited α]
theorem cmp_lays {g : Nat} {enc : α → List Value} {cl : α → List AVal} {cf : α → α → Int} (hec : ∀ x (μ : Mu) (h : H), VRs μ h (cl x) (enc x)) (hcl : ∀ x, (cl x).all AVal.isCell = true)
    (hcmp : ∀ x y, ∃ h2, Sat P g [.agg (cl x), .agg (cl y)] [] (.int .i64 (cf x y)) h2) (k blk off size : Nat) (w : World) : CmpLays P g #[] enc k cf blk off size w := by
  intro m os dk hs x y
  generalize sortWorldK enc k w blk off m dk os = W
  obtain ⟨h2, _, hsat⟩ := hcmp x y
  have hrel : Rel (fun _ => ⟨0, 0, 0⟩) [] W := ⟨fun o cs e => by simp at e, fun o cs e => by simp at e, fun o es e => by simp at e, fun o o' t m t' m' e => by simp [inf] at e⟩
  have hv : VRs (fun _ => (⟨0, 0, 0⟩ : Loc)) [] [.agg (cl x), .agg (cl y)] [.agg (enc x).toArray, .agg (enc y).toArray] :=
    VRs.cons (by simp only [VR]; exact ⟨_, rfl, hec _ _ _, hcl _⟩) (VRs.cons (by simp only [VR]; exact ⟨_, rfl, hec _ _ _, hcl _⟩) VRs.nil)
  refine Calls.mono (hsat _ W _ hrel hv) ?_
  rintro e w' ⟨v, μ', rfl, t, hvx⟩
  simp only [VR] at hvx
  subst hvx
  refine ⟨rfl, world_grow W w' t.keep.os t.keep.tape t.keep.output t.keep.size (fun k hk => t.keep.block k hk ?_) t.keep.drawn⟩
  rintro ⟨o, t, m, e, _⟩
  simp [inf] at e
theorem sort_sat {f g : Nat} {k : Nat} {enc : α → List Value} {cl : α → List AVal} {srt : Array α → Array α} (k0 : 0 < k) (hk : ∀ x, (cl x).length = k) (hec : ∀ x (μ : Mu) (h : H), VRs μ h (cl x) (enc x)) (hcl : ∀ x, (cl x).all AVal.isCell = true)
    (hdet : ∀ x (μ : Mu) (h : H) (i : Nat) v d, (cl x)[i]? = some v → VR μ h v d → (enc x)[i]? = some d) (hss : ∀ d, (srt d).size = d.size)
    (hcall : ∀ (a : Array Value) (w : World), (callFunc f a).run P w = .ok (.enter f a) w)
    (hcon : ∀ (blk off cap : Nat) (d : Array α) (w : World), HoldsK enc k w blk off d → blk < w.heap.size → d.size < 4611686018427387904 → Calls P f #[.slice (some ⟨blk, off, none⟩) d.size cap, .func (.func g) #[] #[]] w fun e w' => e = .returned (.tuple #[]) ∧ ∃ n os, w' = sortWorldK enc k w blk off n (srt d) os)
    (hnone : ∀ (p : Option Addr) (cap : Nat) (fv : Value) (w : World), Calls P f #[.slice p 0 cap, fv] w fun e w' => e = .returned (.tuple #[]) ∧ w' = w)
    {h : H} {s : Sl} {ts : List α} (ho : Ow h s k (ts.map cl).flatten) (hl : ts.length < 4611686018427387904) :
    callV (Sat P) f [.sl s, .func g []] h fun v h' => v = .tuple [] ∧ Ow h' s k ((srt ts.toArray).toList.map cl).flatten ∧ But s.o h h' ∧ h'.length = h.length := by
  have hel : ∀ x, (enc x).length = k := fun x => by rw [(hec x (fun _ => ⟨0, 0, 0⟩) []).len, hk]
  have hslen : s.len = ts.length := by
    have := ho.len
    rw [flat_len cl hk] at this
    exact (Nat.eq_of_mul_eq_mul_right k0 this).symm
  by_cases hz : ts.length = 0
  · have hts : ts = [] := List.length_eq_zero_iff.1 hz
    subst hts
    have hs0 : (srt (#[] : Array α)).toList = [] := by
      have := hss #[]
      simp at this
      simpa using this
    refine ⟨.tuple [], h, ⟨hcall, fun μ w ds r hd => ?_⟩, rfl, by rw [hs0]; exact ho, ⟨Nat.le_refl _, fun _ _ _ => rfl⟩, rfl⟩
    simp only [VRs] at hd
    obtain ⟨d1, ds1, rfl, hv1, d2, ds2, rfl, hv2, rfl⟩ := hd
    have : ∃ p cap, d1 = .slice p 0 cap := by
      simp only [VR, SR] at hv1
      split at hv1
      · exact ⟨_, _, hv1.2⟩
      · obtain ⟨_, _, a, cap, e, _⟩ := hv1
        rw [hslen] at e
        exact ⟨_, _, e⟩
    obtain ⟨p, cap, rfl⟩ := this
    refine Calls.mono (hnone p cap d2 w) ?_
    rintro e w' ⟨rfl, rfl⟩
    exact ⟨_, μ, rfl, Tr.refl r, by simp only [VR]; exact ⟨#[], rfl, VRs.nil⟩⟩
  · obtain ⟨a, b⟩ | ⟨o, hso, hsz, hoff, hn, hob⟩ := ho.at_
    · omega
    have hol : o < h.length := (List.getElem?_eq_some_iff.1 hob).1
    have hlen2 : ((srt ts.toArray).toList.map cl).flatten.length = s.n := by
      rw [flat_len cl hk, Array.length_toList, hss, hn, hslen]; simp
    have hlen1 : (ts.map cl).flatten.length = s.n := by rw [flat_len cl hk, hn, hslen]
    refine ⟨.tuple [], h.set o (.own ((srt ts.toArray).toList.map cl).flatten), ⟨hcall, fun μ w ds r hd => ?_⟩, rfl, ⟨by rw [hlen2, hn], .inr ⟨o, hso, hsz, hoff, hn, by simp [hol]⟩⟩, ⟨by simp, fun i hi hne => by rw [List.getElem?_set, if_neg (fun e => hne (by rw [hso, e]))]⟩, by simp⟩
    simp only [VRs] at hd
    obtain ⟨d1, ds1, rfl, hv1, d2, ds2, rfl, hv2, rfl⟩ := hd
    have hv2' := hv2
    simp only [VR] at hv2'
    obtain ⟨cap2, rfl, hc2⟩ := hv2'
    simp only [VRs] at hc2
    obtain rfl : cap2 = #[] := by simpa using hc2
    simp only [VR, SR, hso] at hv1
    obtain ⟨hin, hz0, a, cap, rfl, hcap, hall⟩ := hv1
    have hio : inf h o = some (0, s.n) := by unfold inf; rw [hob]; simp only; rw [hlen1]
    obtain ⟨_, hfin⟩ := hall 0 s.n hio
    obtain ⟨q1, q2, q3, q4⟩ := hfin rfl
    have ha : a = place (μ o) s.off := by
      rcases q3 with q | q | q
      · omega
      · omega
      · exact q
    rw [hoff] at ha
    subst ha
    obtain ⟨g1, g2, g3, g4⟩ := r.own o _ hob
    have hd0 : ts.toArray.size = s.len := by simp [hslen]
    have hH : HoldsK enc k w (μ o).b (μ o).off ts.toArray := by
      intro j hj
      have hj' : j < ts.length * k := by simpa using hj
      have hjk : j / k < ts.length := (Nat.div_lt_iff_lt_mul k0).2 hj'
      have hmk : j % k < k := Nat.mod_lt _ k0
      obtain ⟨v, hv⟩ : ∃ v, (cl (ts[j / k]'hjk))[j % k]? = some v := ⟨_, List.getElem?_eq_getElem (by rw [hk]; exact hmk)⟩
      have hcs : (ts.map cl).flatten[j]? = some v := by rw [flat_get cl hk k0, List.getElem?_eq_getElem hjk]; exact hv
      obtain ⟨_, d, h5, h6⟩ := g4 j v hcs
      have hed := hdet _ _ _ _ _ _ hv h6
      have hfl : (flatK enc k ts.toArray)[j]! = d := by
        rw [get_flatK enc k _ j (by simpa using hj')]
        have : ts.toArray[j / k]! = ts[j / k]'hjk := by simp [hjk]
        rw [this]
        rw [List.getElem!_eq_getElem?_getD, hed]; rfl
      refine ⟨?_, (g3 j (by rw [hlen1] at g2; rw [hn, hslen] at g2; omega)).2⟩
      rw [hfl]
      exact h5
    have hcc := hcon (μ o).b (μ o).off cap ts.toArray w hH g1 (by simpa using hl)
    have hargs : (#[.slice (some (place (μ o) 0)) s.len cap, .func (.func g) #[] #[]] : Array Value) = #[.slice (some ⟨(μ o).b, (μ o).off, none⟩) ts.toArray.size cap, .func (.func g) #[] #[]] := by rw [hd0]; rfl
    show Calls P f #[.slice (some (place (μ o) 0)) s.len cap, .func (.func g) #[] #[]] w _
    rw [hargs]
    refine Calls.mono hcc ?_
    rintro e w' ⟨rfl, n, os, rfl⟩
    refine ⟨_, μ, rfl, ?_, by simp only [VR]; exact ⟨#[], rfl, VRs.nil⟩⟩
    unfold sortWorldK
    have hsz2 : (srt ts.toArray).size = ts.toArray.size := hss _
    have hH' : HoldsK enc k (Sort.ahead w n) (μ o).b (μ o).off ts.toArray := holdsK_ahead enc k w n _ _ _ hH
    have tw : Tr μ h w μ (h.set o (.own ((srt ts.toArray).toList.map cl).flatten)) (putRowK enc k (Sort.ahead w n) (μ o).b (μ o).off (srt ts.toArray)) := by
      refine Tr.wrote r hob (by rw [hlen2, hlen1]) rfl rfl ⟨rfl, Nat.le_add_right _ _⟩ (by rw [putRowK, size_putRow]; rfl) (fun j hj => ?_) ?_ (fun i hi => ?_) fun i v hv => ?_
      · show (Array.modify _ _ _)[j]? = _
        rw [Array.getElem?_modify, if_neg (fun e => hj e.symm)]; rfl
      · rw [List.all_flatten, List.all_map]
        rw [List.all_eq_true]
        intro x _
        exact hcl x
      · have hi' := g3 i hi
        refine ⟨?_, by rw [putRowK, frozen?_putRow]; exact hi'.2⟩
        by_cases hlt : i < (flatK enc k (srt ts.toArray)).size
        · have := cell?_putRow id (Sort.ahead w n) (μ o).b (μ o).off _ (flatK enc k (srt ts.toArray)) hH' (by simp [hsz2]) i hlt
          show (World.cell? (putRow id (Sort.ahead w n) (μ o).b (μ o).off (flatK enc k (srt ts.toArray))) ⟨(μ o).b, (μ o).off + i, none⟩).isSome = true
          rw [this]; rfl
        · have := cell?_putRow_other id (Sort.ahead w n) (μ o).b (μ o).off (flatK enc k (srt ts.toArray)) (place (μ o) i) (.inr (.inr (by show _ ≤ (μ o).off + i; omega)))
          rw [putRowK, this]; exact hi'.1
      · have hvi := hv
        rw [flat_get cl hk k0] at hv
        cases hq : (srt ts.toArray).toList[i / k]? with
        | none => rw [hq] at hv; cases hv
        | some x =>
          rw [hq] at hv
          have hv : (cl x)[i % k]? = some v := hv
          obtain ⟨d, hd1, hd2⟩ := (hec x μ h).get hv
          have hik : i / k < (srt ts.toArray).size := by have := (List.getElem?_eq_some_iff.1 hq).1; simpa using this
          have hlt : i < (srt ts.toArray).size * k := (Nat.div_lt_iff_lt_mul k0).1 hik
          refine ⟨d, ?_, hd2⟩
          have := cell?_putRow id (Sort.ahead w n) (μ o).b (μ o).off _ (flatK enc k (srt ts.toArray)) hH' (by simp [hsz2]) i (by simpa using hlt)
          show World.cell? (putRow id (Sort.ahead w n) (μ o).b (μ o).off (flatK enc k (srt ts.toArray))) ⟨(μ o).b, (μ o).off + i, none⟩ = some d
          rw [this]
          congr 1
          show (flatK enc k (srt ts.toArray))[i]! = d
          rw [get_flatK enc k _ i hlt]
          have hx : (srt ts.toArray)[i / k]! = x := by
            rw [Array.getElem?_toList] at hq
            simp [hq, getElem!_def]
          rw [hx, List.getElem!_eq_getElem?_getD, hd1]; rfl
    exact tw.trans (Tr.grown tw.rel os)
end
end Go.Proofs.Ytlbglfgienklfaa.Cl
