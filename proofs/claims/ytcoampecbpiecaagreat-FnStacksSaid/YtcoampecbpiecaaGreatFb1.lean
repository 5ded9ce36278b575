/- Contracts of functions, joined. No claim is stated here. -/
import Derived.Test.YtcoampecbpiecaaGreatFb0
import Derived.Test.YtcoampecbpiecaaGreatFa2
import Derived.Shelf.SlSortCmp.InsertionK
import Derived.Shelf.SlSortCmp.NoneTotal
import Derived.Ground.SlsfProg
/- The clean machine: append of all that slices.Values gives. No claim is stated here. -/
set_option linter.unusedVariables false
set_option linter.unusedSimpArgs false
namespace Go.Proofs.YtcoampecbpiecaaGreat.Cl
open Go
structure IterP where
  y : Nat
  d11 : Nat
  d12 : Nat
  d13 : Nat
  d14 : Nat
  tc : Nat
  V0 : Array Oper
  V1 : Array Oper
  V2 : Array Oper
  V4 : Array Oper
  o1 : Oper
  mm : List Nat
structure AppP where
  prm : Nat
  A0 : Array Oper
  A1 : Array Oper
  A2 : Array Oper
  A3 : Array Oper
  A4 : Array Oper
  g : Nat
/-- One round. -/
def seqRound (S : SatT) (T : Tab) (q : AppP) (frA : Frame) (v : AVal) (K : H → Prop) (h : H) : Prop :=
  runOps S T q.A2.toList q.A2.toList (fun fr h => runOps S T q.A3.toList q.A3.toList (fun _ h => K h) fr h) (frA.set q.prm v) h
def seqLoop (S : SatT) (T : Tab) (p : IterP) (q : AppP) (frA : Frame) (K : H → Prop) : Nat → Frame → H → Prop
  | 0, fr, h => runOps S T p.V1.toList p.V1.toList (fun fr h => fr.getD p.tc .undef = .bool false ∧ K h) fr h
  | n + 1, fr, h => runOps S T p.V1.toList p.V1.toList (fun fr h => fr.getD p.tc .undef = .bool true ∧ runOps S T p.V2.toList p.V2.toList (fun fr h => opK S T p.o1 (fr.set p.d11 .undef) h fun v h =>
      seqRound S T q frA v (fun h => runOps S T p.V4.toList p.V4.toList (fun fr h => seqLoop S T p q frA K n (mask p.mm fr) h) (clr [p.d11, p.d12, p.d13, p.d14] fr) h) h) fr h) fr h
def seqAll (S : SatT) (T : Tab) (p : IterP) (q : AppP) (fV : Nat) (n : Nat) (frV0 : List AVal → Frame) (fr : Frame) (rs : List ResultVar) (h : H) (K : AVal → H → Prop) : Prop :=
  runOps S T q.A0.toList q.A0.toList (fun fr h => runOps S T q.A1.toList q.A1.toList (fun fr h => ∃ cap, (fr.getD q.g .undef = .func fV cap ∧ cap.length = 1) ∧
    runOps S T p.V0.toList p.V0.toList (fun frV h => seqLoop S T p q fr (fun h => runOps S T q.A4.toList q.A4.toList (fun fr h => resK T rs fr h fun vs => K (one vs) h) fr h) n (mask p.mm frV) h) (frV0 cap) h) fr h) fr h
section
variable {P : Program} {T : Tab} {S : SatT}
theorem args4 {α β : Type} {f : α → β} {l : Array α} {a b c d : β} (e : l.toList.map f = [a, b, c, d]) : ∃ x y z u, l = #[x, y, z, u] ∧ f x = a ∧ f y = b ∧ f z = c ∧ f u = d := by
  obtain ⟨l⟩ := l
  match l, e with
  | [x, y, z, u], e => simp at e; exact ⟨x, y, z, u, rfl, e.1, e.2.1, e.2.2.1, e.2.2.2⟩
  | [], e => simp at e
  | [_], e => simp at e
  | [_, _], e => simp at e
  | [_, _, _], e => simp at e
  | _ :: _ :: _ :: _ :: _ :: _, e => simp at e
theorem wpOpsIn_one {F : Fence} {n : Nat} (W : WideF F n P) {ops : Array Oper} {Q : Exit → Act → World → Prop} {i : Nat} {rest : List Nat} {a : Act} {w : World} {o : Oper} {op : Op} {d : Nat} (ho : ops[i]? = some o) (hp : plainO o = some (op, d)) (hd : ∀ c, op ≠ .defer c)
    {s : Sem Value} (hs : execOp a.eval o = (do pure (.value (← s)))) {x : Value} {w' : World} (hx : s.run P w = .ok x w') (hn : wpOpsIn F n P ops Q rest (a.put (some d) x) w') : wpOpsIn F n P ops Q (i :: rest) a w := by
  obtain ⟨hg, hdd, hop⟩ := plain_of hp
  simp only [wpOpsIn, ho]
  rw [if_pos (by unfold Region.wanted; rw [hg])]
  have hok : OpOK P (execOp a.eval o) w (fun v w2 => v = x ∧ w2 = w') := by rw [hs]; exact OpOK.val hx ⟨rfl, rfl⟩
  refine hok.inn W (fun c => by rw [hop]; exact hd c) fun v w2 hv => ?_
  obtain ⟨rfl, rfl⟩ := hv
  rw [hdd]
  exact hn
theorem wpOpsIn_go {F : Fence} {n : Nat} {ops : Array Oper} {Q : Exit → Act → World → Prop} {i : Nat} {rest : List Nat} {a : Act} {w : World} {o : Oper} (ho : ops[i]? = some o) (hg : o.guard = none)
    (h : o.wpIn F n P a w (wpOpsIn F n P ops Q rest) Q) : wpOpsIn F n P ops Q (i :: rest) a w := by
  simp only [wpOpsIn, ho]
  rw [if_pos (by unfold Region.wanted; rw [hg])]
  exact h
/-- The record of the loop. -/
def recOf (fn : FuncId) (tmps : Array Value) (prm : Nat) (assign body : Code) (D : Nat) (st : LoopState) : Loop := { state := st, pending := none, fn, tmps, params := #[prm], assign, body, defers := D }
/-- What stands between two rounds. -/
structure RSt (st : LoopState) (μ0 : Mu) (h0 : H) (w0 : World) (frA : Frame) (at0 : Array Value) (fn : FuncId) (prm : Nat) (assign body : Code) (l D : Nat) (μ : Mu) (h : H) (w : World) : Prop where
  tr : Tr μ0 h0 w0 μ h w
  fa : VRs μ h frA at0.toList
  rl : w.heap[l]? = some (.loop (recOf fn at0 prm assign body D st))
  rd : w.heap[D]? = some (.deferred (some []))
  ml : ¬ Mine μ h l
  md : ¬ Mine μ h D
  gl : w0.heap.size ≤ l
  gd : w0.heap.size ≤ D
  ne : D ≠ l
theorem RSt.step {st μ0 h0 w0 frA at0 fn prm assign body l D μ h w μ1 h1 w1} (r : RSt st μ0 h0 w0 frA at0 fn prm assign body l D μ h w) (t : Tr μ h w μ1 h1 w1) : RSt st μ0 h0 w0 frA at0 fn prm assign body l D μ1 h1 w1 :=
  ⟨r.tr.trans t, VRs.step t.step r.fa, (t.apart r.rl r.ml).1, (t.apart r.rd r.md).1, (t.apart r.rl r.ml).2, (t.apart r.rd r.md).2, r.gl, r.gd, r.ne⟩
theorem RSt.turn {st st' μ0 h0 w0 frA at0 fn prm assign body l D μ h w} (r : RSt st μ0 h0 w0 frA at0 fn prm assign body l D μ h w) : RSt st' μ0 h0 w0 frA at0 fn prm assign body l D μ h (w.putObj l (.loop (recOf fn at0 prm assign body D st'))) :=
  ⟨r.tr.turn r.rl trivial trivial r.gl, r.fa, World.putObj_heap_same (Array.getElem?_eq_some_iff.1 r.rl).1, by rw [World.putObj_heap_other r.ne]; exact r.rd, r.ml, r.md, r.gl, r.gd, r.ne⟩
variable {μ0 : Mu} {h0 : H} {w0 : World} {frA : Frame} {at0 : Array Value} {fn : FuncId} {l D : Nat}
theorem round_in (hS : ∀ f args h v h2, S f args h v h2 → Sat P f args h v h2) (hT : TOK P T) {q : AppP} {i2 i3 b1 : Nat} {n : Nat} {μ : Mu} {h : H} {w : World} {v : AVal} {x : Value} {K : H → Prop} {R : Ending → World → Prop}
    (r : RSt .ready μ0 h0 w0 frA at0 fn q.prm (.region i2 q.A2 false) (.block b1 (.region i3 q.A3 false)) l D μ h w) (hv : VR μ h v x) (hK : seqRound S T q frA v K h)
    (hR : ∀ μ1 h1 w1, RSt .ready μ0 h0 w0 frA at0 fn q.prm (.region i2 q.A2 false) (.block b1 (.region i3 q.A3 false)) l D μ1 h1 w1 → Step μ h μ1 h1 → K h1 → R (.returned (.bool true)) w1) :
    RoundIn Fence.wide n P l fn (at0.setIfInBounds q.prm x) (.region i2 q.A2 false) (.block b1 (.region i3 q.A3 false)) w R := by
  refine roundIn_of_wpIn trivial ?_
  refine region_in hS hT (wide_round n l P) r.tr.rel (fr := frA.set q.prm v) ?_ hK fun μ1 h1 w1 fr1 a1 t1 f1 d1 _ k1 => ?_
  · simp only [Array.toList_setIfInBounds]
    exact r.fa.set _ hv
  show ∃ w₂, (Instr.beginRound l).run P w1 = .ok () w₂ ∧ _
  have r1 := r.step t1
  refine ⟨_, run_beginRound r1.rl rfl, ?_⟩
  have r2 : RSt .busy μ0 h0 w0 frA at0 fn q.prm (.region i2 q.A2 false) (.block b1 (.region i3 q.A3 false)) l D μ1 h1 _ := r1.turn
  refine wpIn_block (region_in hS hT (wide_round n l P) r2.tr.rel f1 k1 fun μ2 h2 w2 fr2 a2 t2 f2 d2 _ k2 => ?_)
  have r3 := r2.step t2
  exact ⟨_, _, run_endRound none r3.rl, hR μ2 h2 _ r3.turn (t1.step.trans t2.step) k2⟩
theorem exec_call_in {ρ : Operand → Value} {o : Oper} {c : Call} (h : o.op = .call c) : execOp ρ o = (do let d ← resolve ρ c o.type; invoke d.target d.args) := by unfold execOp; rw [h]
theorem exec_not {ρ : Operand → Value} {o : Oper} {t : TypeId} {x : Operand} (h : o.op = .unOp .not t x) : execOp ρ o = (do pure (.value (← Op.unary .not (ρ x)))) := by unfold execOp; rw [h]
/-- The iterator's loop. -/
theorem seqLoop_in (hS : ∀ f args h v h2, S f args h v h2 → Sat P f args h v h2) (hT : TOK P T) {p : IterP} {q : AppP} {i1 i2 i3 i4 j2 j3 b0 b1 bb : Nat} {V3 : Array Oper} {tt : Nat} {yc : Call} {n : Nat}
    (hV3 : V3.toList.map plainO = [some (.move (.tmp p.y), p.d11), some (p.o1.op, p.d12), some (.call yc, p.d13), some (.unOp .not tt (.tmp p.d13), p.d14)]) (ho1 : V3[1]? = some p.o1) (hyc : yc.callee = .value (.tmp p.d11)) (hya : yc.args = #[.tmp p.d12])
    (hnd : [p.y, p.d11, p.d12, p.d13, p.d14].Nodup) (hyk : ∀ V ∈ [p.V1, p.V2, p.V4], ∀ o ∈ V.toList, ∀ d ∈ [p.y, p.d11, p.d12, p.d13, p.d14], o.dst ≠ some d)
    {K : H → Prop} {Q : Exit → Act → World → Prop}
    (hQ : ∀ μ h w a, RSt .ready μ0 h0 w0 frA at0 fn q.prm (.region j2 q.A2 false) (.block bb (.region j3 q.A3 false)) l D μ h w → a.defers = [] → K h → Q (.exit b0) a w) :
    ∀ (N : Nat) {μ : Mu} {h : H} {w : World} {fr : Frame} {a : Act}, RSt .ready μ0 h0 w0 frA at0 fn q.prm (.region j2 q.A2 false) (.block bb (.region j3 q.A3 false)) l D μ h w → VRs μ h fr a.tmps.toList → a.tmps[p.y]? = some (.func (.yield l) #[] #[]) →
      (∀ d ∈ [p.y, p.d11, p.d12, p.d13, p.d14], d < a.tmps.size) → a.defers = [] → seqLoop S T p q frA K N fr h →
      Code.roundsIn Fence.wide n P (.seq (.region i1 p.V1 false) (.seq (.cond (.tmp p.tc) .skip (.exit b0)) (.seq (.block b1 (.seq (.region i2 p.V2 false) (.seq (.region i3 V3 false) (.cond (.tmp p.d14) .ret .skip)))) (.region i4 p.V4 false)))) Q (N + 1) a w
  | 0, μ, h, w, fr, a, r, hf, hy, hds, hdf, hg => by
    rw [roundsIn_succ]
    refine wpIn_seq (region_in hS hT (wide_wide n P) r.tr.rel hf hg fun μ1 h1 w1 fr1 a1 t1 f1 d1 _ k1 => ?_)
    have hc := ev_sound (a := a1) f1 (.tmp p.tc)
    rw [show ev fr1 (.tmp p.tc) = .bool false from k1.1] at hc
    simp only [VR] at hc
    refine wpIn_seq (wpIn_cond_false hc (wpIn_exit ?_))
    exact hQ μ1 h1 w1 a1 (r.step t1) (by rw [d1, hdf]) k1.2
  | N + 1, μ, h, w, fr, a, r, hf, hy, hds, hdf, hg => by
    rw [roundsIn_succ]
    have hyk1 := hyk p.V1 (by simp)
    have hyk2 := hyk p.V2 (by simp)
    have hyk4 := hyk p.V4 (by simp)
    obtain ⟨o0, o1, o2, o3, rfl, e0, e1, e2, e3⟩ := args4 hV3
    have ho1' : o1 = p.o1 := by simpa using ho1
    simp only [List.nodup_cons, List.mem_cons, List.not_mem_nil, or_false, not_or, not_false_eq_true, List.nodup_nil, and_true] at hnd
    obtain ⟨⟨n01, n02, n03, n04⟩, ⟨n12, n13, n14⟩, ⟨n23, n24⟩, n34⟩ := hnd
    refine wpIn_seq (region_in hS hT (wide_wide n P) r.tr.rel hf hg fun μ1 h1 w1 fr1 a1 t1 f1 d1 g1 k1 => ?_)
    have hc := ev_sound (a := a1) f1 (.tmp p.tc)
    rw [show ev fr1 (.tmp p.tc) = .bool true from k1.1] at hc
    simp only [VR] at hc
    refine wpIn_seq (wpIn_cond_true hc (wpIn_skip ?_))
    refine wpIn_seq (wpIn_block (wpIn_seq (region_in hS hT (wide_wide n P) t1.rel f1 k1.2 fun μ2 h2 w2 fr2 a2 t2 f2 d2 g2 k2 => ?_)))
    have r2 := (r.step t1).step t2
    have get2 : ∀ d, d ∈ [p.y, p.d11, p.d12, p.d13, p.d14] → a2.tmps[d]? = a.tmps[d]? := fun d hd => (g2 d fun o ho => hyk2 o ho d hd).trans (g1 d fun o ho => hyk1 o ho d hd)
    have sz2 : ∀ d, d ∈ [p.y, p.d11, p.d12, p.d13, p.d14] → d < a2.tmps.size := fun d hd => by
      have := get2 d hd
      rw [Array.getElem?_eq_getElem (hds d hd)] at this
      exact (Array.getElem?_eq_some_iff.1 this).1
    have hy2 : a2.tmps[p.y]? = some (.func (.yield l) #[] #[]) := by rw [get2 _ (by simp)]; exact hy
    obtain ⟨_, _, p0⟩ := plain_of e0
    obtain ⟨q1g, q1d, p1⟩ := plain_of e1
    obtain ⟨q2g, q2d, p2⟩ := plain_of e2
    obtain ⟨_, _, p3⟩ := plain_of e3
    refine wpIn_seq (wpIn_region ?_)
    show wpOpsIn Fence.wide n P #[o0, o1, o2, o3] _ [0, 1, 2, 3] a2 w2
    refine wpOpsIn_one (wide_wide n P) rfl e0 (fun c h => by cases h) (exec_move p0) (x := .func (.yield l) #[] #[]) (w' := w2) (by rw [eval_tmp hy2]; rfl) ?_
    -- the value that is handed on
    have hokk := op_sound (P := P) hS hT t2.rel (o := o1) (a := a2.put (some p.d11) (.func (.yield l) #[] #[])) (VRs.put_clr f2) (by rw [ho1']; exact k2)
    refine wpOpsIn_go (o := o1) rfl q1g ?_
    refine hokk.inn (wide_wide n P) (opK_nodefer (by rw [ho1']; exact k2)) fun x w3 ⟨v, h3, μ3, k3, t3, v3⟩ => ?_
    rw [q1d]
    refine wpOpsIn_go (o := o2) rfl q2g ?_
    have r3 := r2.step t3
    generalize ha3 : (a2.put (some p.d11) (.func (.yield l) #[] #[])).put (some p.d12) x = a3
    have hya3 : a3.eval (.tmp p.d11) = .func (.yield l) #[] #[] := by
      rw [← ha3]
      refine eval_tmp ?_
      rw [put_keeps (by simpa using fun e => n12 e.symm)]
      exact put_self (sz2 _ (by simp))
    have hx3 : a3.eval (.tmp p.d12) = x := by
      rw [← ha3]
      exact eval_tmp (put_self (by rw [put_size]; exact sz2 _ (by simp)))
    refine ⟨fun f _ => trivial, ?_⟩
    rw [show Oper.semAt Fence.wide.round a3.eval o2 = execOp a3.eval o2 from rfl, exec_call_in p2]
    have hrun : (do let d ← resolve a3.eval yc o2.type; invoke d.target d.args : Sem Next).run P w3 = .ok (.round l fn (at0.setIfInBounds q.prm x) (.region j2 q.A2 false) (.block bb (.region j3 q.A3 false))) w3 := by
      have hy := run_yield (P := P) (args := #[x]) r3.rl (by simp [recOf])
      have hr : resolve a3.eval yc o2.type = pure { target := .fn (.yield l) #[], args := #[x] } := by
        simp only [resolve, hyc, hya, hya3]
        simp [Deferred.ofValue, hx3]
      rw [hr]
      simp only [pure_bind, invoke]
      rw [hy]
      simp [recOf]
    rw [hrun]
    refine ⟨fun hh => (by cases hh), round_in hS hT r3 v3 k3 fun μ5 h5 w5 r5 st5 k5 => ?_⟩
    show wpOpsIn Fence.wide n P #[o0, o1, o2, o3] _ [3] _ w5
    rw [q2d]
    refine wpOpsIn_one (wide_wide n P) rfl e3 (fun c h => by cases h) (exec_not p3) (x := .bool false) (w' := w5) (by rw [eval_tmp (put_self (by rw [← ha3, put_size, put_size]; exact sz2 _ (by simp)))]; rfl) ?_
    show (Code.cond (.tmp p.d14) .ret .skip).wpIn Fence.wide n P _ _ w5
    refine wpIn_cond_false (eval_tmp (put_self (by rw [← ha3]; simp only [put_size]; exact sz2 _ (by simp)))) (wpIn_skip ?_)
    show (Code.region i4 p.V4 false).wpIn Fence.wide n P _ _ w5
    generalize ha5 : (a3.put (some p.d13) (.bool true)).put (some p.d14) (.bool false) = a5
    have f5 : VRs μ5 h5 (clr [p.d11, p.d12, p.d13, p.d14] fr2) a5.tmps.toList := by
      rw [← ha5, ← ha3]
      exact VRs.put_clr (VRs.put_clr (VRs.put_clr (VRs.put_clr (VRs.step (t3.step.trans st5) f2))))
    refine region_in hS hT (wide_wide n P) r5.tr.rel f5 k5 fun μ6 h6 w6 fr6 a6 t6 f6 d6 g6 k6 => ?_
    have get6 : ∀ d, d ∈ [p.y, p.d11, p.d12, p.d13, p.d14] → a6.tmps[d]? = a5.tmps[d]? := fun d hd => g6 d fun o ho => hyk4 o ho d hd
    have sz5 : a5.tmps.size = a2.tmps.size := by rw [← ha5, ← ha3]; simp only [put_size]
    refine seqLoop_in hS hT hV3 ho1 hyc hya (by simp only [List.nodup_cons, List.mem_cons, List.not_mem_nil, or_false, not_or, not_false_eq_true, List.nodup_nil, and_true]; exact ⟨⟨n01, n02, n03, n04⟩, ⟨n12, n13, n14⟩, ⟨n23, n24⟩, n34⟩) hyk hQ N (r5.step t6) (mask_VRs2 _ f6) ?_ ?_ ?_ k6
    · rw [get6 _ (by simp), ← ha5, ← ha3, put_keeps (by simpa using fun e => n04 e.symm), put_keeps (by simpa using fun e => n03 e.symm), put_keeps (by simpa using fun e => n02 e.symm), put_keeps (by simpa using fun e => n01 e.symm)]
      exact hy2
    · intro d hd
      have := get6 d hd
      rw [Array.getElem?_eq_getElem (show d < a5.tmps.size by rw [sz5]; exact sz2 d hd)] at this
      exact (Array.getElem?_eq_some_iff.1 this).1
    · rw [d6, ← ha5, ← ha3]
      simp only [put_defers]
      rw [d2, d1, hdf]
/-- The iterator, whole. -/
theorem values_in (hS : ∀ f args h v h2, S f args h v h2 → Sat P f args h v h2) (hT : TOK P T) {p : IterP} {q : AppP} {i0 i1 i2 i3 i4 j2 j3 b0 b1 bb : Nat} {V3 : Array Oper} {tt : Nat} {yc : Call} {n : Nat}
    {f : FuncId} {fnv : Func} (hfn : P.funcs[f]? = some fnv)
    (hb : fnv.body = some (.seq (.region i0 p.V0 false) (.block b0 (.loop (.seq (.region i1 p.V1 false) (.seq (.cond (.tmp p.tc) .skip (.exit b0)) (.seq (.block b1 (.seq (.region i2 p.V2 false) (.seq (.region i3 V3 false) (.cond (.tmp p.d14) .ret .skip)))) (.region i4 p.V4 false))))))))
    (hres : fnv.results = #[])
    (hV3 : V3.toList.map plainO = [some (.move (.tmp p.y), p.d11), some (p.o1.op, p.d12), some (.call yc, p.d13), some (.unOp .not tt (.tmp p.d13), p.d14)]) (ho1 : V3[1]? = some p.o1) (hyc : yc.callee = .value (.tmp p.d11)) (hya : yc.args = #[.tmp p.d12])
    (hnd : [p.y, p.d11, p.d12, p.d13, p.d14].Nodup) (hyk : ∀ V ∈ [p.V0, p.V1, p.V2, p.V4], ∀ o ∈ V.toList, ∀ d ∈ [p.y, p.d11, p.d12, p.d13, p.d14], o.dst ≠ some d)
    {K : H → Prop} {R : Ending → World → Prop} {N : Nat} {μ : Mu} {h : H} {w : World} {cap : List AVal} {ds : Array Value}
    (r : RSt .ready μ0 h0 w0 frA at0 fn q.prm (.region j2 q.A2 false) (.block bb (.region j3 q.A3 false)) l D μ h w) (hcap : VRs μ h cap ds.toList) (hy0 : p.y = 0) (hsz : ∀ d ∈ [p.y, p.d11, p.d12, p.d13, p.d14], d < fnv.ntmps) (hnt : 1 + ds.size ≤ fnv.ntmps)
    (hK : runOps S T p.V0.toList p.V0.toList (fun frV h => seqLoop S T p q frA K N (mask p.mm frV) h) (fr0 fnv (.undef :: cap)) h)
    (hR : ∀ μ h w v, RSt .ready μ0 h0 w0 frA at0 fn q.prm (.region j2 q.A2 false) (.block bb (.region j3 q.A3 false)) l D μ h w → K h → R (.returned v) w) :
    CallsIn Fence.wide n P f (#[.func (.yield l) #[] #[]] ++ ds) w R := by
  refine callsIn_of_wp hfn hb trivial ?_
  have hargs : (#[Value.func (.yield l) #[] #[]] ++ ds).size = 1 + ds.size := by simp
  generalize ha : ({ tmps := (#[Value.func (.yield l) #[] #[]] ++ ds) ++ Array.replicate (fnv.ntmps - (#[Value.func (.yield l) #[] #[]] ++ ds).size) undef, defers := [] } : Act) = a
  have hf : VRs μ h (fr0 fnv (.undef :: cap)) a.tmps.toList := by
    rw [← ha]
    unfold fr0
    simp only [Array.toList_append]
    have hl : ds.size = cap.length := by rw [← Array.length_toList, hcap.len]
    refine VRs.append (VRs.append (VRs.cons (by simp only [VR]) VRs.nil : VRs μ h [.undef] _) hcap) ?_
    refine VRs.mk (by simp [hl, Nat.add_comm]) fun i v d h1 h2 => ?_
    rw [List.getElem?_replicate] at h1
    simp only [Array.toList_replicate, List.getElem?_replicate] at h2
    split at h1
    · cases h1
      split at h2
      · cases h2
        simp only [VR]
        rfl
      · cases h2
    · cases h1
  have hsz' : a.tmps.size = fnv.ntmps := by rw [← ha]; simp; omega
  have hyv : a.tmps[p.y]? = some (.func (.yield l) #[] #[]) := by
    rw [← ha, hy0]
    show ((#[Value.func (.yield l) #[] #[]] ++ ds) ++ Array.replicate _ undef)[0]? = _
    rw [Array.getElem?_append, if_pos (by rw [hargs]; omega), Array.getElem?_append, if_pos (by simp)]
    rfl
  have had : a.defers = [] := by rw [← ha]
  refine wpIn_seq (region_in hS hT (wide_wide n P) r.tr.rel hf hK fun μ1 h1 w1 fr1 a1 t1 f1 d1 g1 k1 => ?_)
  have hyk0 := hyk p.V0 (by simp)
  have get1 : ∀ d, d ∈ [p.y, p.d11, p.d12, p.d13, p.d14] → a1.tmps[d]? = a.tmps[d]? := fun d hd => g1 d fun o ho => hyk0 o ho d hd
  refine wpIn_block (wpIn_loop_rounds (N + 1) ?_)
  refine seqLoop_in hS hT hV3 ho1 hyc hya hnd (fun V hV => hyk V (List.mem_cons_of_mem _ hV)) (b0 := b0) (K := K) ?_ N (r.step t1) (mask_VRs2 _ f1) (by rw [get1 _ (by simp)]; exact hyv) ?_ (by rw [d1, had]) k1
  · intro μ2 h2 w2 a2 r2 d2 k2
    simp only [Exit.inBlock, if_true]
    show a2.defers = [] ∧ _
    refine ⟨d2, .tuple #[], ?_, hR μ2 h2 w2 _ r2 k2⟩
    unfold results
    rw [hres]
    simp
  · intro d hd
    have := get1 d hd
    rw [Array.getElem?_eq_getElem (show d < a.tmps.size by rw [hsz']; exact hsz d hd)] at this
    exact (Array.getElem?_eq_some_iff.1 this).1
/-! what is brought about -/
theorem runOps_bind {β : Type} (ops l : List Oper) (fr : Frame) (h : H) {G : Frame → H → (β → Prop) → Prop} (hG : ∀ fr h, Lin (G fr h)) : Lin fun K => runOps S T ops l (fun fr h => G fr h K) fr h :=
  Lin.bind (F := fun (K : Frame × H → Prop) => runOps S T ops l (fun fr h => K (fr, h)) fr h) (G := fun x K => G x.1 x.2 K) (runOps_lin ops l fr h) fun x => hG x.1 x.2
theorem seqRound_bind {β : Type} (q : AppP) (frA : Frame) (v : AVal) (h : H) {G : H → (β → Prop) → Prop} (hG : ∀ h, Lin (G h)) : Lin fun K => seqRound S T q frA v (fun h => G h K) h :=
  runOps_bind (G := fun fr h K => runOps S T q.A3.toList q.A3.toList (fun _ h => G h K) fr h) _ _ _ _ fun fr h => runOps_bind (G := fun _ h K => G h K) _ _ _ _ fun _ h => hG h
theorem seqLoop_bind {β : Type} (p : IterP) (q : AppP) (frA : Frame) {G : H → (β → Prop) → Prop} (hG : ∀ h, Lin (G h)) : ∀ (n : Nat) (fr : Frame) (h : H), Lin fun K => seqLoop S T p q frA (fun h => G h K) n fr h
  | 0, fr, h => runOps_bind (G := fun fr h K => fr.getD p.tc .undef = .bool false ∧ G h K) _ _ _ _ fun fr h => (hG h).and _
  | n + 1, fr, h => by
    unfold seqLoop
    refine runOps_bind (G := fun fr h K => fr.getD p.tc .undef = .bool true ∧ runOps S T p.V2.toList p.V2.toList (fun fr h => opK S T p.o1 (fr.set p.d11 .undef) h fun v h =>
      seqRound S T q frA v (fun h => runOps S T p.V4.toList p.V4.toList (fun fr h => seqLoop S T p q frA (fun h => G h K) n (mask p.mm fr) h) (clr [p.d11, p.d12, p.d13, p.d14] fr) h) h) fr h) _ _ _ _ fun fr h => Lin.and _ ?_
    refine runOps_bind (G := fun fr h K => opK S T p.o1 (fr.set p.d11 .undef) h fun v h =>
      seqRound S T q frA v (fun h => runOps S T p.V4.toList p.V4.toList (fun fr h => seqLoop S T p q frA (fun h => G h K) n (mask p.mm fr) h) (clr [p.d11, p.d12, p.d13, p.d14] fr) h) h) _ _ _ _ fun fr h => ?_
    refine op_bind (G := fun v h K => seqRound S T q frA v (fun h => runOps S T p.V4.toList p.V4.toList (fun fr h => seqLoop S T p q frA (fun h => G h K) n (mask p.mm fr) h) (clr [p.d11, p.d12, p.d13, p.d14] fr) h) h) _ _ _ fun v h => ?_
    refine seqRound_bind (G := fun h K => runOps S T p.V4.toList p.V4.toList (fun fr h => seqLoop S T p q frA (fun h => G h K) n (mask p.mm fr) h) (clr [p.d11, p.d12, p.d13, p.d14] _) h) _ _ _ _ fun h => ?_
    exact runOps_bind (G := fun fr h K => seqLoop S T p q frA (fun h => G h K) n (mask p.mm fr) h) _ _ _ _ fun fr h => seqLoop_bind p q frA hG n _ h
theorem seqAll_lin (p : IterP) (q : AppP) (fV n : Nat) (frV0 : List AVal → Frame) (fr : Frame) (rs : List ResultVar) (h : H) : Lin fun (K : AVal × H → Prop) => seqAll S T p q fV n frV0 fr rs h fun v h => K (v, h) := by
  unfold seqAll
  refine runOps_bind (G := fun fr h (K : AVal × H → Prop) => runOps S T q.A1.toList q.A1.toList (fun fr h => ∃ cap, (fr.getD q.g .undef = .func fV cap ∧ cap.length = 1) ∧
    runOps S T p.V0.toList p.V0.toList (fun frV h => seqLoop S T p q fr (fun h => runOps S T q.A4.toList q.A4.toList (fun fr h => resK T rs fr h fun vs => K (one vs, h)) fr h) n (mask p.mm frV) h) (frV0 cap) h) fr h) _ _ _ _ fun fr h => ?_
  refine runOps_bind (G := fun fr h (K : AVal × H → Prop) => ∃ cap, (fr.getD q.g .undef = .func fV cap ∧ cap.length = 1) ∧
    runOps S T p.V0.toList p.V0.toList (fun frV h => seqLoop S T p q fr (fun h => runOps S T q.A4.toList q.A4.toList (fun fr h => resK T rs fr h fun vs => K (one vs, h)) fr h) n (mask p.mm frV) h) (frV0 cap) h) _ _ _ _ fun fr h => Lin.exists_ fun cap => Lin.and _ ?_
  refine runOps_bind (G := fun frV h (K : AVal × H → Prop) => seqLoop S T p q fr (fun h => runOps S T q.A4.toList q.A4.toList (fun fr h => resK T rs fr h fun vs => K (one vs, h)) fr h) n (mask p.mm frV) h) _ _ _ _ fun frV h => ?_
  refine seqLoop_bind (G := fun h (K : AVal × H → Prop) => runOps S T q.A4.toList q.A4.toList (fun fr h => resK T rs fr h fun vs => K (one vs, h)) fr h) p q fr (fun h => ?_) n _ h
  exact runOps_bind (G := fun fr h (K : AVal × H → Prop) => resK T rs fr h fun vs => K (one vs, h)) _ _ _ _ fun fr h => Lin.map (resK_lin fr h rs) fun vs => (one vs, h)
theorem results_of (hT : TOK P T) {fn : Func} {μ : Mu} {h : H} {w : World} {fr : Frame} {tmps : Array Value} {K : AVal → Prop} (r : Rel μ h w) (hf : VRs μ h fr tmps.toList) (hK : resK T fn.results.toList fr h fun vs => K (one vs)) :
    ∃ x v, (results fn tmps).run P w = .ok x w ∧ K v ∧ VR μ h v x := by
  obtain ⟨vs, ds', k1, k2, k3⟩ := resK_sound (P := P) hT r hf _ _ hK
  have hone : ∃ x, (results fn tmps).run P w = .ok x w ∧ VR μ h (one vs) x := by
    rw [results_eq, Sem.run_bind, Array.mapM_eq_mapM_toList, Sem.run_map, k1]
    simp only [Result.andThen_ok]
    cases vs with
    | nil =>
      simp only [VRs] at k3
      subst k3
      exact ⟨_, rfl, by simp only [one, VR]; exact ⟨#[], rfl, VRs.nil⟩⟩
    | cons v1 vs =>
      have k3' := k3
      simp only [VRs] at k3'
      obtain ⟨d1, ds'', rfl, hv1, hvs⟩ := k3'
      cases vs with
      | nil =>
        simp only [VRs] at hvs
        subst hvs
        exact ⟨d1, rfl, hv1⟩
      | cons v2 vs =>
        have k4 := hvs
        simp only [VRs] at k4
        obtain ⟨d2, ds3, rfl, _, _⟩ := k4
        refine ⟨.tuple (d1 :: d2 :: ds3).toArray, ?_, by simp only [one, VR]; exact ⟨_, rfl, k3⟩⟩
        simp
  obtain ⟨x, hx, hvx⟩ := hone
  exact ⟨x, _, hx, k2, hvx⟩
theorem appSeq_sat (hT : TOK P T) {p : IterP} {q : AppP} {i0 i1 i2 i3 i4 j0 j1 j2 j3 j4 b0 b1 bb c0 : Nat} {V3 : Array Oper} {tt : Nat} {yc : Call} {fV f : FuncId} {fnv fna : Func} {N : Nat}
    (hfn : P.funcs[fV]? = some fnv)
    (hb : fnv.body = some (.seq (.region i0 p.V0 false) (.block b0 (.loop (.seq (.region i1 p.V1 false) (.seq (.cond (.tmp p.tc) .skip (.exit b0)) (.seq (.block b1 (.seq (.region i2 p.V2 false) (.seq (.region i3 V3 false) (.cond (.tmp p.d14) .ret .skip)))) (.region i4 p.V4 false))))))))
    (hres : fnv.results = #[])
    (hV3 : V3.toList.map plainO = [some (.move (.tmp p.y), p.d11), some (p.o1.op, p.d12), some (.call yc, p.d13), some (.unOp .not tt (.tmp p.d13), p.d14)]) (ho1 : V3[1]? = some p.o1) (hyc : yc.callee = .value (.tmp p.d11)) (hya : yc.args = #[.tmp p.d12])
    (hnd : [p.y, p.d11, p.d12, p.d13, p.d14].Nodup) (hyk : ∀ V ∈ [p.V0, p.V1, p.V2, p.V4], ∀ o ∈ V.toList, ∀ d ∈ [p.y, p.d11, p.d12, p.d13, p.d14], o.dst ≠ some d)
    (hy0 : p.y = 0) (hsz : ∀ d ∈ [p.y, p.d11, p.d12, p.d13, p.d14], d < fnv.ntmps)
    (hfa : P.funcs[f]? = some fna)
    (hba : fna.body = some (.seq (.region j0 q.A0 false) (.seq (.seq (.region j1 q.A1 false) (.block c0 (.rangeFunc (.tmp q.g) #[q.prm] (.region j2 q.A2 false) (.block bb (.region j3 q.A3 false))))) (.seq (.region j4 q.A4 false) .ret))))
    (hcall : ∀ (a : Array Value) (w : World), (callFunc f a).run P w = .ok (.enter f a) w) (hcallV : ∀ (a : Array Value) (w : World), (callFunc fV a).run P w = .ok (.enter fV a) w)
    {args : List AVal} {h : H} {K : AVal → H → Prop} (hcp : 2 ≤ fnv.ntmps)
    (hH : seqAll (Sat P) T p q fV N (fun cap => fr0 fnv (.undef :: cap)) (fr0 fna args) fna.results.toList h K) : ∃ v h2, Sat P f args h v h2 ∧ K v h2 := by
  have hl := seqAll_lin (S := Sat P) (T := T) p q fV N (fun cap => fr0 fnv (.undef :: cap)) (fr0 fna args) fna.results.toList h
  obtain ⟨⟨v, h2⟩, hk, hx⟩ := Lin.wit hl (K := fun p => K p.1 p.2) hH
  refine ⟨v, h2, ⟨hcall, fun μ w ds r hd => callsIn_wide.1 (callsIn_of_wp_marks (n := 2) hfa hba trivial ?_)⟩, hk⟩
  clear hk hH hl
  have hS : ∀ f args h v h2, Sat P f args h v h2 → Sat P f args h v h2 := fun _ _ _ _ _ h => h
  have hfr : VRs μ h (fr0 fna args) (ds.toArray ++ Array.replicate (fna.ntmps - ds.toArray.size) undef).toList := by
    unfold fr0
    rw [Array.toList_append]
    refine hd.append ?_
    have : ds.toArray.size = args.length := by simp [hd.len]
    rw [this]
    refine VRs.mk (by simp) fun i v d h1 h2 => ?_
    rw [List.getElem?_replicate] at h1
    simp only [Array.toList_replicate, List.getElem?_replicate] at h2
    split at h1
    · next hi =>
      rw [if_pos hi] at h2
      cases h1
      cases h2
      simp only [VR]
      rfl
    · cases h1
  refine wpIn_seq (region_in hS hT (wide_wide 2 P) r hfr hx fun μ1 h1 w1 fr1 a1 t1 f1 d1 _ k1 => ?_)
  refine wpIn_seq (wpIn_seq (region_in hS hT (wide_wide 2 P) t1.rel f1 k1 fun μ2 h2' w2 fr2 a2 t2 f2 d2 _ k2 => ?_))
  have t := t1.trans t2
  obtain ⟨cap, ⟨hcap, hcl⟩, k3⟩ := k2
  have hg := ev_sound (a := a2) f2 (.tmp q.g)
  rw [show ev fr2 (.tmp q.g) = .func fV cap from hcap] at hg
  simp only [VR] at hg
  obtain ⟨dsc, hg, hvc⟩ := hg
  have ad2 : a2.defers = [] := by rw [d2, d1]
  refine wpIn_block (wpIn_rangeFunc fun fn _ => ?_)
  generalize hW1 : (w2.alloc (.deferred (some []))).alloc (.loop (recOf fn a2.tmps q.prm (.region j2 q.A2 false) (.block bb (.region j3 q.A3 false)) w2.heap.size .ready)) = W1
  have sz1 : (w2.alloc (.deferred (some []))).heap.size = w2.heap.size + 1 := alloc_size _ _
  have rs : RSt .ready μ h w fr2 a2.tmps fn q.prm (.region j2 q.A2 false) (.block bb (.region j3 q.A3 false)) (w2.heap.size + 1) w2.heap.size μ2 h2' W1 := by
    have e1 := Tr.extra t.rel (.deferred (some []))
    have e2 := Tr.extra e1.rel (.loop (recOf fn a2.tmps q.prm (.region j2 q.A2 false) (.block bb (.region j3 q.A3 false)) w2.heap.size .ready))
    rw [hW1] at e2
    refine ⟨t.trans (e1.trans e2), f2, ?_, ?_, ?_, ?_, ?_, t.keep.size, by omega⟩
    · rw [← hW1, ← sz1]; exact heap_alloc_new _ _
    · rw [← hW1, heap_alloc_old _ _ (by omega)]; exact heap_alloc_new _ _
    · intro hc; have := t.rel.mine_lt hc; omega
    · intro hc; have := t.rel.mine_lt hc; omega
    · have := t.keep.size; omega
  refine ⟨w2.heap.size + 1, [{ target := .collected w2.heap.size, args := #[] }], W1, { target := .fn (.func fV) dsc, args := #[.func (.yield (w2.heap.size + 1)) #[] #[]] }, W1, fV, #[.func (.yield (w2.heap.size + 1)) #[] #[]] ++ dsc, W1, ?_, ?_, ?_, ?_, fun hh => (by cases hh), ?_⟩
  · rw [← hW1]; exact run_enterLoop_outer _ _ _ _ _
  · simp only [resolve, hg]
    simp [Deferred.ofValue, Act.eval]
  · intro f' hf'; trivial
  · simp only [invoke]; exact hcallV _ _
  refine values_in hS hT hfn hb hres hV3 ho1 hyc hya hnd hyk rs hvc hy0 hsz ?_ k3 fun μ3 h3 w3 vr r3 k4 => ?_
  · have := hvc.len
    rw [Array.length_toList] at this
    omega
  refine ⟨none, _, run_endLoop r3.rl (by simp [recOf]), ?_⟩
  have r4 : RSt .exhausted μ h w fr2 a2.tmps fn q.prm (.region j2 q.A2 false) (.block bb (.region j3 q.A3 false)) (w2.heap.size + 1) w2.heap.size μ3 h3 _ := r3.turn
  show Code.wpIn Fence.wide 2 P (.seq (.region j4 q.A4 false) .ret) _ _ (w3.putObj (w2.heap.size + 1) (.loop (recOf fn a2.tmps q.prm (.region j2 q.A2 false) (.block bb (.region j3 q.A3 false)) w2.heap.size .exhausted)))
  refine wpIn_seq (region_in hS hT (wide_wide 2 P) r4.tr.rel (a := { a2 with defers := [{ target := .collected w2.heap.size, args := #[] }] ++ a2.defers }) r4.fa k4 fun μ5 h5 w5 fr5 a5 t5 f5 d5 _ k5 => ?_)
  refine wpIn_ret ?_
  have r5 := r4.step t5
  show LeavesInM Fence.wide 2 P fna a5.tmps _ a5.defers .returning w5
  rw [d5, ad2]
  refine ⟨by simp, .inl ⟨w2.heap.size, _, rfl, run_takeDeferred r5.rd, ?_⟩⟩
  have rr : Tr μ h w μ5 h5 (w5.putObj w2.heap.size (.deferred none)) := r5.tr.turn r5.rd trivial trivial r5.gd
  generalize w5.putObj w2.heap.size (.deferred none) = w6 at rr
  obtain ⟨x, v', hxr, hve, hv⟩ := results_of (P := P) hT (fn := fna) (tmps := a5.tmps) (K := fun v' => (v', h5) = (v, h2)) rr.rel f5 k5
  cases hve
  exact ⟨x, hxr, x, μ5, rfl, rr, hv⟩
end
end Go.Proofs.YtcoampecbpiecaaGreat.Cl

/- The clean machine: slices.SortFunc by its contract of the shelf. No claim is stated here. -/
set_option linter.unusedVariables false
set_option linter.unusedSimpArgs false
namespace Go.Proofs.YtcoampecbpiecaaGreat.Cl
open Go Go.Sort Go.Shelf Go.Lib
theorem world_grow (w w' : World) (hos : w'.os = w.os) (htp : w'.tape = w.tape) (hout : w'.output = w.output) (hsz : w.heap.size ≤ w'.heap.size) (hblk : ∀ k, k < w.heap.size → w'.heap[k]? = w.heap[k]?) (hdr : w.drawn ≤ w'.drawn) :
    ∃ q os', w' = Sort.grow (w.drewN q) os' := by
  refine ⟨w'.drawn - w.drawn, w'.heap.extract w.heap.size w'.heap.size, ?_⟩
  have hh : w'.heap = w.heap ++ w'.heap.extract w.heap.size w'.heap.size := by
    apply Array.ext_getElem?
    intro i
    rw [Array.getElem?_append]
    split
    · next h => exact hblk i h
    · next h =>
      rw [Array.getElem?_extract]
      split
      · next h2 => congr 1; omega
      · next h2 =>
        rw [Array.getElem?_eq_none]
        omega
  have hd : w.drawn + (w'.drawn - w.drawn) = w'.drawn := by omega
  cases w
  cases w'
  simp only [Sort.grow, World.drewN] at *
  rw [hd]
  subst hos htp hout
  congr 1
theorem Tr.grown {μ h w} (r : Rel μ h w) (os : Array Go.Obj) : Tr μ h w μ h (Sort.grow w os) := by
  have hs : (Sort.grow w os).heap.size = w.heap.size + os.size := size_grow _ _
  have hold : ∀ k, k < w.heap.size → (Sort.grow w os).heap[k]? = w.heap[k]? := fun k hk => heap_grow_old w os hk
  have hc : ∀ a : Addr, a.block < w.heap.size → (Sort.grow w os).cell? a = w.cell? a := fun a ha => World.cell?_of_block (hold _ ha)
  have hf : ∀ a : Addr, a.block < w.heap.size → (Sort.grow w os).frozen? a = w.frozen? a := fun a ha => World.frozen?_of_block (hold _ ha)
  refine ⟨⟨fun o cs ho => ?_, fun o cs ho i v hv => ?_, fun o es ho => ?_, r.sep⟩, Step.refl _ _, ⟨rfl, rfl, rfl, by rw [hs]; omega, fun k hk _ => hold k hk, Nat.le_refl _⟩, fun _ h => .inl h, fun _ h => .inl h⟩
  · obtain ⟨h1, h2, h3, h4⟩ := r.own o cs ho
    refine ⟨by rw [hs]; omega, h2, fun i hi => ?_, fun i v hv => ?_⟩
    · rw [hc _ h1, hf _ h1]; exact h3 i hi
    · obtain ⟨q, d, h5, h6⟩ := h4 i v hv
      exact ⟨q, d, by rw [hc _ h1]; exact h5, h6⟩
  · obtain ⟨q, d, h5, h6⟩ := r.ro o cs ho i v hv
    exact ⟨q, d, by rw [hc _ (cell_lt h5)]; exact h5, h6⟩
  · obtain ⟨h1, ms, ck, h2, h3, h4⟩ := r.mp o es ho
    exact ⟨by rw [hs]; omega, ms, ck, by rw [hold _ h1]; exact h2, h3, h4⟩
theorem flat_get {α β : Type} (cl : α → List β) {k : Nat} (hk : ∀ x, (cl x).length = k) (k0 : 0 < k) : ∀ (ts : List α) (i : Nat), (ts.map cl).flatten[i]? = (ts[i / k]?).bind fun x => (cl x)[i % k]?
  | [], i => by simp
  | t :: ts, i => by
    rw [List.map_cons, List.flatten_cons, List.getElem?_append, hk]
    by_cases h : i < k
    · rw [if_pos h, Nat.div_eq_of_lt h, Nat.mod_eq_of_lt h]; rfl
    · rw [if_neg h, flat_get cl hk k0 ts (i - k)]
      have e1 : i / k = (i - k) / k + 1 := Nat.div_eq_sub_div k0 (by omega)
      have e2 : i % k = (i - k) % k := Nat.mod_eq_sub_mod (by omega)
      rw [e1, e2]; simp
theorem flat_len {α β : Type} (cl : α → List β) {k : Nat} (hk : ∀ x, (cl x).length = k) : ∀ (ts : List α), (ts.map cl).flatten.length = ts.length * k
  | [] => by simp
  | t :: ts => by rw [List.map_cons, List.flatten_cons, List.length_append, hk, flat_len cl hk ts, List.length_cons, Nat.add_mul]; omega
section
variable {P : Program} {α : Type} [Inhabited α]
theorem cmp_lays {g : Nat} {enc : α → List Value} {cl : α → List AVal} {cf : α → α → Int} (hec : ∀ x (μ : Mu) (h : H), VRs μ h (cl x) (enc x)) (hcl : ∀ x, (cl x).all AVal.isCell = true)
    (hcmp : ∀ x y, ∃ h2, Sat P g [.agg (cl x), .agg (cl y)] [] (.int .i64 (cf x y)) h2) (k blk off size : Nat) (w : World) : CmpLays P g #[] enc k cf blk off size w := by
  intro m os dk hs x y
  generalize sortWorldK enc k w blk off m dk os = W
  obtain ⟨h2, _, hsat⟩ := hcmp x y
  have hrel : Rel (fun _ => ⟨0, 0, 0⟩) [] W := ⟨fun o cs e => by simp at e, fun o cs e => by simp at e, fun o es e => by simp at e, fun o o' t m t' m' e => by simp [inf] at e⟩
  have hv : VRs (fun _ => (⟨0, 0, 0⟩ : Loc)) [] [.agg (cl x), .agg (cl y)] [.agg (enc x).toArray, .agg (enc y).toArray] :=
    VRs.cons (by simp only [VR]; exact ⟨_, rfl, hec _ _ _, hcl _⟩) (VRs.cons (by simp only [VR]; exact ⟨_, rfl, hec _ _ _, hcl _⟩) VRs.nil)
  refine Calls.mono (hsat _ W _ hrel hv) ?_
  rintro e w' ⟨v, μ', rfl, t, hvx⟩
  simp only [VR] at hvx
  subst hvx
  refine ⟨rfl, world_grow W w' t.keep.os t.keep.tape t.keep.output t.keep.size (fun k hk => t.keep.block k hk ?_) t.keep.drawn⟩
  rintro ⟨o, t, m, e, _⟩
  simp [inf] at e
theorem sort_sat {f g : Nat} {k : Nat} {enc : α → List Value} {cl : α → List AVal} {srt : Array α → Array α} (k0 : 0 < k) (hk : ∀ x, (cl x).length = k) (hec : ∀ x (μ : Mu) (h : H), VRs μ h (cl x) (enc x)) (hcl : ∀ x, (cl x).all AVal.isCell = true)
    (hdet : ∀ x (μ : Mu) (h : H) (i : Nat) v d, (cl x)[i]? = some v → VR μ h v d → (enc x)[i]? = some d) (hss : ∀ d, (srt d).size = d.size)
    (hcall : ∀ (a : Array Value) (w : World), (callFunc f a).run P w = .ok (.enter f a) w)
    (hcon : ∀ (blk off cap : Nat) (d : Array α) (w : World), HoldsK enc k w blk off d → blk < w.heap.size → d.size < 4611686018427387904 → Calls P f #[.slice (some ⟨blk, off, none⟩) d.size cap, .func (.func g) #[] #[]] w fun e w' => e = .returned (.tuple #[]) ∧ ∃ n os, w' = sortWorldK enc k w blk off n (srt d) os)
    (hnone : ∀ (p : Option Addr) (cap : Nat) (fv : Value) (w : World), Calls P f #[.slice p 0 cap, fv] w fun e w' => e = .returned (.tuple #[]) ∧ w' = w)
    {h : H} {s : Sl} {ts : List α} (ho : Ow h s k (ts.map cl).flatten) (hl : ts.length < 4611686018427387904) :
    callV (Sat P) f [.sl s, .func g []] h fun v h' => v = .tuple [] ∧ Ow h' s k ((srt ts.toArray).toList.map cl).flatten ∧ But s.o h h' ∧ h'.length = h.length := by
  have hel : ∀ x, (enc x).length = k := fun x => by rw [(hec x (fun _ => ⟨0, 0, 0⟩) []).len, hk]
  have hslen : s.len = ts.length := by
    have := ho.len
    rw [flat_len cl hk] at this
    exact (Nat.eq_of_mul_eq_mul_right k0 this).symm
  by_cases hz : ts.length = 0
  · have hts : ts = [] := List.length_eq_zero_iff.1 hz
    subst hts
    have hs0 : (srt (#[] : Array α)).toList = [] := by
      have := hss #[]
      simp at this
      simpa using this
    refine ⟨.tuple [], h, ⟨hcall, fun μ w ds r hd => ?_⟩, rfl, by rw [hs0]; exact ho, ⟨Nat.le_refl _, fun _ _ _ => rfl⟩, rfl⟩
    simp only [VRs] at hd
    obtain ⟨d1, ds1, rfl, hv1, d2, ds2, rfl, hv2, rfl⟩ := hd
    have : ∃ p cap, d1 = .slice p 0 cap := by
      simp only [VR, SR] at hv1
      split at hv1
      · exact ⟨_, _, hv1.2⟩
      · obtain ⟨_, _, a, cap, e, _⟩ := hv1
        rw [hslen] at e
        exact ⟨_, _, e⟩
    obtain ⟨p, cap, rfl⟩ := this
    refine Calls.mono (hnone p cap d2 w) ?_
    rintro e w' ⟨rfl, rfl⟩
    exact ⟨_, μ, rfl, Tr.refl r, by simp only [VR]; exact ⟨#[], rfl, VRs.nil⟩⟩
  · obtain ⟨a, b⟩ | ⟨o, hso, hsz, hoff, hn, hob⟩ := ho.at_
    · omega
    have hol : o < h.length := (List.getElem?_eq_some_iff.1 hob).1
    have hlen2 : ((srt ts.toArray).toList.map cl).flatten.length = s.n := by
      rw [flat_len cl hk, Array.length_toList, hss, hn, hslen]; simp
    have hlen1 : (ts.map cl).flatten.length = s.n := by rw [flat_len cl hk, hn, hslen]
    refine ⟨.tuple [], h.set o (.own ((srt ts.toArray).toList.map cl).flatten), ⟨hcall, fun μ w ds r hd => ?_⟩, rfl, ⟨by rw [hlen2, hn], .inr ⟨o, hso, hsz, hoff, hn, by simp [hol]⟩⟩, ⟨by simp, fun i hi hne => by rw [List.getElem?_set, if_neg (fun e => hne (by rw [hso, e]))]⟩, by simp⟩
    simp only [VRs] at hd
    obtain ⟨d1, ds1, rfl, hv1, d2, ds2, rfl, hv2, rfl⟩ := hd
    have hv2' := hv2
    simp only [VR] at hv2'
    obtain ⟨cap2, rfl, hc2⟩ := hv2'
    simp only [VRs] at hc2
    obtain rfl : cap2 = #[] := by simpa using hc2
    simp only [VR, SR, hso] at hv1
    obtain ⟨hin, hz0, a, cap, rfl, hcap, hall⟩ := hv1
    have hio : inf h o = some (0, s.n) := by unfold inf; rw [hob]; simp only; rw [hlen1]
    obtain ⟨_, hfin⟩ := hall 0 s.n hio
    obtain ⟨q1, q2, q3, q4⟩ := hfin rfl
    have ha : a = place (μ o) s.off := by
      rcases q3 with q | q | q
      · omega
      · omega
      · exact q
    rw [hoff] at ha
    subst ha
    obtain ⟨g1, g2, g3, g4⟩ := r.own o _ hob
    have hd0 : ts.toArray.size = s.len := by simp [hslen]
    have hH : HoldsK enc k w (μ o).b (μ o).off ts.toArray := by
      intro j hj
      have hj' : j < ts.length * k := by simpa using hj
      have hjk : j / k < ts.length := (Nat.div_lt_iff_lt_mul k0).2 hj'
      have hmk : j % k < k := Nat.mod_lt _ k0
      obtain ⟨v, hv⟩ : ∃ v, (cl (ts[j / k]'hjk))[j % k]? = some v := ⟨_, List.getElem?_eq_getElem (by rw [hk]; exact hmk)⟩
      have hcs : (ts.map cl).flatten[j]? = some v := by rw [flat_get cl hk k0, List.getElem?_eq_getElem hjk]; exact hv
      obtain ⟨_, d, h5, h6⟩ := g4 j v hcs
      have hed := hdet _ _ _ _ _ _ hv h6
      have hfl : (flatK enc k ts.toArray)[j]! = d := by
        rw [get_flatK enc k _ j (by simpa using hj')]
        have : ts.toArray[j / k]! = ts[j / k]'hjk := by simp [hjk]
        rw [this]
        rw [List.getElem!_eq_getElem?_getD, hed]; rfl
      refine ⟨?_, (g3 j (by rw [hlen1] at g2; rw [hn, hslen] at g2; omega)).2⟩
      rw [hfl]
      exact h5
    have hcc := hcon (μ o).b (μ o).off cap ts.toArray w hH g1 (by simpa using hl)
    have hargs : (#[.slice (some (place (μ o) 0)) s.len cap, .func (.func g) #[] #[]] : Array Value) = #[.slice (some ⟨(μ o).b, (μ o).off, none⟩) ts.toArray.size cap, .func (.func g) #[] #[]] := by rw [hd0]; rfl
    show Calls P f #[.slice (some (place (μ o) 0)) s.len cap, .func (.func g) #[] #[]] w _
    rw [hargs]
    refine Calls.mono hcc ?_
    rintro e w' ⟨rfl, n, os, rfl⟩
    refine ⟨_, μ, rfl, ?_, by simp only [VR]; exact ⟨#[], rfl, VRs.nil⟩⟩
    unfold sortWorldK
    have hsz2 : (srt ts.toArray).size = ts.toArray.size := hss _
    have hH' : HoldsK enc k (Sort.ahead w n) (μ o).b (μ o).off ts.toArray := holdsK_ahead enc k w n _ _ _ hH
    have tw : Tr μ h w μ (h.set o (.own ((srt ts.toArray).toList.map cl).flatten)) (putRowK enc k (Sort.ahead w n) (μ o).b (μ o).off (srt ts.toArray)) := by
      refine Tr.wrote r hob (by rw [hlen2, hlen1]) rfl rfl ⟨rfl, Nat.le_add_right _ _⟩ (by rw [putRowK, size_putRow]; rfl) (fun j hj => ?_) ?_ (fun i hi => ?_) fun i v hv => ?_
      · show (Array.modify _ _ _)[j]? = _
        rw [Array.getElem?_modify, if_neg (fun e => hj e.symm)]; rfl
      · rw [List.all_flatten, List.all_map]
        rw [List.all_eq_true]
        intro x _
        exact hcl x
      · have hi' := g3 i hi
        refine ⟨?_, by rw [putRowK, frozen?_putRow]; exact hi'.2⟩
        by_cases hlt : i < (flatK enc k (srt ts.toArray)).size
        · have := cell?_putRow id (Sort.ahead w n) (μ o).b (μ o).off _ (flatK enc k (srt ts.toArray)) hH' (by simp [hsz2]) i hlt
          show (World.cell? (putRow id (Sort.ahead w n) (μ o).b (μ o).off (flatK enc k (srt ts.toArray))) ⟨(μ o).b, (μ o).off + i, none⟩).isSome = true
          rw [this]; rfl
        · have := cell?_putRow_other id (Sort.ahead w n) (μ o).b (μ o).off (flatK enc k (srt ts.toArray)) (place (μ o) i) (.inr (.inr (by show _ ≤ (μ o).off + i; omega)))
          rw [putRowK, this]; exact hi'.1
      · have hvi := hv
        rw [flat_get cl hk k0] at hv
        cases hq : (srt ts.toArray).toList[i / k]? with
        | none => rw [hq] at hv; cases hv
        | some x =>
          rw [hq] at hv
          have hv : (cl x)[i % k]? = some v := hv
          obtain ⟨d, hd1, hd2⟩ := (hec x μ h).get hv
          have hik : i / k < (srt ts.toArray).size := by have := (List.getElem?_eq_some_iff.1 hq).1; simpa using this
          have hlt : i < (srt ts.toArray).size * k := (Nat.div_lt_iff_lt_mul k0).1 hik
          refine ⟨d, ?_, hd2⟩
          have := cell?_putRow id (Sort.ahead w n) (μ o).b (μ o).off _ (flatK enc k (srt ts.toArray)) hH' (by simp [hsz2]) i (by simpa using hlt)
          show World.cell? (putRow id (Sort.ahead w n) (μ o).b (μ o).off (flatK enc k (srt ts.toArray))) ⟨(μ o).b, (μ o).off + i, none⟩ = some d
          rw [this]
          congr 1
          show (flatK enc k (srt ts.toArray))[i]! = d
          rw [get_flatK enc k _ i hlt]
          have hx : (srt ts.toArray)[i / k]! = x := by
            rw [Array.getElem?_toList] at hq
            simp [hq, getElem!_def]
          rw [hx, List.getElem!_eq_getElem?_getD, hd1]; rfl
    exact tw.trans (Tr.grown tw.rel os)
end
end Go.Proofs.YtcoampecbpiecaaGreat.Cl

/- Sorting of tiles and of pairs. No claim is stated here. -/
set_option linter.unusedVariables false
set_option linter.unusedSimpArgs false
namespace Go.Proofs
open Go.Shelf
def sortT77_ren : Go.Shelf.Ren := ⟨fun | 6 => 162 | 15 => 136 | 14 => 170 | 28 => 156 | 29 => 157 | 20 => 172 | 21 => 173 | 22 => 174 | 23 => 175 | 24 => 176 | 25 => 177 | 26 => 178 | 27 => 179 | 46 => 180 | 47 => 165 | 48 => 166 | 49 => 181 | 50 => 182 | 57 => 183 | n => n, fun | 22 => 24 | 24 => 69 | 25 => 77 | 3 => 3 | 39 => 134 | 0 => 0 | 53 => 162 | 55 => 98 | 4 => 4 | 46 => 155 | 45 => 154 | 50 => 159 | 5 => 5 | 9 => 9 | 66 => 169 | 70 => 173 | 76 => 177 | 77 => 178 | n => n, fun | n => n⟩
theorem sortT77 : Go.Proofs.SlLaysF0.n6 Tryz.prog sortT77_ren := {
  mixed := by kernel_rfl
  f6 := ⟨Tryz.f162.name, by decide, Tryz.func162.trans (congrArg some (by kernel_rfl))⟩
  f14 := ⟨Tryz.f170.name, by decide, Tryz.func170.trans (congrArg some (by kernel_rfl))⟩
  f15 := Tryz.func136.trans (congrArg some (by kernel_rfl))
  f20 := ⟨Tryz.f172.name, by decide, Tryz.func172.trans (congrArg some (by kernel_rfl))⟩
  f21 := ⟨Tryz.f173.name, by decide, Tryz.func173.trans (congrArg some (by kernel_rfl))⟩
  f22 := ⟨Tryz.f174.name, by decide, Tryz.func174.trans (congrArg some (by kernel_rfl))⟩
  f23 := ⟨Tryz.f175.name, by decide, Tryz.func175.trans (congrArg some (by kernel_rfl))⟩
  f24 := ⟨Tryz.f176.name, by decide, Tryz.func176.trans (congrArg some (by kernel_rfl))⟩
  f25 := ⟨Tryz.f177.name, by decide, Tryz.func177.trans (congrArg some (by kernel_rfl))⟩
  f26 := ⟨Tryz.f178.name, by decide, Tryz.func178.trans (congrArg some (by kernel_rfl))⟩
  f27 := ⟨Tryz.f179.name, by decide, Tryz.func179.trans (congrArg some (by kernel_rfl))⟩
  f28 := Tryz.func156.trans (congrArg some (by kernel_rfl))
  f29 := Tryz.func157.trans (congrArg some (by kernel_rfl))
  f46 := ⟨Tryz.f180.name, by decide, Tryz.func180.trans (congrArg some (by kernel_rfl))⟩
  f47 := Tryz.func165.trans (congrArg some (by kernel_rfl))
  f48 := Tryz.func166.trans (congrArg some (by kernel_rfl))
  f49 := ⟨Tryz.f181.name, by decide, Tryz.func181.trans (congrArg some (by kernel_rfl))⟩
  f50 := ⟨Tryz.f182.name, by decide, Tryz.func182.trans (congrArg some (by kernel_rfl))⟩
  f57 := ⟨Tryz.f183.name, by decide, Tryz.func183.trans (congrArg some (by kernel_rfl))⟩
  t0 := Tryz.underlying0
  a0 := Tryz.isAgg0
  z0 := Tryz.sizeOf0
  v0 := Tryz.zeroValue0
  t3 := Tryz.underlying3
  a3 := Tryz.isAgg3
  z3 := Tryz.sizeOf3
  v3 := Tryz.zeroValue3
  t4 := Tryz.underlying4
  a4 := Tryz.isAgg4
  z4 := Tryz.sizeOf4
  v4 := Tryz.zeroValue4
  t5 := Tryz.underlying5
  a5 := Tryz.isAgg5
  z5 := Tryz.sizeOf5
  v5 := Tryz.zeroValue5
  t9 := Tryz.underlying9
  a9 := Tryz.isAgg9
  z9 := Tryz.sizeOf9
  v9 := Tryz.zeroValue9
  t22 := Tryz.underlying24
  a22 := Tryz.isAgg24
  z22 := Tryz.sizeOf24
  v22 := Tryz.zeroValue24
  t25 := Tryz.underlying77
  a25 := Tryz.isAgg77
  z25 := Tryz.sizeOf77
  v25 := Tryz.zeroValue77
  t39 := Tryz.underlying134
  a39 := Tryz.isAgg134
  z39 := Tryz.sizeOf134
  v39 := Tryz.zeroValue134
  t45 := Tryz.underlying154
  a45 := Tryz.isAgg154
  z45 := Tryz.sizeOf154
  v45 := Tryz.zeroValue154
  t46 := Tryz.underlying155
  a46 := Tryz.isAgg155
  z46 := Tryz.sizeOf155
  v46 := Tryz.zeroValue155
  t50 := Tryz.underlying159
  a50 := Tryz.isAgg159
  z50 := Tryz.sizeOf159
  v50 := Tryz.zeroValue159
  t53 := Tryz.underlying162
  a53 := Tryz.isAgg162
  z53 := Tryz.sizeOf162
  v53 := Tryz.zeroValue162
  t55 := Tryz.underlying98
  a55 := Tryz.isAgg98
  z55 := Tryz.sizeOf98
  v55 := Tryz.zeroValue98
  t66 := Tryz.underlying169
  a66 := Tryz.isAgg169
  z66 := Tryz.sizeOf169
  v66 := Tryz.zeroValue169
  t70 := Tryz.underlying173
  a70 := Tryz.isAgg173
  z70 := Tryz.sizeOf173
  v70 := Tryz.zeroValue173
  t76 := Tryz.underlying177
  a76 := Tryz.isAgg177
  z76 := Tryz.sizeOf177
  v76 := Tryz.zeroValue177
  t77 := Tryz.underlying178
  a77 := Tryz.isAgg178
  z77 := Tryz.sizeOf178
  v77 := Tryz.zeroValue178 }
def sortP86_ren : Go.Shelf.Ren := ⟨fun | 6 => 102 | 15 => 136 | 14 => 135 | 28 => 156 | 29 => 157 | 20 => 148 | 21 => 149 | 22 => 150 | 23 => 151 | 24 => 152 | 25 => 153 | 26 => 154 | 27 => 155 | 46 => 164 | 47 => 165 | 48 => 166 | 49 => 167 | 50 => 168 | 57 => 171 | n => n, fun | 22 => 73 | 24 => 75 | 25 => 118 | 3 => 3 | 39 => 134 | 0 => 0 | 53 => 162 | 55 => 98 | 4 => 4 | 46 => 155 | 45 => 154 | 50 => 159 | 5 => 5 | 9 => 9 | 66 => 169 | 70 => 173 | 76 => 177 | 77 => 178 | n => n, fun | n => n⟩
theorem sortP86 : Go.Proofs.SlLaysF0.n6 Tryz.prog sortP86_ren := {
  mixed := by kernel_rfl
  f6 := ⟨Tryz.f102.name, by decide, Tryz.func102.trans (congrArg some (by kernel_rfl))⟩
  f14 := ⟨Tryz.f135.name, by decide, Tryz.func135.trans (congrArg some (by kernel_rfl))⟩
  f15 := Tryz.func136.trans (congrArg some (by kernel_rfl))
  f20 := ⟨Tryz.f148.name, by decide, Tryz.func148.trans (congrArg some (by kernel_rfl))⟩
  f21 := ⟨Tryz.f149.name, by decide, Tryz.func149.trans (congrArg some (by kernel_rfl))⟩
  f22 := ⟨Tryz.f150.name, by decide, Tryz.func150.trans (congrArg some (by kernel_rfl))⟩
  f23 := ⟨Tryz.f151.name, by decide, Tryz.func151.trans (congrArg some (by kernel_rfl))⟩
  f24 := ⟨Tryz.f152.name, by decide, Tryz.func152.trans (congrArg some (by kernel_rfl))⟩
  f25 := ⟨Tryz.f153.name, by decide, Tryz.func153.trans (congrArg some (by kernel_rfl))⟩
  f26 := ⟨Tryz.f154.name, by decide, Tryz.func154.trans (congrArg some (by kernel_rfl))⟩
  f27 := ⟨Tryz.f155.name, by decide, Tryz.func155.trans (congrArg some (by kernel_rfl))⟩
  f28 := Tryz.func156.trans (congrArg some (by kernel_rfl))
  f29 := Tryz.func157.trans (congrArg some (by kernel_rfl))
  f46 := ⟨Tryz.f164.name, by decide, Tryz.func164.trans (congrArg some (by kernel_rfl))⟩
  f47 := Tryz.func165.trans (congrArg some (by kernel_rfl))
  f48 := Tryz.func166.trans (congrArg some (by kernel_rfl))
  f49 := ⟨Tryz.f167.name, by decide, Tryz.func167.trans (congrArg some (by kernel_rfl))⟩
  f50 := ⟨Tryz.f168.name, by decide, Tryz.func168.trans (congrArg some (by kernel_rfl))⟩
  f57 := ⟨Tryz.f171.name, by decide, Tryz.func171.trans (congrArg some (by kernel_rfl))⟩
  t0 := Tryz.underlying0
  a0 := Tryz.isAgg0
  z0 := Tryz.sizeOf0
  v0 := Tryz.zeroValue0
  t3 := Tryz.underlying3
  a3 := Tryz.isAgg3
  z3 := Tryz.sizeOf3
  v3 := Tryz.zeroValue3
  t4 := Tryz.underlying4
  a4 := Tryz.isAgg4
  z4 := Tryz.sizeOf4
  v4 := Tryz.zeroValue4
  t5 := Tryz.underlying5
  a5 := Tryz.isAgg5
  z5 := Tryz.sizeOf5
  v5 := Tryz.zeroValue5
  t9 := Tryz.underlying9
  a9 := Tryz.isAgg9
  z9 := Tryz.sizeOf9
  v9 := Tryz.zeroValue9
  t22 := Tryz.underlying73
  a22 := Tryz.isAgg73
  z22 := Tryz.sizeOf73
  v22 := Tryz.zeroValue73
  t25 := Tryz.underlying118
  a25 := Tryz.isAgg118
  z25 := Tryz.sizeOf118
  v25 := Tryz.zeroValue118
  t39 := Tryz.underlying134
  a39 := Tryz.isAgg134
  z39 := Tryz.sizeOf134
  v39 := Tryz.zeroValue134
  t45 := Tryz.underlying154
  a45 := Tryz.isAgg154
  z45 := Tryz.sizeOf154
  v45 := Tryz.zeroValue154
  t46 := Tryz.underlying155
  a46 := Tryz.isAgg155
  z46 := Tryz.sizeOf155
  v46 := Tryz.zeroValue155
  t50 := Tryz.underlying159
  a50 := Tryz.isAgg159
  z50 := Tryz.sizeOf159
  v50 := Tryz.zeroValue159
  t53 := Tryz.underlying162
  a53 := Tryz.isAgg162
  z53 := Tryz.sizeOf162
  v53 := Tryz.zeroValue162
  t55 := Tryz.underlying98
  a55 := Tryz.isAgg98
  z55 := Tryz.sizeOf98
  v55 := Tryz.zeroValue98
  t66 := Tryz.underlying169
  a66 := Tryz.isAgg169
  z66 := Tryz.sizeOf169
  v66 := Tryz.zeroValue169
  t70 := Tryz.underlying173
  a70 := Tryz.isAgg173
  z70 := Tryz.sizeOf173
  v70 := Tryz.zeroValue173
  t76 := Tryz.underlying177
  a76 := Tryz.isAgg177
  z76 := Tryz.sizeOf177
  v76 := Tryz.zeroValue177
  t77 := Tryz.underlying178
  a77 := Tryz.isAgg178
  z77 := Tryz.sizeOf178
  v77 := Tryz.zeroValue178 }
end Go.Proofs
namespace Go.Proofs.YtcoampecbpiecaaGreat.Cl
open Go Go.Proofs Go.Shelf Go.Lib
theorem swo_of {α : Type} {lt : α → α → Prop} (o : STO lt) {cf : α → α → Int} (h : ∀ a b, lt a b ↔ cf a b < 0) : Go.Sort.SWO (ltOf cf) := by
  have e : ∀ a b, ltOf cf a b = true ↔ lt a b := fun a b => by unfold ltOf; rw [decide_eq_true_eq, h]
  have e' : ∀ a b, ltOf cf a b = false ↔ ¬ lt a b := fun a b => by rw [← e, Bool.not_eq_true]
  refine ⟨fun x => (e' x x).2 (o.irr x), fun x y z h1 h2 => (e x z).2 (o.trans _ _ _ ((e _ _).1 h1) ((e _ _).1 h2)), fun x y z h1 h2 => (e' x z).2 fun h3 => ?_⟩
  have h1 := (e' _ _).1 h1
  have h2 := (e' _ _).1 h2
  by_cases hxy : x = y
  · subst hxy; exact h2 h3
  · have hyx := (o.tri x y hxy).resolve_left h1
    exact h2 (o.trans _ _ _ hyx h3)
theorem total_of {α : Type} {lt : α → α → Prop} (o : STO lt) {cf : α → α → Int} (h : ∀ a b, lt a b ↔ cf a b < 0) : ∀ x y, ltOf cf x y = false → ltOf cf y x = false → x = y := fun x y h1 h2 => Classical.byContradiction fun hne => by
  unfold ltOf at h1 h2
  rw [decide_eq_false_iff_not, ← h] at h1 h2
  rcases o.tri x y hne with h3 | h3
  · exact h1 h3
  · exact h2 h3
def srtOf {α : Type} (cf : α → α → Int) (d : Array α) : Array α := (d.toList.mergeSort fun x y => !(ltOf cf) y x).toArray
theorem srtOf_size {α : Type} (cf : α → α → Int) (d : Array α) : (srtOf cf d).size = d.size := by simp [srtOf]
theorem srtOf_perm {α : Type} (cf : α → α → Int) (l : List α) : (srtOf cf l.toArray).toList.Perm l := by simpa [srtOf] using List.mergeSort_perm l _
theorem srtOf_sorted {α : Type} {lt : α → α → Prop} (o : STO lt) {cf : α → α → Int} (h : ∀ a b, lt a b ↔ cf a b < 0) (l : List α) : (srtOf cf l.toArray).toList.Pairwise fun a b => ¬ lt b a := by
  have sw := swo_of o h
  have := List.pairwise_mergeSort (le := fun x y => !(ltOf cf) y x) (fun a b c h1 h2 => by
    simp only [Bool.not_eq_true'] at *
    exact sw.ntrans _ _ _ h2 h1) (fun a b => by
    rw [Bool.or_eq_true, Bool.not_eq_true', Bool.not_eq_true']
    by_cases h1 : ltOf cf b a = true
    · right
      rw [← Bool.not_eq_true]
      intro h2
      have := sw.trans _ _ _ h1 h2
      rw [sw.irrefl] at this; cases this
    · left; simpa using h1) l
  have e : (srtOf cf l.toArray).toList = l.mergeSort fun x y => !(ltOf cf) y x := by simp [srtOf]
  rw [e]
  refine this.imp fun {a b} h1 h2 => ?_
  simp only [Bool.not_eq_true'] at h1
  unfold ltOf at h1
  rw [decide_eq_false_iff_not, ← h] at h1
  exact h1 h2
def encT (t : Tile) : List Value := [.int .i64 t.1, .int .i64 t.2.1, .int .i64 t.2.2.1, .int .i64 t.2.2.2]
theorem agg55 : ∀ w, (isAgg 69).run Tryz.prog w = .ok true w := fun w => by kernel_rfl
theorem siz55 : ∀ w, (Go.sizeOf 69).run Tryz.prog w = .ok 4 w := fun w => by kernel_rfl
theorem ints_det {l : List Int} {μ : Mu} {h : H} {i : Nat} {v : AVal} {d : Value} (e : (l.map (AVal.int .i64))[i]? = some v) (hv : VR μ h v d) : (l.map (Value.int .i64))[i]? = some d := by
  rw [List.getElem?_map] at e ⊢
  cases hq : l[i]? with
  | none => rw [hq] at e; cases e
  | some x =>
    rw [hq] at e
    simp only [Option.map_some, Option.some.injEq] at e ⊢
    subst e
    simp only [VR] at hv
    exact hv.symm
theorem ints_VRl : ∀ (l : List Int) (μ : Mu) (h : H), VRs μ h (l.map (AVal.int .i64)) (l.map (Value.int .i64))
  | [], μ, h => VRs.nil
  | a :: l, μ, h => VRs.cons (by simp only [VR]) (ints_VRl l μ h)
theorem tc_tl2 (t : Tile) : tc t = (tl t).map (AVal.int .i64) := rfl
theorem encT_tl (t : Tile) : encT t = (tl t).map (Value.int .i64) := rfl
theorem ltOf_T (a b : Tile) : ltT a b ↔ cmpT a b < 0 := Iff.rfl
theorem sortT_c {h : H} {s : Sl} {l : List Tile} (o : Ow h s 4 (tcs l)) (hl : l.length ≤ 1000000000) :
    callV SP i_slices_SortFunc_s_impl_Tile_impl_Tile_ [.sl s, .func i_impl_compare []] h fun v h' => v = .tuple [] ∧ ∃ l', Ow h' s 4 (tcs l') ∧ l'.Perm l ∧ l'.Pairwise (fun a b => ¬ ltT b a) ∧ But s.o h h' ∧ h'.length = h.length := by
  have hcmp : ∀ x y, ∃ h2, Sat Tryz.prog i_impl_compare [.agg (tc x), .agg (tc y)] [] (.int .i64 (cmpT x y)) h2 := fun x y => by
    obtain ⟨n, h2, hs, rfl, _⟩ := compare_c x y []
    exact ⟨h2, hs⟩
  have hc : ∀ (a : Array Value) (w : World), (callFunc i_slices_SortFunc_s_impl_Tile_impl_Tile_ a).run Tryz.prog w = .ok (.enter i_slices_SortFunc_s_impl_Tile_impl_Tile_ a) w := calls_of (fn := Tryz.f162) (c := bodyOf Tryz.f162) (by kernel_rfl) (by kernel_rfl) (by kernel_rfl)
  have hcc : ∀ (a : Array Value) (w : World), (callFunc i_impl_compare a).run Tryz.prog w = .ok (.enter i_impl_compare a) w := calls_of (fn := Tryz.f53) (c := bodyOf Tryz.f53) (by kernel_rfl) (by kernel_rfl) (by kernel_rfl)
  refine (sort_sat (P := Tryz.prog) (f := i_slices_SortFunc_s_impl_Tile_impl_Tile_) (g := i_impl_compare) (k := 4) (enc := encT) (cl := tc) (srt := srtOf cmpT) (by omega) (fun _ => rfl) (fun x μ h => by rw [tc_tl2, encT_tl]; exact ints_VRl _ _ _) (fun _ => rfl)
    (fun x μ h i v d e hv => by rw [tc_tl2] at e; rw [encT_tl]; exact ints_det e hv) (srtOf_size _) hc ?_ ?_ o (by omega)).to ?_
  · intro blk off cap d w hH hb hsz
    exact AnyQ.slices_SortFunc_total sortT77 4 agg55 siz55 encT (fun _ => rfl) (fun x v hv => by rw [encT_tl] at hv; obtain ⟨n, _, rfl⟩ := List.mem_map.1 hv; rfl) cmpT (swo_of ltT_sto ltOf_T) i_impl_compare #[] blk off cap d w hcc
      (cmp_lays (fun x μ h => by rw [tc_tl2, encT_tl]; exact ints_VRl _ _ _) (fun _ => rfl) hcmp 4 blk off d.size w) hH hb hsz (total_of ltT_sto ltOf_T)
  · intro p cap fv w
    exact AnyF.slices_SortFunc_none sortT77 p cap fv w
  · rintro v h' ⟨rfl, o', b, ln⟩
    exact ⟨rfl, _, o', srtOf_perm _ _, srtOf_sorted ltT_sto ltOf_T l, b, ln⟩
/-! pairs -/
def cmpP (a b : Int × Int) : Int := cmpL [a.1, a.2] [b.1, b.2]
theorem ltOf_P (a b : Int × Int) : ltP a b ↔ cmpP a b < 0 := Iff.rfl
theorem cmpP_c (a b : Int × Int) (h : H) : callI SP .i64 i_impl_pairs_1 [.agg (pc a), .agg (pc b)] h fun n h' => n = cmpP a b ∧ Ext h h' := by
  apply impl_pairs_1_call
  unfold impl_pairs_1_main
  refine newK_obj fun h1 o1 x1 l1 => ?_
  refine newK_obj fun h2 o2 x2 l2 => ?_
  refine ⟨⟨by omega, by omega, by omega⟩, rfl, rfl, ⟨by omega, by omega, by omega⟩, rfl, rfl, ?_⟩
  have r1 : Rd h2 ⟨some h.length, 2, 0 + (0 : Int).toNat * 1, (((2 : Nat) : Int) - 0).toNat, 1⟩ 1 (ic [a.1, a.2]) := ⟨rfl, .inr ⟨rfl, rfl, by
    have : h2[h.length]? = some (.own (pc a)) := o1.ext x2
    simp [range, cells, this, pc, ic]⟩⟩
  have r2 : Rd h2 ⟨some h1.length, 2, 0 + (0 : Int).toNat * 1, (((2 : Nat) : Int) - 0).toNat, 1⟩ 1 (ic [b.1, b.2]) := ⟨rfl, .inr ⟨rfl, rfl, by
    have : h2[h1.length]? = some (.own (pc b)) := o2
    simp [range, cells, this, pc, ic]⟩⟩
  refine (sCompare_c r1 r2 (by simp)).to ?_
  rintro n h3 ⟨rfl, rfl⟩
  exact ⟨_, rfl, rfl, x1.trans x2⟩
def encP (e : Int × Int) : List Value := [.int .i64 e.1, .int .i64 e.2]
theorem agg88 : ∀ w, (isAgg 75).run Tryz.prog w = .ok true w := fun w => by kernel_rfl
theorem siz88 : ∀ w, (Go.sizeOf 75).run Tryz.prog w = .ok 2 w := fun w => by kernel_rfl
theorem pc_tl (t : Int × Int) : pc t = [t.1, t.2].map (AVal.int .i64) := rfl
theorem encP_tl (t : Int × Int) : encP t = [t.1, t.2].map (Value.int .i64) := rfl
theorem sortP_c {h : H} {s : Sl} {l : List (Int × Int)} (o : Ow h s 2 (pcs l)) (hl : l.length ≤ 1000000000) :
    callV SP i_slices_SortFunc_s__2_int64__2_int64_ [.sl s, .func i_impl_pairs_1 []] h fun v h' => v = .tuple [] ∧ ∃ l', Ow h' s 2 (pcs l') ∧ l'.Perm l ∧ l'.Pairwise (fun a b => ¬ ltP b a) ∧ But s.o h h' ∧ h'.length = h.length := by
  have hcmp : ∀ x y, ∃ h2, Sat Tryz.prog i_impl_pairs_1 [.agg (pc x), .agg (pc y)] [] (.int .i64 (cmpP x y)) h2 := fun x y => by
    obtain ⟨n, h2, hs, rfl, _⟩ := cmpP_c x y []
    exact ⟨h2, hs⟩
  have hc : ∀ (a : Array Value) (w : World), (callFunc i_slices_SortFunc_s__2_int64__2_int64_ a).run Tryz.prog w = .ok (.enter i_slices_SortFunc_s__2_int64__2_int64_ a) w := calls_of (fn := Tryz.f102) (c := bodyOf Tryz.f102) (by kernel_rfl) (by kernel_rfl) (by kernel_rfl)
  have hcc : ∀ (a : Array Value) (w : World), (callFunc i_impl_pairs_1 a).run Tryz.prog w = .ok (.enter i_impl_pairs_1 a) w := calls_of (fn := Tryz.f103) (c := bodyOf Tryz.f103) (by kernel_rfl) (by kernel_rfl) (by kernel_rfl)
  refine (sort_sat (P := Tryz.prog) (f := i_slices_SortFunc_s__2_int64__2_int64_) (g := i_impl_pairs_1) (k := 2) (enc := encP) (cl := pc) (srt := srtOf cmpP) (by omega) (fun _ => rfl) (fun x μ h => by rw [pc_tl, encP_tl]; exact ints_VRl _ _ _) (fun _ => rfl)
    (fun x μ h i v d e hv => by rw [pc_tl] at e; rw [encP_tl]; exact ints_det e hv) (srtOf_size _) hc ?_ ?_ o (by omega)).to ?_
  · intro blk off cap d w hH hb hsz
    exact AnyQ.slices_SortFunc_total sortP86 2 agg88 siz88 encP (fun _ => rfl) (fun x v hv => by rw [encP_tl] at hv; obtain ⟨n, _, rfl⟩ := List.mem_map.1 hv; rfl) cmpP (swo_of ltP_sto ltOf_P) i_impl_pairs_1 #[] blk off cap d w hcc
      (cmp_lays (fun x μ h => by rw [pc_tl, encP_tl]; exact ints_VRl _ _ _) (fun _ => rfl) hcmp 2 blk off d.size w) hH hb hsz (total_of ltP_sto ltOf_P)
  · intro p cap fv w
    exact AnyF.slices_SortFunc_none sortP86 p cap fv w
  · rintro v h' ⟨rfl, o', b, ln⟩
    exact ⟨rfl, _, o', srtOf_perm _ _, srtOf_sorted ltP_sto ltOf_P l, b, ln⟩
end Go.Proofs.YtcoampecbpiecaaGreat.Cl

/- slices.AppendSeq over slices.Values, at tiles. No claim is stated here. -/
set_option linter.unusedVariables false
set_option linter.unusedSimpArgs false
namespace Go.Proofs.YtcoampecbpiecaaGreat.Cl
open Go
noncomputable def opsAt : Code → Array Oper | .region _ o _ => o | _ => #[]
noncomputable def rfA : Code → Code | .rangeFunc _ _ a _ => a | c => c
noncomputable def rfB : Code → Code | .rangeFunc _ _ _ b => b | c => c
noncomputable def opN (l : Array Oper) (i : Nat) : Oper := l.toList.getD i ⟨none, .move (.tmp 0), 0, "", #[], none⟩
noncomputable def vpT : IterP := ⟨0, 11, 12, 13, 14, 8, opsAt (sub [0] (bodyOf Tryz.f163)), opsAt (sub [1, 0, 0, 0] (bodyOf Tryz.f163)), opsAt (sub [1, 0, 0, 1, 1, 0, 0, 0] (bodyOf Tryz.f163)), opsAt (sub [1, 0, 0, 1, 1, 1] (bodyOf Tryz.f163)),
  opN (opsAt (sub [1, 0, 0, 1, 1, 0, 0, 1, 0] (bodyOf Tryz.f163))) 1, [5, 6, 7]⟩
noncomputable def apT : AppP := ⟨7, opsAt (sub [0] (bodyOf Tryz.f169)), opsAt (sub [1, 0, 0] (bodyOf Tryz.f169)), opsAt (rfA (sub [1, 0, 1, 0] (bodyOf Tryz.f169))), opsAt (sub [0] (rfB (sub [1, 0, 1, 0] (bodyOf Tryz.f169)))), opsAt (sub [1, 1, 0] (bodyOf Tryz.f169)), 6⟩
def frV (s : Sl) (len i : Int) : Frame := [.undef, .undef, .undef, .undef, .undef, .sl s, i64 len, i64 i, .undef, .undef, .undef, .undef, .undef, .undef, .undef, .undef]
def frQ (s0 : Sl) (g : AVal) (p : Pt) : Frame := [.sl s0, g, .ptr p, .gone, .sl Sl.nil, .gone, g, .gone, .gone, .gone, .gone, .gone, .gone]
theorem A0_k (s0 : Sl) (g : AVal) (k : Frame → H → Prop) (h : H) : runOps SP tab apT.A0.toList apT.A0.toList k (fr0 Tryz.f169 [.sl s0, g]) h =
    newO [.sl s0] h fun p h1 => k [.sl s0, g, .ptr p, .gone, .sl Sl.nil, .gone, .gone, .gone, .gone, .gone, .gone, .gone, .gone] h1 := by kernel_rfl
theorem A1_k (s0 : Sl) (g : AVal) (p : Pt) (k : Frame → H → Prop) (h : H) : runOps SP tab apT.A1.toList apT.A1.toList k [.sl s0, g, .ptr p, .gone, .sl Sl.nil, .gone, .gone, .gone, .gone, .gone, .gone, .gone, .gone] h = k (frQ s0 g p) h := by kernel_rfl
theorem V0_k (ps : Pt) (k : Frame → H → Prop) (h : H) : runOps SP tab vpT.V0.toList vpT.V0.toList (fun fr h => k (mask vpT.mm fr) h) (fr0 Tryz.f163 [.undef, .ptr ps]) h = ldS ps h fun s => k (frV s s.len 0) h := by kernel_rfl
theorem A4_k (s0 : Sl) (g : AVal) (p : Pt) (K : AVal → H → Prop) (h : H) : runOps SP tab apT.A4.toList apT.A4.toList (fun fr h => resK tab Tryz.f169.results.toList fr h fun vs => K (one vs) h) (frQ s0 g p) h = ldS p h fun s => K (.sl s) h := by kernel_rfl
theorem L0_k (s : Sl) (s0 : Sl) (g : AVal) (p : Pt) (len i : Int) (K : H → Prop) (h : H) : seqLoop SP tab vpT apT (frQ s0 g p) K 0 (frV s len i) h = (AVal.bool (decide (i < len)) = .bool false ∧ K h) := by kernel_rfl
theorem L1_k (s : Sl) (s0 : Sl) (g : AVal) (p : Pt) (len i : Int) (n : Nat) (K : H → Prop) (h : H) : seqLoop SP tab vpT apT (frQ s0 g p) K (n + 1) (frV s len i) h =
    (AVal.bool (decide (i < len)) = .bool true ∧ ixS s 4 i fun a => ldA a 4 h fun cs => newO [i64 0, i64 0, i64 0, i64 0] h fun b h1 => stN b 4 cs h1 fun h2 => ldA b 4 h2 fun c2 =>
      newO [i64 0, i64 0, i64 0, i64 0] h2 fun d h3 => stN d 4 c2 h3 fun h4 => ldS p h4 fun x => ldA d 4 h4 fun c3 => lenA c3 4 (newS 1 4 (spl [i64 0, i64 0, i64 0, i64 0] 0 4 c3) h4 fun t h5 => app x t 4 h5 fun x' h6 => st1 p (.sl x') h6 fun h7 =>
        seqLoop SP tab vpT apT (frQ s0 g p) K n (frV s len (w64 (i + 1))) h7)) := by kernel_rfl
section
variable {h0 : H} {s : Sl} {ts : List Tile} {ps : Nat}
theorem seqLoop_c {ob : Nat} {s0 : Sl} {g : AVal} (r : Rd h0 s 4 (tcs ts)) (hl : ts.length ≤ 1000000) (hob : h0.length ≤ ob) {K : H → Prop} {ha : H} (ea : Ext h0 ha) :
    ∀ (n i : Nat) (x : Sl) (h : H), i + n = ts.length → Ext h0 h → ob < h.length → h0.length < h.length → Var h ob (.sl x) → Ow h x 4 (tcs (ts.take i)) → Fr h0.length x → x.o ≠ some ob → (0 < i → x.o.isSome = true) →
      (∀ x h, Ext h0 h → Var h ob (.sl x) → Ow h x 4 (tcs ts) → Fr h0.length x → (0 < ts.length → x.o.isSome = true) → K h) → seqLoop SP tab vpT apT (frQ s0 g (pt ob)) K n (frV s s.len i) h
  | 0, i, x, h, hi, e, hol, hln, vx, ox, fx, hx, hs, hK => by
    have hsl := r.tlen
    rw [L0_k]
    refine ⟨by rw [decide_eq_false (by omega)], hK x h e vx ?_ fx fun hp => hs (by omega)⟩
    rw [show i = ts.length by omega, List.take_length] at ox
    exact ox
  | n + 1, i, x, h, hi, e, hol, hln, vx, ox, fx, hx, hs, hK => by
    have hsl := r.tlen
    have hi' : i < ts.length := by omega
    rw [L1_k]
    refine ⟨by rw [decide_eq_true (by omega)], ?_⟩
    refine (r.ext e).tileG (by omega) (by omega) ?_
    refine newO_obj fun h1 o1 x1 l1 => ?_
    refine o1.stA fun h2 o2 b2 l2 => ?_
    have y2 : Ext h h2 := x1.but_ b2 (some_le (Nat.le_refl _))
    refine o2.ldA rfl ?_
    refine newO_obj fun h3 o3 x3 l3 => ?_
    refine o3.stA fun h4 o4 b4 l4 => ?_
    have y4 : Ext h2 h4 := x3.but_ b4 (some_le (Nat.le_refl _))
    have y := y2.trans y4
    refine (vx.ext y).ldS ?_
    refine o4.ldA rfl ⟨rfl, ?_⟩
    refine newS_ow (by rfl) fun t h5 ot lt to e5 => ?_
    have x5 : Ext h4 h5 := by rw [e5]; exact Ext.app _ _
    have y5 := y.trans x5
    have hxl := (ox.rd).tlen
    have htl : (ts.take i).length = i := by rw [List.length_take]; omega
    refine app_ow (by omega) (ox.ext y5) ot.rd (by rw [lt, hxl, htl]; unfold lim; omega) fun x' h6 ox' lx' b6 k1 k2 => ?_
    have hyl := y5.len
    have v6 : Var h6 ob (.sl x) := (vx.ext y5).but b6 hx
    have hx'o : ∀ o, x'.o = some o → x.o = some o ∨ h5.length ≤ o := fun o eo => by
      cases hq : x.o with
      | none => exact .inr (k2 hq o eo)
      | some p => rw [k1 p hq] at eo; exact .inl eo
    have hx' : x'.o ≠ some ob := fun eo => by
      rcases hx'o ob eo with h' | h'
      · exact hx h'
      · omega
    refine v6.st _ fun h7 v7 b7 l7 => ?_
    have e6 : Ext h0 h6 := (e.trans y5).but_ b6 fun o eo => fx o eo
    have e7 : Ext h0 h7 := e6.but_ b7 (some_le hob)
    have l6 := b6.1
    rw [w64_of (n := (i : Int) + 1) (by omega) (by omega), show (i : Int) + 1 = ((i + 1 : Nat) : Int) by push_cast; rfl]
    have hts : tcs (ts.take (i + 1)) = tcs (ts.take i) ++ tc (tat ts (i : Int)) := by
      rw [List.take_succ_eq_append_getElem hi', tcs_app]
      congr 1
      have : tat ts (i : Int) = ts[i] := tat_at (by rw [Int.toNat_natCast, List.getElem?_eq_getElem hi'])
      rw [this, tcs_cons]
      simp [tcs]
    refine seqLoop_c r hl hob ea n (i + 1) x' h7 (by omega) e7 (by omega) (by omega) v7 ?_ ?_ hx' (fun _ => ?_) hK
    · rw [hts]
      exact ox'.but b7 (.inl fun eo => hx' eo.symm)
    · intro o eo
      rcases hx'o o eo with h' | h'
      · exact fx o h'
      · omega
    · have hlen : 0 < x'.len := by rw [lx', lt]; omega
      obtain ⟨ha, hb⟩ | ⟨o, ha, _⟩ := ox'.at_
      · omega
      · rw [ha]; rfl
theorem appendSeq_c (hv : Var h0 ps (.sl s)) (r : Rd h0 s 4 (tcs ts)) (hl : ts.length ≤ 1000000) :
    callS SP i_slices_AppendSeq_s_impl_Tile_impl_Tile_ [.sl Sl.nil, .func i_slices_Values_s_impl_Tile_impl_Tile__1 [.ptr (pt ps)]] h0 fun u h' => Ow h' u 4 (tcs ts) ∧ Fr h0.length u ∧ Ext h0 h' ∧ (0 < ts.length → u.o.isSome = true) := by
  have key := appSeq_sat (P := Tryz.prog) (T := tab) tok (p := vpT) (q := apT) (fV := i_slices_Values_s_impl_Tile_impl_Tile__1) (f := i_slices_AppendSeq_s_impl_Tile_impl_Tile_) (fnv := Tryz.f163) (fna := Tryz.f169) (N := ts.length)
    (V3 := opsAt (sub [1, 0, 0, 1, 1, 0, 0, 1, 0] (bodyOf Tryz.f163))) (i0 := 0) (i1 := 1) (i2 := 2) (i3 := 3) (i4 := 4) (j0 := 0) (j1 := 1) (j2 := 2) (j3 := 3) (j4 := 4) (b0 := 0) (b1 := 1) (bb := 1) (c0 := 0) (tt := 4)
    (yc := ⟨.value (.tmp 11), #[.tmp 12], #[69]⟩)
    (by kernel_rfl) (by kernel_rfl) (by kernel_rfl) (by kernel_rfl) (by kernel_rfl) rfl rfl (by decide) ?_ rfl ?_ (by kernel_rfl) (by kernel_rfl) (calls_of (fn := Tryz.f169) (c := bodyOf Tryz.f169) (by kernel_rfl) (by kernel_rfl) (by kernel_rfl)) (calls_of (fn := Tryz.f163) (c := bodyOf Tryz.f163) (by kernel_rfl) (by kernel_rfl) (by kernel_rfl))
    (args := [.sl Sl.nil, .func i_slices_Values_s_impl_Tile_impl_Tile__1 [.ptr (pt ps)]]) (h := h0) (K := fun v h' => ∃ u, v = .sl u ∧ Ow h' u 4 (tcs ts) ∧ Fr h0.length u ∧ Ext h0 h' ∧ (0 < ts.length → u.o.isSome = true)) ?_ ?_
  · obtain ⟨v, h2, hs, u, rfl, hk⟩ := key
    exact ⟨u, h2, hs, hk⟩
  · have e0 : vpT.V0.toList.map (·.dst) = [some 5, some 6, some 7] := by kernel_rfl
    have e1 : vpT.V1.toList.map (·.dst) = [some 8] := by kernel_rfl
    have e2 : vpT.V2.toList.map (·.dst) = [some 9, some 10, some 4, none] := by kernel_rfl
    have e4 : vpT.V4.toList.map (·.dst) = [some 15, some 7] := by kernel_rfl
    intro V hV o ho d hd e
    have hm : o.dst ∈ V.toList.map (·.dst) := List.mem_map_of_mem ho
    simp only [List.mem_cons, List.not_mem_nil, or_false] at hV
    simp only [vpT, List.mem_cons, List.not_mem_nil, or_false] at hd
    rcases hV with rfl | rfl | rfl | rfl
    · rw [e0, e] at hm; simp at hm; omega
    · rw [e1, e] at hm; simp at hm; omega
    · rw [e2, e] at hm; simp at hm; omega
    · rw [e4, e] at hm; simp at hm; omega
  · have hn : Tryz.f163.ntmps = 16 := by kernel_rfl
    intro d hd
    simp only [vpT, List.mem_cons, List.not_mem_nil, or_false] at hd
    omega
  · have hn : Tryz.f163.ntmps = 16 := by kernel_rfl
    omega
  · unfold seqAll
    rw [A0_k]
    refine newO_var fun h1 v1 x1 l1 => ?_
    rw [A1_k]
    refine ⟨_, ⟨rfl, rfl⟩, ?_⟩
    rw [V0_k]
    refine (hv.ext x1).ldS ?_
    refine seqLoop_c r hl (Nat.le_refl _) x1 ts.length 0 Sl.nil h1 (by omega) x1 (by omega) (by omega) v1 (by simpa [tcs] using Ow.nil _ _) (Fr.nil _) (by simp [Sl.nil]) (fun h => by omega) fun x h e vx ox fx hs => ?_
    refine (A4_k Sl.nil _ _ (fun v h' => ∃ u, v = .sl u ∧ Ow h' u 4 (tcs ts) ∧ Fr h0.length u ∧ Ext h0 h' ∧ (0 < ts.length → u.o.isSome = true)) h).mpr ?_
    exact vx.ldS ⟨x, rfl, ox, fx, e, hs⟩
end
end Go.Proofs.YtcoampecbpiecaaGreat.Cl

/- Sorted tiles, each once: the program's walk. No claim is stated here. -/
set_option linter.unusedVariables false
set_option linter.unusedSimpArgs false
namespace Go.Proofs.YtcoampecbpiecaaGreat.Cl
open Go
section
variable {h0 : H} {s : Sl} {l : List Tile} {ps : Nat}
theorem sortedFunc_c (hv : Var h0 ps (.sl s)) (r : Rd h0 s 4 (tcs l)) (hl : l.length ≤ 1000000) :
    callS SP i_slices_SortedFunc_impl_Tile_ [.func i_slices_Values_s_impl_Tile_impl_Tile__1 [.ptr (pt ps)], .func i_impl_compare []] h0 fun u h' => ∃ l', Ow h' u 4 (tcs l') ∧ l'.Perm l ∧ l'.Pairwise (fun a b => ¬ ltT b a) ∧ Fr h0.length u ∧ Ext h0 h' := by
  apply slices_SortedFunc_impl_Tile__call
  unfold slices_SortedFunc_impl_Tile__main
  have hc : callS SP i_slices_Collect_impl_Tile_ [.func i_slices_Values_s_impl_Tile_impl_Tile__1 [.ptr (pt ps)]] h0 fun u h' => Ow h' u 4 (tcs l) ∧ Fr h0.length u ∧ Ext h0 h' := by
    apply slices_Collect_impl_Tile__call
    unfold slices_Collect_impl_Tile__main
    refine (appendSeq_c hv r hl).to ?_
    rintro u h' ⟨o, f, x, _⟩
    exact ⟨u, rfl, o, f, x⟩
  refine hc.to ?_
  rintro u h1 ⟨o1, f1, x1⟩
  refine (sortT_c o1 (by omega)).to ?_
  rintro v h2 ⟨rfl, l', o2, hp, hs, b2, ln⟩
  exact ⟨u, rfl, l', o2, hp, hs, f1, x1.but_ b2 fun o e => f1 o e⟩
/-! ### each once -/
def cmpl : List Tile → List Tile
  | [] => []
  | [a] => [a]
  | a :: b :: l => if a = b then cmpl (b :: l) else a :: cmpl (b :: l)
theorem mem_cmpl {x : Tile} : ∀ {l : List Tile}, x ∈ cmpl l ↔ x ∈ l
  | [] => Iff.rfl
  | [a] => Iff.rfl
  | a :: b :: l => by
    have ih := mem_cmpl (x := x) (l := b :: l)
    unfold cmpl
    split
    · next h => subst h; rw [ih]; simp
    · rw [List.mem_cons, ih, List.mem_cons (l := b :: l)]
theorem pw_cmpl : ∀ {l : List Tile}, l.Pairwise (fun a b => ¬ ltT b a) → (cmpl l).Pairwise ltT
  | [], _ => List.Pairwise.nil
  | [a], _ => by simp [cmpl]
  | a :: b :: l, h => by
    have h1 := List.pairwise_cons.1 h
    have ih := pw_cmpl h1.2
    unfold cmpl
    split
    · exact ih
    · next hne =>
      refine List.pairwise_cons.2 ⟨fun x hx => ?_, ih⟩
      have hab : ltT a b := (ltT_sto.tri a b hne).resolve_right (h1.1 b (by simp))
      rcases List.mem_cons.1 (mem_cmpl.1 hx) with rfl | hx'
      · exact hab
      · have h2 := (List.pairwise_cons.1 h1.2).1 x hx'
        by_cases e : b = x
        · rw [← e]; exact hab
        · exact ltT_sto.trans _ _ _ hab ((ltT_sto.tri b x e).resolve_right h2)
theorem cmpl_app : ∀ (l : List Tile) (a x : Tile), cmpl (l ++ [a, x]) = if a = x then cmpl (l ++ [a]) else cmpl (l ++ [a]) ++ [x]
  | [], a, x => by
    simp only [List.nil_append, cmpl]
    split <;> simp_all
  | [b], a, x => by
    have ih := cmpl_app [] a x
    simp only [List.nil_append, List.cons_append] at ih ⊢
    rw [cmpl, ih]
    conv => rhs; rw [cmpl]
    by_cases h1 : b = a
    · simp [h1]
    · simp only [if_neg h1]
      by_cases h2 : a = x
      · rw [if_pos h2, if_pos h2]
      · rw [if_neg h2, if_neg h2]; simp
  | b :: c :: l, a, x => by
    have ih := cmpl_app (c :: l) a x
    simp only [List.cons_append] at ih ⊢
    rw [cmpl, ih]
    conv => rhs; rw [cmpl]
    by_cases h1 : b = c
    · simp [h1]
    · simp only [if_neg h1]
      by_cases h2 : a = x
      · rw [if_pos h2, if_pos h2]
      · rw [if_neg h2, if_neg h2]; simp
theorem cmpl_take {l : List Tile} {k : Nat} (h0 : 1 ≤ k) (hk : k < l.length) : cmpl (l.take (k + 1)) = if l[k - 1]'(by omega) = l[k] then cmpl (l.take k) else cmpl (l.take k) ++ [l[k]] := by
  obtain ⟨j, rfl⟩ : ∃ j, k = j + 1 := ⟨k - 1, by omega⟩
  have e1 : l.take (j + 1 + 1) = l.take j ++ [l[j], l[j + 1]] := by
    rw [List.take_succ_eq_append_getElem hk, List.take_succ_eq_append_getElem (show j < l.length by omega), List.append_assoc]
    rfl
  have e2 : l.take (j + 1) = l.take j ++ [l[j]] := List.take_succ_eq_append_getElem (by omega)
  rw [e1, e2]
  exact cmpl_app _ _ _
theorem Compact_c (r : Ow h0 s 4 (tcs l)) (hl : l.length ≤ 1000000) :
    callS SP i_slices_Compact_s_impl_Tile_impl_Tile_ [.sl s] h0 fun u h' => Pre h' u 4 (tcs (cmpl l)) ∧ But s.o h0 h' ∧ (∀ o, u.o = some o → s.o = some o) ∧ h'.length = h0.length := by
  have hsl := r.rd.tlen
  apply slices_Compact_s_impl_Tile_impl_Tile__call
  unfold slices_Compact_s_impl_Tile_impl_Tile__main
  refine bif_dec (fun h2 => ?_) (fun h2 => ?_)
  · have : cmpl l = l := by
      match l, hsl, h2 with
      | [], _, _ => rfl
      | [a], _, _ => rfl
      | a :: b :: m, e, h2 => simp at e; omega
    exact ⟨s, rfl, by rw [this]; exact r.pre, ⟨Nat.le_refl _, fun _ _ _ => rfl⟩, fun o e => e, rfl⟩
  obtain ⟨o, hso⟩ : ∃ o, s.o = some o := by
    obtain ⟨a, b⟩ | ⟨o, a, _⟩ := r.at_
    · omega
    · exact ⟨o, a⟩
  refine slices_Compact_s_impl_Tile_impl_Tile__rule0 _ _ _ (fun i h => ∃ k : Nat, i = k ∧ 1 ≤ k ∧ k ≤ l.length ∧ h = h0 ∧ cmpl (l.take k) = l.take k) (fun i _ => (l.length - i).toNat) ?_ _ ⟨1, rfl, by omega, by omega, rfl, ?_⟩
  rotate_left
  · match l, hsl with
    | [], _ => rfl
    | a :: m, _ => rfl
  rintro X0 _ h ⟨k, rfl, k1, k2, rfl, hk⟩ hX
  unfold slices_Compact_s_impl_Tile_impl_Tile__b0 slices_Compact_s_impl_Tile_impl_Tile__C0
  refine bif_dec (fun hi => ?_) (fun hi => ?_)
  rotate_left
  · rw [show k = l.length by omega, List.take_length] at hk
    exact ⟨s, rfl, by rw [hk]; exact r.pre, ⟨Nat.le_refl _, fun _ _ _ => rfl⟩, fun o e => e, rfl⟩
  have hkl : k < l.length := by omega
  have tatN : ∀ {B : List Tile} {j : Nat} (hj : j < B.length), tat B (j : Int) = B[j] := fun {B j} hj => tat_at (by rw [Int.toNat_natCast, List.getElem?_eq_getElem hj])
  refine r.rd.tileG (by omega) (by omega) ?_
  rw [w64_of (n := (k : Int) - 1) (by omega) (by omega), show (k : Int) - 1 = ((k - 1 : Nat) : Int) by omega]
  refine r.rd.tileG (by omega) (by omega) (eqA_tc ?_)
  rw [tatN hkl, tatN (show k - 1 < l.length by omega)]
  have hct := cmpl_take k1 hkl
  refine bif_dec (fun he => ?_) (fun he => ?_)
  rotate_left
  · unfold slices_Compact_s_impl_Tile_impl_Tile__C1
    rw [w64_of (n := (k : Int) + 1) (by omega) (by omega)]
    refine hX _ _ ⟨k + 1, by push_cast; rfl, by omega, by omega, rfl, ?_⟩ (by omega)
    rw [hct, if_neg (fun e => he e.symm), hk, List.take_succ_eq_append_getElem hkl]
  rw [if_pos he.symm, hk] at hct
  refine r.cutV hso (by omega) (by omega) (by omega) ?_
  rw [Int.toNat_natCast, show ((s.len : Int) - (k : Int)).toNat = l.length - k by omega]
  refine slices_Compact_s_impl_Tile_impl_Tile__rule2 _ _ X0 _ _ (fun a b g => ∃ (kk k2 : Nat) (A : List Tile), a = kk ∧ b = k2 ∧ 1 ≤ k2 ∧ k + k2 ≤ l.length ∧ Ow g s 4 (tcs A) ∧ A.length = l.length ∧ kk ≤ k + k2 - 1 ∧ A.take kk = cmpl (l.take (k + k2)) ∧ kk = (cmpl (l.take (k + k2))).length ∧ A.drop (k + k2 - 1) = l.drop (k + k2 - 1) ∧ But s.o h g ∧ g.length = h.length) (fun _ b _ => (l.length - b).toNat) ?_ _ _
    ⟨k, 1, l, rfl, rfl, by omega, by omega, r, rfl, by omega, hct.symm, by rw [hct, List.length_take]; omega, rfl, ⟨Nat.le_refl _, fun _ _ _ => rfl⟩, rfl⟩
  rintro X2 _ _ g ⟨kk, q, A, rfl, rfl, q1, q2, rA, hA, hkk, ht, hkl2, hd, hbut, hgl⟩ hY
  unfold slices_Compact_s_impl_Tile_impl_Tile__b2 slices_Compact_s_impl_Tile_impl_Tile__C2
  refine bif_dec (fun hj => ?_) (fun hj => ?_)
  · have hq : k + q < l.length := by have : (q : Int) < ((l.length - k : Nat) : Int) := hj; omega
    have rv := rA.viewT hso (lo := k) (n := l.length - k) (by omega)
    have hvl : ((A.drop k).take (l.length - k)).length = l.length - k := by rw [List.length_take, List.length_drop]; omega
    have hget : ∀ j, k + q - 1 ≤ k + j → k + j < l.length → ((A.drop k).take (l.length - k)).getD j (0, 0, 0, 0) = l.getD (k + j) (0, 0, 0, 0) := fun j h1 h2 => by
      have e1 := congrArg (fun m => m[k + j - (k + q - 1)]?) hd
      simp only [List.getElem?_drop] at e1
      rw [List.getD_eq_getElem?_getD, List.getD_eq_getElem?_getD, List.getElem?_take, if_pos (by omega), List.getElem?_drop]
      rw [show k + q - 1 + (k + j - (k + q - 1)) = k + j by omega] at e1
      rw [e1]
    have ld : ∀ j : Nat, k + q - 1 ≤ k + j → k + j < l.length → tat ((A.drop k).take (l.length - k)) (j : Int) = tat l ((k + j : Nat) : Int) := fun j h1 h2 => by
      unfold tat
      rw [Int.toNat_natCast, Int.toNat_natCast]
      exact hget j h1 h2
    refine rv.tileG (by omega) (by rw [hvl]; omega) ?_
    rw [w64_of (n := (q : Int) - 1) (by omega) (by omega), show (q : Int) - 1 = ((q - 1 : Nat) : Int) by omega]
    refine rv.tileG (by omega) (by rw [hvl]; omega) (eqA_tc ?_)
    rw [ld q (by omega) hq, ld (q - 1) (by omega) (by omega), tatN hq, tatN (show k + (q - 1) < l.length by omega)]
    have hct2 := cmpl_take (l := l) (k := k + q) (by omega) hq
    have hst : ((q : Int) + 1) = ((q + 1 : Nat) : Int) := by push_cast; rfl
    rw [w64_of (n := (q : Int) + 1) (by omega) (by omega)]
    have hidx : l[k + (q - 1)]'(by omega) = l[k + q - 1]'(by omega) := by congr 1; omega
    refine bif_not (fun he => ?_) (fun he => ?_)
    · have he := of_decide_eq_false he
      refine rv.tileG (by omega) (by rw [hvl]; omega) ?_
      rw [ld q (by omega) hq, tatN hq]
      refine rA.stA (by omega) (by omega) (tc l[k + q]) rfl fun g' rA' b' hl' => ?_
      rw [Int.toNat_natCast, tcs_set A kk l[k + q] (by omega)] at rA'
      rw [if_neg (fun e => he (by rw [hidx]; exact e.symm))] at hct2
      rw [w64_of (n := (kk : Int) + 1) (by omega) (by omega)]
      refine hY _ _ _ ⟨kk + 1, q + 1, A.set kk l[k + q], by push_cast; rfl, hst, by omega, by omega, rA', by rw [List.length_set]; exact hA, by omega, ?_, ?_, ?_, hbut.trans b', by omega⟩ (by omega)
      · rw [show k + (q + 1) = k + q + 1 by omega, hct2, ← ht]
        rw [List.take_succ_eq_append_getElem (by rw [List.length_set]; omega), List.getElem_set_self, List.take_set_of_le (Nat.le_refl _)]
      · rw [show k + (q + 1) = k + q + 1 by omega, hct2, List.length_append, ← hkl2]; rfl
      · rw [show k + (q + 1) - 1 = (k + q - 1) + 1 by omega, List.drop_set_of_lt (by omega), ← List.drop_drop, ← List.drop_drop, hd]
    · have he := of_decide_eq_true he
      rw [if_pos (by rw [← hidx]; exact he.symm)] at hct2
      refine hY _ _ _ ⟨kk, q + 1, A, rfl, hst, by omega, by omega, rA, hA, by omega, ?_, ?_, ?_, hbut, hgl⟩ (by omega)
      · rw [show k + (q + 1) = k + q + 1 by omega, hct2]; exact ht
      · rw [show k + (q + 1) = k + q + 1 by omega, hct2]; exact hkl2
      · rw [show k + (q + 1) - 1 = (k + q - 1) + 1 by omega, ← List.drop_drop, ← List.drop_drop, hd]
  · have hq : k + q = l.length := by have : ¬ (q : Int) < ((l.length - k : Nat) : Int) := hj; omega
    rw [hq, List.take_length] at ht hkl2
    have hkk' : kk < l.length := by omega
    refine rA.cutV hso (by omega) (by omega) (by omega) ?_
    rw [Int.toNat_natCast, show ((s.len : Int) - (kk : Int)).toNat = l.length - kk by omega]
    obtain ⟨a, _⟩ | ⟨o', a, b, c, d, e⟩ := rA.at_
    · rw [hso] at a; cases a
    unfold clearS
    rw [if_neg (show ¬ (l.length - kk = 0) by omega)]
    have hz : (List.replicate (l.length - kk) [i64 0, i64 0, i64 0, i64 0]).flatten = tcs (List.replicate (l.length - kk) (0, 0, 0, 0)) := by
      unfold tcs
      rw [List.map_replicate]
      rfl
    have hzl : (tcs (List.replicate (l.length - kk) ((0, 0, 0, 0) : Tile))).length = (l.length - kk) * 4 := by rw [tcs_len, List.length_replicate]
    have hol : o' < g.length := (List.getElem?_eq_some_iff.1 e).1
    have hsp : splice (tcs A) (kk * 4) (tcs (List.replicate (l.length - kk) ((0, 0, 0, 0) : Tile))) = tcs (A.take kk ++ List.replicate (l.length - kk) (0, 0, 0, 0)) := by
      unfold splice
      rw [tcs_take4, tcs_app, hzl, List.drop_of_length_le (by rw [tcs_len]; omega), List.append_nil]
    refine ⟨g.set o' (.own (tcs (A.take kk ++ List.replicate (l.length - kk) (0, 0, 0, 0)))), rfl, ?_, ?_⟩
    · show putN g s.o s.n (kk * 4) (List.replicate (l.length - kk) [i64 0, i64 0, i64 0, i64 0]).flatten = _
      rw [hz, a]
      have hlen : (tcs A).length = s.n := by rw [tcs_len, d, hA, hsl]
      simp only [putN, owned, e]
      rw [if_pos hlen]
      simp only [Option.bind_some]
      rw [if_pos (by rw [hzl, tcs_len]; omega), hsp]
    · have rB : Ow (g.set o' (.own (tcs (A.take kk ++ List.replicate (l.length - kk) (0, 0, 0, 0))))) s 4 (tcs (A.take kk ++ List.replicate (l.length - kk) (0, 0, 0, 0))) := ⟨by rw [tcs_len, List.length_append, List.length_take, List.length_replicate]; congr 1; omega, .inr ⟨o', a, b, c, d, by simp [hol]⟩⟩
      refine rB.cutV hso (by omega) (by omega) (by omega) ?_
      have e5 : (tcs (A.take kk ++ List.replicate (l.length - kk) (0, 0, 0, 0))).take (kk * 4) = tcs (cmpl l) := by rw [tcs_take4, List.take_left' (by rw [List.length_take]; omega), ht]
      have hlt : (tcs (A.take kk ++ List.replicate (l.length - kk) (0, 0, 0, 0))).length = s.len * 4 := rB.len
      have rv : Pre (g.set o' (.own (tcs (A.take kk ++ List.replicate (l.length - kk) (0, 0, 0, 0))))) ⟨s.o, s.n, 0, kk, 4⟩ 4 (tcs (cmpl l)) :=
        ⟨by rw [tcs_len, ← hkl2], .inr ⟨o', _, s.len, a, rfl, rfl, d, hlt, by show kk ≤ s.len; omega, by simp [hol], e5⟩⟩
      rw [show (0 : Int).toNat = 0 from rfl, show ((kk : Int) - 0).toNat = kk by omega]
      refine ⟨_, rfl, rv, ?_, fun o e => e, by rw [List.length_set]; exact hgl⟩
      refine hbut.trans ⟨by rw [List.length_set]; omega, fun i hi hne => by rw [List.getElem?_set, if_neg (fun e => hne (by rw [a, e]))]⟩
end
end Go.Proofs.YtcoampecbpiecaaGreat.Cl

/- The sets of tiles in order; pairs of colours: the program's walk. No claim is stated here. -/
set_option linter.unusedVariables false
set_option linter.unusedSimpArgs false
namespace Go.Proofs.YtcoampecbpiecaaGreat.Cl
open Go
theorem dsT_of {l l' : List Tile} (hp : l'.Perm l) (hs : l'.Pairwise fun a b => ¬ ltT b a) : cmpl l' = dsT l :=
  dsort_eq ltT_sto (pw_cmpl hs) fun x => by rw [mem_cmpl]; exact hp.mem_iff
/-- Small enough for a set? -/
def fitS (c : Int) (l : List Tile) : Prop := c ≤ 6 ∧ (dsT l).length ≤ 16
section
variable {h0 : H} {s : Sl} {l : List Tile} {c : Int}
open Classical in
theorem setOf_c (r : Rd h0 s 4 (tcs l)) (hl : l.length ≤ 1000000) :
    callV SP i_impl_setOf [i64 c, .sl s] h0 fun v h' => ∃ u, v = .tuple [.agg [i64 c, .sl u], .bool (decide (fitS c l))] ∧ Pre h' u 4 (tcs (dsT l)) ∧ Fr h0.length u ∧ Ext h0 h' := by
  apply impl_setOf_call
  unfold impl_setOf_main
  refine newO_obj fun h1 o1 x1 n1 => ?_
  have hv : callV SP i_slices_Values_s_impl_Tile_impl_Tile_ [.sl s] h1 fun v h' => v = .func i_slices_Values_s_impl_Tile_impl_Tile__1 [.ptr (pt h1.length)] ∧ Var h' h1.length (.sl s) ∧ Ext h1 h' := by
    apply slices_Values_s_impl_Tile_impl_Tile__call
    unfold slices_Values_s_impl_Tile_impl_Tile__main
    exact newO_var fun h2 v2 x2 n2 => ⟨rfl, v2, x2⟩
  refine hv.to ?_
  rintro _ h2 ⟨rfl, v2, x2⟩
  have X2 := x1.trans x2
  refine (sortedFunc_c v2 (r.ext X2) hl).to ?_
  rintro u h3 ⟨l', o3, hp, hs, f3, x3⟩
  have hll := hp.length_eq
  refine (Compact_c o3 (by omega)).to ?_
  rintro w h4 ⟨rw4, b4, hw, ln4⟩
  rw [dsT_of hp hs] at rw4
  have X4 : Ext h0 h4 := (X2.trans x3).but_ b4 fun o e => by have := f3 o e; have := X2.len; omega
  have hwl := rw4.rd.tlen
  have o4 : Obj h4 h0.length [i64 0, .sl Sl.nil] := (o1.ext (x2.trans x3)).but b4 (fun e => by
    have := f3 _ e
    have := X2.len
    have := x1.len
    have := x2.len
    omega)
  refine newO_obj fun h5 o5 x5 n5 => ?_
  refine o5.stA fun h6 o6 b6 n6 => ?_
  have y6 : Ext h4 h6 := x5.but_ b6 (some_le (Nat.le_refl _))
  refine o6.ldA rfl ?_
  refine isPt_in (o6.ldI rfl rfl ?_)
  have ho := o4.ext y6
  have hol := o4.lt
  have hdl := dsT_len l
  have hfw : Fr h0.length w := fun o e => by have := f3 _ (hw _ e); have := X2.len; omega
  refine bif_dec (fun hc => ?_) (fun hc => ?_)
  · refine isPt_in (o6.ldS rfl rfl ?_)
    refine ho.stA fun h7 o7 b7 n7 => ?_
    have o67 : Obj h7 h4.length [i64 c, .sl w] := o6.but b7 (fun e => by have := Option.some.inj e; omega)
    have hcell : cell h7 (Pt.add ⟨some h4.length, 2, 0⟩ 1) = cell h6 (Pt.add ⟨some h4.length, 2, 0⟩ 1) := by rw [o67.cellE (n := 2) rfl, o6.cellE (n := 2) rfl]
    refine ⟨hcell, ?_⟩
    refine o7.ldA rfl ⟨w, ?_, (rw4.ext y6).but b7 (fun i ei e => ?_), hfw, (X4.trans y6).but_ b7 (some_le (Nat.le_refl _))⟩
    · have : decide ((w.len : Int) ≤ 16) = decide (fitS c l) := by
        rw [decide_eq_decide]
        unfold fitS
        rw [hwl]
        exact ⟨fun h => ⟨hc, by omega⟩, fun h => by have := h.2; omega⟩
      rw [this]
    · have := f3 _ (hw _ ei)
      have := X2.len
      have := x1.len
      have := x2.len
      have := Option.some.inj e
      omega
  · refine ho.stA fun h7 o7 b7 n7 => ?_
    refine o7.ldA rfl ⟨w, ?_, (rw4.ext y6).but b7 (fun i ei e => ?_), hfw, (X4.trans y6).but_ b7 (some_le (Nat.le_refl _))⟩
    · have : decide (fitS c l) = false := decide_eq_false fun h => hc h.1
      rw [this]
    · have := f3 _ (hw _ ei)
      have := X2.len
      have := x1.len
      have := x2.len
      have := Option.some.inj e
      omega
open Classical in
theorem limited_c (r : Rd h0 s 4 (tcs l)) (hl : l.length ≤ 1000000) :
    callV SP i_impl_limited [i64 c, .sl s] h0 fun v h' => ∃ u, v = .tuple [.agg (if fitS c l then [i64 c, .sl u] else [i64 0, .sl Sl.nil]), i64 (if fitS c l then 0 else 3)] ∧ (fitS c l → Pre h' u 4 (tcs (dsT l)) ∧ Fr h0.length u) ∧ Ext h0 h' := by
  apply impl_limited_call
  unfold impl_limited_main
  refine newO_obj fun h1 o1 x1 n1 => ?_
  refine (setOf_c (c := c) (r.ext x1) hl).to ?_
  rintro _ h2 ⟨u, rfl, ru, fu, x2⟩
  refine ⟨_, rfl, _, rfl, _, rfl, _, rfl, ?_⟩
  refine newO_obj fun h3 o3 x3 n3 => ?_
  refine o3.stA fun h4 o4 b4 n4 => ?_
  have y4 : Ext h2 h4 := x3.but_ b4 (some_le (Nat.le_refl _))
  have ho := o1.ext (x2.trans y4)
  have X := (x1.trans x2).trans y4
  by_cases hf : fitS c l
  · simp only [if_pos hf]
    rw [decide_eq_true hf]
    refine bif_b (fun e => by cases e) (fun _ => ?_)
    refine o4.ldA rfl ?_
    refine ho.stA fun h5 o5 b5 n5 => ?_
    refine o5.ldA rfl ⟨u, rfl, fun _ => ?_, X.but_ b5 (some_le (Nat.le_refl _))⟩
    exact ⟨(ru.ext y4).but b5 (fun i ei e => by have := fu _ ei; have := Option.some.inj e; omega), fu.le (by omega)⟩
  · simp only [if_neg hf]
    rw [decide_eq_false hf]
    refine bif_b (fun _ => ?_) (fun e => by cases e)
    refine ho.stA fun h5 o5 b5 n5 => ?_
    exact o5.ldA rfl ⟨u, rfl, fun h => absurd h hf, X.but_ b5 (some_le (Nat.le_refl _))⟩
end
end Go.Proofs.YtcoampecbpiecaaGreat.Cl

/- Pairs of colours: the program's walk. No claim is stated here. -/
set_option linter.unusedVariables false
set_option linter.unusedSimpArgs false
namespace Go.Proofs.YtcoampecbpiecaaGreat.Cl
open Go
theorem newOat_obj {cs : List AVal} {h : H} {n : Nat} (hn : n < h.length) {K : Pt → H → Prop} (hk : ∀ h', Obj h' n cs → But (some n) h h' → h'.length = h.length → K ⟨some n, cs.length, 0⟩ h') : newOat cs h n K :=
  hk _ (by unfold Obj; simp [hn]) ⟨by simp, fun i hi hne => by rw [List.getElem?_set, if_neg (fun e => hne (by rw [e]))]⟩ (by simp)
theorem cell_pc {g : H} {o : Nat} {e : Int × Int} (x : Obj g o (pc e)) (i : Nat) (hi : i < 2) : cell g (Pt.add ⟨some o, 2, 0⟩ i) = some (i64 ([e.1, e.2].getD i 0)) := by
  rw [x.cellE (n := 2) rfl]
  match i, hi with
  | 0, _ => rfl
  | 1, _ => rfl
theorem ix2 {h : H} {o : Nat} {e : Int × Int} (x : Obj h o (pc e)) (i : Nat) (hi : i < 2) {K : Pt → Int → Prop} (hk : ∀ p, p = Pt.add ⟨some o, 2, 0⟩ i → K p ([e.1, e.2].getD i 0)) : ixA ⟨some o, 2, 0⟩ 2 1 (i : Int) fun p => Cl.ldI .i64 p h (K p) := by
  refine ⟨⟨by omega, by omega⟩, rfl, ?_⟩
  rw [show (i : Int).toNat * 1 = i by omega]
  exact ⟨_, cell_pc x i hi, hk _ rfl⟩
theorem pairOf_c (a b : Tile) {k : Nat} (hk : k < 4) (h : H) : callA SP i_impl_pairOf [.agg (tc a), .agg (tc b), i64 k] h fun cs h' => cs = pc (sd a k, sd b k) ∧ Ext h h' := by
  apply impl_pairOf_call
  unfold impl_pairOf_main
  refine newK_obj fun h1 o1 x1 n1 => ?_
  refine newK_obj fun h2 o2 x2 n2 => ?_
  refine newO_obj fun h3 o3 x3 n3 => ?_
  refine (o1.ext (x2.trans x3)).sdI (by omega) (by omega) ?_
  refine (o2.ext x3).sdI (by omega) (by omega) ?_
  rw [Int.toNat_natCast]
  refine o3.stA fun h4 o4 b4 n4 => ?_
  refine o4.ldA rfl ⟨_, rfl, rfl, ?_⟩
  exact ((x1.trans x2).trans x3).but_ b4 (some_le (by have := x1.len; have := x2.len; omega))
/-! ### maps of pairs -/
def mpL {β : Type} (f : β → AVal) (L : List ((Int × Int) × β)) : List (AVal × AVal) := L.map fun e => (.agg (pc e.1), f e.2)
def lkP {β : Type} (k : Int × Int) : List ((Int × Int) × β) → Option β
  | [] => none
  | e :: L => if k = e.1 then some e.2 else lkP k L
theorem keyIs_pc (a b : Int × Int) : keyIs (.agg (pc a)) (.agg (pc b)) = some (decide (a = b)) := by
  have h : ∀ e : Int × Int, intsOf (pc e) = some [e.1, e.2] := fun e => rfl
  unfold keyIs
  simp only [h]
  rw [if_pos (show [a.1, a.2].length = [b.1, b.2].length from rfl)]
  congr 1
  obtain ⟨a1, a2⟩ := a
  obtain ⟨b1, b2⟩ := b
  rw [Bool.eq_iff_iff, beq_iff_eq, decide_eq_true_eq]
  simp
theorem mpFind_L {β : Type} (f : β → AVal) (k : Int × Int) : ∀ L : List ((Int × Int) × β), mpFind (.agg (pc k)) (mpL f L) = some ((lkP k L).map f)
  | [] => rfl
  | e :: L => by
    have ih := mpFind_L f k L
    show mpFind (.agg (pc k)) ((.agg (pc e.1), f e.2) :: mpL f L) = _
    unfold mpFind lkP
    simp only [keyIs_pc]
    by_cases h : k = e.1
    · rw [decide_eq_true h, if_pos h]; rfl
    · rw [decide_eq_false h, if_neg h]; exact ih
theorem mpPut_L {β : Type} (f : β → AVal) (k : Int × Int) (v : β) : ∀ L : List ((Int × Int) × β), lkP k L = none → mpPut (.agg (pc k)) (f v) (mpL f L) = some (mpL f (L ++ [(k, v)]))
  | [], _ => rfl
  | e :: L, hn => by
    unfold lkP at hn
    split at hn
    · cases hn
    · next h =>
      have ih := mpPut_L f k v L hn
      show mpPut (.agg (pc k)) (f v) ((.agg (pc e.1), f e.2) :: mpL f L) = _
      unfold mpPut
      simp only [keyIs_pc]
      rw [decide_eq_false h]
      simp only [ih, Option.map_some]
      rfl
def MpL {β : Type} (f : β → AVal) (h : H) (o : Nat) (L : List ((Int × Int) × β)) : Prop := h[o]? = some (.mp (mpL f L))
section
variable {β : Type} {f : β → AVal} {h h' : H} {o : Nat} {L : List ((Int × Int) × β)}
theorem MpL.lt (x : MpL f h o L) : o < h.length := (List.getElem?_eq_some_iff.1 x).1
theorem MpL.ext (x : MpL f h o L) (e : Ext h h') : MpL f h' o L := e.own x
theorem MpL.but {p : Option Nat} (x : MpL f h o L) (b : But p h h') (hn : p ≠ some o) : MpL f h' o L := b.get x hn
theorem MpL.put (x : MpL f h o L) {k : Int × Int} (hn : lkP k L = none) (v : β) {K : H → Prop} (hk : ∀ h', MpL f h' o (L ++ [(k, v)]) → But (some o) h h' → h'.length = h.length → K h') : mput (.map (some o)) (.agg (pc k)) (f v) h K :=
  ⟨o, _, _, rfl, x, mpPut_L f k v L hn, hk _ (by unfold MpL; have := x.lt; simp [this]) ⟨by simp, fun i hi hne => by rw [List.getElem?_set, if_neg (fun e => hne (by rw [e]))]⟩ (by simp)⟩
theorem MpL.new {K : AVal → H → Prop} (hk : ∀ h', MpL f h' h.length [] → Ext h h' → h'.length = h.length + 1 → K (.map (some h.length)) h') : newM h K :=
  hk _ (by unfold MpL mpL; simp) (Ext.app _ _) (by simp)
theorem MpL.at_ (x : MpL f h o L) : mapAt h (some o) = some (mpL f L) := by simp only [mapAt]; rw [show h[o]? = some (.mp (mpL f L)) from x]
end
theorem MpL.getB {h : H} {o : Nat} {L : List ((Int × Int) × Unit)} (x : MpL (fun _ => .bool true) h o L) (k : Int × Int) {K : Bool → Prop} (hk : K (lkP k L).isSome) : mgetB (.map (some o)) (.agg (pc k)) h K := by
  refine ⟨some o, _, _, (lkP k L).isSome, rfl, x.at_, mpFind_L _ k L, ?_, hk⟩
  cases lkP k L with
  | none => exact .inl ⟨rfl, rfl⟩
  | some _ => exact .inr rfl
theorem MpL.getI {h : H} {o : Nat} {L : List ((Int × Int) × Int)} (x : MpL i64 h o L) (k : Int × Int) {K : Int → Prop} (hk : K ((lkP k L).getD 0)) : mgetI .i64 (.map (some o)) (.agg (pc k)) h K := by
  refine ⟨some o, _, _, (lkP k L).getD 0, rfl, x.at_, mpFind_L _ k L, ?_, hk⟩
  cases lkP k L with
  | none => exact .inl ⟨rfl, rfl⟩
  | some _ => exact .inr rfl
theorem lkP_none {β : Type} {k : Int × Int} : ∀ {L : List ((Int × Int) × β)}, lkP k L = none ↔ k ∉ L.map (·.1)
  | [] => by simp [lkP]
  | e :: L => by
    unfold lkP
    by_cases h : k = e.1
    · rw [if_pos h]; simp [h]
    · rw [if_neg h, lkP_none (L := L)]; simp [h]
def unitL (D : List (Int × Int)) : List ((Int × Int) × Unit) := D.map fun e => (e, ())
theorem unitL_keys (D : List (Int × Int)) : (unitL D).map (·.1) = D := by unfold unitL; rw [List.map_map]; exact List.map_id D
theorem unitL_none {k : Int × Int} {D : List (Int × Int)} : lkP k (unitL D) = none ↔ k ∉ D := by rw [lkP_none, unitL_keys]
theorem unitL_some {k : Int × Int} {D : List (Int × Int)} : (lkP k (unitL D)).isSome = true ↔ k ∈ D := by
  have := unitL_none (k := k) (D := D)
  cases hq : lkP k (unitL D) with
  | none => rw [hq] at this; simpa using this
  | some _ => rw [hq] at this; simpa using this
end Go.Proofs.YtcoampecbpiecaaGreat.Cl

/- The pairs of a stack: the program's walk. No claim is stated here. -/
set_option linter.unusedVariables false
set_option linter.unusedSimpArgs false
namespace Go.Proofs.YtcoampecbpiecaaGreat.Cl
open Go
def prOf (S T : List Tile) (e : Int × Int) (j : Nat) : Int × Int := (sd (tat S e.1) j, sd (tat T e.2) j)
def allP (S T : List Tile) (es : List (Int × Int)) : List (Int × Int) := es.flatMap fun e => [prOf S T e 0, prOf S T e 2]
theorem allP_app (S T : List Tile) (es : List (Int × Int)) (e : Int × Int) : allP S T (es ++ [e]) = allP S T es ++ [prOf S T e 0, prOf S T e 2] := by unfold allP; rw [List.flatMap_append]; simp
noncomputable def prsP (S T : List Tile) : List (Int × Int) := dsort ltP (allP S T (stkI S T S.length))
def sideN (w : Nat) : Nat := if w = 0 then 0 else 2
section
variable {h0 : H} {s t : Sl} {S T : List Tile}
theorem pairs_c (rs : Rd h0 s 4 (tcs S)) (rt : Rd h0 t 4 (tcs T)) (hS : S.length ≤ 100000) (hT : T.length ≤ 16) :
    callS SP i_impl_pairs [.sl s, .sl t] h0 fun u h' => Ow h' u 2 (pcs (prsP S T)) ∧ Fr h0.length u ∧ Ext h0 h' := by
  have hsl := rs.tlen
  have htl := rt.tlen
  apply impl_pairs_call
  unfold impl_pairs_main
  refine MpL.new (f := fun _ : Unit => .bool true) fun h1 m1 x1 n1 => ?_
  refine newS_ow (by rfl) fun u h2 ou lu uo e2 => ?_
  have x2 : Ext h1 h2 := by rw [e2]; exact Ext.app _ _
  have n2 : h2.length = h1.length + 1 := by rw [e2]; simp
  have X2 := x1.trans x2
  refine (stacked_c (rs.ext X2) (rt.ext X2) hS hT).to ?_
  rintro q h3 ⟨oq, fq, x3⟩
  have X3 := X2.trans x3
  generalize hes : stkI S T S.length = es at oq
  have hql := oq.rd.plen
  have hesl : es.length ≤ 1600000 := by
    rw [← hes]
    exact Nat.le_trans (stkI_len S T S.length) (Nat.mul_le_mul hS hT)
  have hmem : ∀ z (hz : z < es.length), ∃ i k : Nat, es[z] = ((i : Int), (k : Int)) ∧ i < S.length ∧ k < T.length := fun z hz => by
    obtain ⟨i, k, e, a, b, _⟩ := stkI_mem (S := S) (T := T) (z := S.length) (e := es[z]) (by rw [hes]; exact List.getElem_mem hz)
    exact ⟨i, k, e, a, b⟩
  have X3l := X3.len
  have X2l := X2.len
  refine impl_pairs_rule0 _ _ _ _ _ _ _ (fun u i h => ∃ (z : Nat) (D : List (Int × Int)), i = z ∧ z ≤ es.length ∧ Ow h u 2 (pcs D) ∧ MpL (fun _ : Unit => .bool true) h h0.length (unitL D) ∧ D.Nodup ∧ (∀ x, x ∈ D ↔ x ∈ allP S T (es.take z)) ∧ D.length ≤ 2 * z ∧ (∀ o, u.o = some o → h1.length ≤ o ∧ q.o ≠ some o) ∧ Ext h0 h ∧ Rd h q 2 (pcs es) ∧ h3.length ≤ h.length) (fun _ i _ => (es.length - i).toNat) ?_ _ _
    ⟨0, [], rfl, by omega, by simpa [pcs] using ou.ext x3, by simpa [unitL] using m1.ext (x2.trans x3), List.nodup_nil, fun x => by simp [allP], by simp, fun o e => ⟨by rw [uo] at e; cases e; omega, fun e2 => by have := fq o e2; rw [uo] at e; cases e; omega⟩, X3, oq.rd, Nat.le_refl _⟩
  rintro X0 u _ h ⟨z, D, rfl, hz, ou, mD, hD, hmD, hDl, fu, x, rq, h3l⟩ hX
  unfold impl_pairs_b0 impl_pairs_C0
  refine bif_dec (fun hi => ?_) (fun hi => ?_)
  rotate_left
  · rw [show z = es.length by omega, List.take_length] at hmD
    refine (sortP_c ou (by omega)).to ?_
    rintro v h' ⟨rfl, l', o', hp, hs, b', ln⟩
    have : l' = prsP S T := by
      unfold prsP
      rw [hes]
      refine dsort_eq ltP_sto ?_ fun x => by rw [hp.mem_iff, hmD]
      have hnd : l'.Nodup := hp.symm.nodup hD
      rw [List.nodup_iff_pairwise_ne] at hnd
      exact (hs.and hnd).imp fun {a b} h => (ltP_sto.tri a b h.2).resolve_right h.1
    rw [this] at o'
    exact ⟨u, rfl, o', fun o e => by have := (fu o e).1; omega, x.but_ b' fun o e => by have := (fu o e).1; omega⟩
  have hz' : z < es.length := by omega
  refine rq.ldP hz' ?_
  obtain ⟨i, k, he, hiS, hkT⟩ := hmem z hz'
  refine newO_obj fun g2 o2 y2 l2 => ?_
  refine o2.stA fun g3 o3 b3 l3 => ?_
  have z3 : Ext h g3 := y2.but_ b3 (some_le (Nat.le_refl _))
  have hz3 := z3.len
  have hmp := mD.lt
  have hst : ((z : Int) + 1) = ((z + 1 : Nat) : Int) := by push_cast; rfl
  rw [he] at o3
  refine impl_pairs_rule2 _ _ X0 _ _ _ _ _ _ _ _ (fun u j g => ∃ (w : Nat) (D' : List (Int × Int)), j = w ∧ w ≤ 2 ∧ Ow g u 2 (pcs D') ∧ MpL (fun _ : Unit => .bool true) g h0.length (unitL D') ∧ D'.Nodup ∧ (∀ x, x ∈ D' ↔ x ∈ D ∨ (0 < w ∧ x = prOf S T ((i : Int), (k : Int)) 0) ∨ (1 < w ∧ x = prOf S T ((i : Int), (k : Int)) 2)) ∧ D'.length ≤ 2 * z + w ∧ (∀ o, u.o = some o → h1.length ≤ o ∧ q.o ≠ some o ∧ o ≠ h.length) ∧ Ext h0 g ∧ Rd g q 2 (pcs es) ∧ Obj g h.length (pc ((i : Int), (k : Int))) ∧ h.length < g.length) (fun _ j _ => (2 - j).toNat) ?_ _ _
    ⟨0, D, rfl, by omega, ou.ext z3, mD.ext z3, hD, fun x => by simp, by omega, fun o e => ⟨(fu o e).1, (fu o e).2, fun e2 => by have := ou.lt e; omega⟩, x.trans z3, rq.ext z3, o3, by omega⟩
  have hmD0 := hmD
  clear ou mD hmD fu hD o3 b3 o2
  rintro X2 u _ g ⟨w, D', rfl, hw, ou, mD, hD, hmD, hDl', fu, x', rq', og, hlg⟩ hY
  unfold impl_pairs_b2 impl_pairs_C2 impl_pairs_C1
  refine bif_dec (fun hj => ?_) (fun hj => ?_)
  · have hw' : w < 2 := by omega
    refine ⟨rfl, (sideN w : Int), by omega, ?_, ?_⟩
    · match w, hw' with
      | 0, _ => rfl
      | 1, _ => rfl
    refine slotK_in fun g1 y1 l1 => ?_
    have og1 := og.ext y1
    refine ix2 og1 0 (by omega) fun p2 hp2 => ?_
    have rS := rs.ext x'
    have rT := rt.ext x'
    refine rS.ixT (by show (0 : Int) ≤ (i : Int); omega) (by show (i : Int) < _; omega) fun p4 hp4 hr4 => ?_
    refine ⟨_, y1.range hr4, ?_⟩
    refine ix2 og1 1 (by omega) fun p6 hp6 => ?_
    refine rT.ixT (by show (0 : Int) ≤ (k : Int); omega) (by show (k : Int) < _; omega) fun p8 hp8 hr8 => ?_
    refine ⟨_, y1.range hr8, ?_⟩
    refine (pairOf_c (tat S (i : Int)) (tat T (k : Int)) (k := sideN w) (by unfold sideN; split <;> omega) g1).to ?_
    rintro _ g2 ⟨rfl, y2⟩
    have hy2 := y2.len
    refine newOat_obj (by omega) fun g4 o4 b4 l4 => ?_
    have y12 := y1.trans y2
    have y14 : Ext g g4 := y12.but_ b4 (some_le (by omega))
    have og4 := og.ext y14
    have og2 := og.ext y12
    refine ⟨by rw [y12.range hr8, y1.range hr8], by rw [hp6, cell_pc og2 1 (by omega), cell_pc og1 1 (by omega)], by rw [y12.range hr4, y1.range hr4], by rw [hp2, cell_pc og2 0 (by omega), cell_pc og1 0 (by omega)],
      by rw [y14.range hr8, y1.range hr8], by rw [hp6, cell_pc og4 1 (by omega), cell_pc og1 1 (by omega)], by rw [y14.range hr4, y1.range hr4], by rw [hp2, cell_pc og4 0 (by omega), cell_pc og1 0 (by omega)], ?_⟩
    have hpr : (sd (tat S (i : Int)) (sideN w), sd (tat T (k : Int)) (sideN w)) = prOf S T ((i : Int), (k : Int)) (sideN w) := rfl
    rw [hpr]
    generalize hpe : prOf S T ((i : Int), (k : Int)) (sideN w) = e
    refine o4.stA fun g5 o5 b5 l5 => ?_
    have y15 : Ext g g5 := y14.but_ b5 (some_le (by omega))
    refine o5.ldA rfl ⟨⟨_, rfl, rfl⟩, ?_⟩
    have hstw : ((w : Int) + 1) = ((w + 1 : Nat) : Int) := by push_cast; rfl
    have hmem' : ∀ x, (x ∈ D' ∨ x = e) ↔ x ∈ D ∨ (0 < w + 1 ∧ x = prOf S T ((i : Int), (k : Int)) 0) ∨ (1 < w + 1 ∧ x = prOf S T ((i : Int), (k : Int)) 2) := fun x => by
      rw [hmD, ← hpe]
      match w, hw' with
      | 0, _ => simp [sideN]
      | 1, _ => simp [sideN, or_assoc]
    refine (mD.ext y15).getB e ?_
    rw [w64_of (n := (w : Int) + 1) (by omega) (by omega)]
    refine bif_not (fun hb => ?_) (fun hb => ?_)
    · have hne : e ∉ D' := fun h => by rw [unitL_some.2 h] at hb; cases hb
      refine o5.ldA rfl ⟨⟨_, rfl, rfl⟩, ?_⟩
      refine (mD.ext y15).put (unitL_none.2 hne) () fun g6 m6 b6 l6 => ?_
      have hlk := (mD.ext y15).lt
      have hgl := mD.lt
      have o6 : Obj g6 (g.length + 12) (pc e) := o5.but b6 (fun e => by have := Option.some.inj e; omega)
      refine o6.ldA rfl ⟨rfl, ?_⟩
      have x6 : Ext h0 g6 := (x'.trans y15).but_ b6 (some_le (Nat.le_refl _))
      have ou6 := (ou.ext y15).but b6 (.inl fun e => by have := (fu _ e.symm).1; omega)
      refine push_pc (e := e) ou6 (by unfold lim; omega) fun u2 g7 ou2 b7 hu2 hln => ?_
      have hg6 : g6.length = g5.length := l6
      have hg5 : g5.length = g4.length := l5
      refine hY _ _ _ ⟨w + 1, D' ++ [e], hstw, by omega, ou2, ?_, ?_, fun x => ?_, by rw [List.length_append]; simp; omega, fun o eo => ?_, x6.but_ b7 fun o eo => by have := (fu o eo).1; omega, ?_, ?_, by omega⟩ (by omega)
      · have : unitL (D' ++ [e]) = unitL D' ++ [(e, ())] := by simp [unitL]
        rw [this]
        exact m6.but b7 (fun eo => by have := (fu _ eo).1; omega)
      · exact List.nodup_append.2 ⟨hD, by simp, fun a ha b hb => by rw [List.mem_singleton.1 hb]; exact fun e2 => hne (by rw [← e2]; exact ha)⟩
      · rw [← hmem', List.mem_append, List.mem_singleton]
      · rcases hu2 o eo with h' | h'
        · exact fu o h'
        · refine ⟨by omega, fun e2 => ?_, by omega⟩
          have := oq.lt e2
          omega
      · refine (rq'.ext y15).chg ((b6.chg (P := fun o => o = h0.length ∨ u.o = some o) fun o eo => .inl (Option.some.inj eo).symm).trans (b7.chg fun o eo => .inr eo)) ?_
        rintro o eo (h' | h')
        · have := fq o eo; omega
        · exact (fu o h').2.1 eo
      · exact ((og.ext y15).but b6 (fun e => by have := Option.some.inj e; omega)).but b7 (fun eo => (fu _ eo).2.2 rfl)
    · have hin : e ∈ D' := unitL_some.1 hb
      refine hY _ _ _ ⟨w + 1, D', hstw, by omega, ou.ext y15, mD.ext y15, hD, fun x => ?_, by omega, fun o eo => fu o eo, x'.trans y15, rq'.ext y15, og.ext y15, by have := y15.len; omega⟩ (by omega)
      rw [← hmem']
      exact ⟨.inl, fun h => h.elim id fun h => by rw [h]; exact hin⟩
  · rw [w64_of (n := (z : Int) + 1) (by omega) (by omega)]
    refine hX _ _ _ ⟨z + 1, D', hst, hz', ou, mD, hD, fun x => ?_, by omega, fun o e => ⟨(fu o e).1, (fu o e).2.1⟩, x', rq', by omega⟩ (by omega)
    rw [hmD, List.take_succ_eq_append_getElem hz', he, allP_app, hmD0]
    have : w = 2 := by omega
    subst this
    simp
end
end Go.Proofs.YtcoampecbpiecaaGreat.Cl

/- The tiles of a stack: the program's walk. No claim is stated here. -/
set_option linter.unusedVariables false
set_option linter.unusedSimpArgs false
namespace Go.Proofs.YtcoampecbpiecaaGreat.Cl
open Go
def idxL (P : List (Int × Int)) (n : Nat) : List ((Int × Int) × Int) := (List.range n).map fun i => (P.getD i (0, 0), (i : Int))
def numP (P : List (Int × Int)) (x : Int × Int) : Int := (lkP x (idxL P P.length)).getD 0
theorem idxL_succ (P : List (Int × Int)) (n : Nat) : idxL P (n + 1) = idxL P n ++ [(P.getD n (0, 0), (n : Int))] := by unfold idxL; rw [List.range_succ, List.map_append]; rfl
theorem lkP_app {β : Type} {k : Int × Int} : ∀ {L M : List ((Int × Int) × β)}, lkP k (L ++ M) = if (lkP k L).isSome then lkP k L else lkP k M
  | [], M => by simp [lkP]
  | e :: L, M => by
    simp only [List.cons_append, lkP]
    by_cases h : k = e.1
    · simp [h]
    · simp only [if_neg h, lkP_app (L := L) (M := M)]
theorem idxL_at {P : List (Int × Int)} (hn : P.Nodup) : ∀ (n : Nat), n ≤ P.length → ∀ x, (∀ j (hj : j < n) (hl : j < P.length), P[j] = x → lkP x (idxL P n) = some (j : Int)) ∧ ((∀ j (hj : j < n) (hl : j < P.length), P[j] ≠ x) → lkP x (idxL P n) = none)
  | 0, _, x => ⟨fun j hj => by omega, fun _ => rfl⟩
  | n + 1, h, x => by
    obtain ⟨ih1, ih2⟩ := idxL_at hn n (by omega) x
    have hg : P.getD n (0, 0) = P[n] := by rw [List.getD_eq_getElem?_getD, List.getElem?_eq_getElem (by omega)]; rfl
    rw [idxL_succ, lkP_app, hg]
    refine ⟨fun j hj hl e => ?_, fun hne => ?_⟩
    · by_cases hjn : j < n
      · rw [ih1 j hjn hl e]; rfl
      · have hjn : j = n := by omega
        subst hjn
        have hnone : lkP x (idxL P j) = none := ih2 fun i hi hl2 e2 => by
          have := (List.getElem_inj hn).1 (e2.trans e.symm)
          omega
        rw [hnone]
        simp [lkP, e]
    · rw [ih2 fun j hj hl => hne j (by omega) hl]
      simp only [Option.isSome_none, Bool.false_eq_true, if_false, lkP]
      rw [if_neg fun e => hne n (by omega) (by omega) e.symm]
theorem numP_at {P : List (Int × Int)} (hn : P.Nodup) {j : Nat} (hj : j < P.length) : numP P P[j] = (j : Int) := by
  unfold numP
  rw [(idxL_at hn P.length (Nat.le_refl _) P[j]).1 j hj hj rfl]; rfl
theorem prsP_pw (S T : List Tile) : (prsP S T).Pairwise ltP := pw_dsort ltP_sto _
theorem prsP_nodup (S T : List Tile) : (prsP S T).Nodup := by
  rw [List.nodup_iff_pairwise_ne]
  exact (prsP_pw S T).imp fun {a b} h => by intro e; subst e; exact ltP_sto.irr _ h
theorem prsP_len (S T : List Tile) : (prsP S T).length ≤ 2 * (stkI S T S.length).length := by
  refine Nat.le_trans (dsort_len _) ?_
  unfold allP
  generalize stkI S T S.length = es
  induction es with
  | nil => simp
  | cons e es ih => simp only [List.flatMap_cons, List.length_append, List.length_cons, List.length_nil]; omega
noncomputable def stile (S T : List Tile) (e : Int × Int) : Tile := (numP (prsP S T) (prOf S T e 0), sd (tat S e.1) 1, numP (prsP S T) (prOf S T e 2), sd (tat T e.2) 3)
noncomputable def stkT (S T : List Tile) : List Tile := (stkI S T S.length).map (stile S T)
section
variable {h0 : H} {s t : Sl} {S T : List Tile}
theorem stackTiles_c (rs : Rd h0 s 4 (tcs S)) (rt : Rd h0 t 4 (tcs T)) (hS : S.length ≤ 100000) (hT : T.length ≤ 16) :
    callV SP i_impl_stackTiles [.sl s, .sl t] h0 fun v h' => ∃ u, v = .tuple [.sl u, i64 ((prsP S T).length : Nat)] ∧ Ow h' u 4 (tcs (stkT S T)) ∧ Fr h0.length u ∧ Ext h0 h' := by
  have hsl := rs.tlen
  have htl := rt.tlen
  have hes := stkI_len S T S.length
  have hbnd : S.length * T.length ≤ 100000 * 16 := Nat.mul_le_mul hS hT
  have hpl := prsP_len S T
  have hnd := prsP_nodup S T
  apply impl_stackTiles_call
  unfold impl_stackTiles_main
  refine MpL.new (f := i64) fun h1 m1 x1 n1 => ?_
  refine (pairs_c (rs.ext x1) (rt.ext x1) hS hT).to ?_
  rintro q h2 ⟨oq, fq, x2⟩
  have X2 := x1.trans x2
  have hql := oq.rd.plen
  have X2l := X2.len
  refine impl_stackTiles_rule0 _ _ _ _ _ _ _ _ (fun i h => ∃ z : Nat, i = z ∧ z ≤ (prsP S T).length ∧ MpL i64 h h0.length (idxL (prsP S T) z) ∧ Ext h0 h ∧ Rd h q 2 (pcs (prsP S T))) (fun i _ => ((prsP S T).length - i).toNat) ?_ _ ⟨0, rfl, by omega, by simpa [idxL] using m1.ext x2, X2, oq.rd⟩
  rintro X0 _ h ⟨z, rfl, hz, mz, x, rq⟩ hX
  unfold impl_stackTiles_b0 impl_stackTiles_C0
  refine bif_dec (fun hi => ?_) (fun hi => ?_)
  · have hz' : z < (prsP S T).length := by omega
    refine rq.ldP hz' ?_
    refine newO_obj fun g1 o1 y1 l1 => ?_
    refine o1.stA fun g2 o2 b2 l2 => ?_
    have y2 : Ext h g2 := y1.but_ b2 (some_le (Nat.le_refl _))
    refine o2.ldA rfl ⟨⟨_, rfl, rfl⟩, ?_⟩
    have hnone : lkP (prsP S T)[z] (idxL (prsP S T) z) = none := (idxL_at hnd z (by omega) (prsP S T)[z]).2 fun j hj hl e => by
      have := (List.getElem_inj hnd).1 e
      omega
    refine (mz.ext y2).put hnone (z : Int) fun g3 m3 b3 l3 => ?_
    rw [w64_of (n := (z : Int) + 1) (by omega) (by omega)]
    refine hX _ _ ⟨z + 1, by push_cast; rfl, hz', ?_, (x.trans y2).but_ b3 (some_le (Nat.le_refl _)), (rq.ext y2).chg (b3.chg (P := fun o => o = h0.length) fun o eo => (Option.some.inj eo).symm) fun o eo h' => by have := fq o eo; omega⟩ (by omega)
    rw [idxL_succ]
    have hg : (prsP S T).getD z (0, 0) = (prsP S T)[z] := by rw [List.getD_eq_getElem?_getD, List.getElem?_eq_getElem hz']; rfl
    rw [hg]
    exact m3
  rw [show z = (prsP S T).length by omega] at mz
  refine newS_ow (by rfl) fun u h3 ou lu uo e3 => ?_
  have x3 : Ext h h3 := by rw [e3]; exact Ext.app _ _
  have X3 := x.trans x3
  have l3 : h3.length = h.length + 1 := by rw [e3]; simp
  have hmz := mz.lt
  refine (stacked_c (rs.ext X3) (rt.ext X3) hS hT).to ?_
  rintro w h4 ⟨ow, fw, x4⟩
  have X4 := X3.trans x4
  have hwl := ow.rd.plen
  have X3l := X3.len
  have hxl := x.len
  have x3l := x3.len
  clear hX
  generalize hE : stkI S T S.length = es at ow hwl hes
  have hmem : ∀ z (hz : z < es.length), ∃ i k : Nat, es[z] = ((i : Int), (k : Int)) ∧ i < S.length ∧ k < T.length := fun z hz => by
    obtain ⟨i, k, e, a, b, _⟩ := stkI_mem (S := S) (T := T) (z := S.length) (e := es[z]) (by rw [hE]; exact List.getElem_mem hz)
    exact ⟨i, k, e, a, b⟩
  refine impl_stackTiles_rule2 _ _ _ _ _ _ _ _ (fun u i h => ∃ z : Nat, i = z ∧ z ≤ es.length ∧ Ow h u 4 (tcs ((es.take z).map (stile S T))) ∧ (∀ o, u.o = some o → h0.length < o ∧ w.o ≠ some o) ∧ MpL i64 h h0.length (idxL (prsP S T) (prsP S T).length) ∧ Ext h0 h ∧ Rd h w 2 (pcs es) ∧ h4.length ≤ h.length) (fun _ i _ => (es.length - i).toNat) ?_ _ _
    ⟨0, rfl, by omega, by simpa [tcs] using ou.ext x4, fun o e => ⟨by rw [uo] at e; cases e; omega, fun e2 => by have := fw o e2; rw [uo] at e; cases e; omega⟩, mz.ext (x3.trans x4), X4, ow.rd, Nat.le_refl _⟩
  clear mz rq ou uo
  rintro X2 u _ h ⟨z, rfl, hz, ou, fu, mz, x, rw', h4l⟩ hX
  unfold impl_stackTiles_b2 impl_stackTiles_C2
  refine bif_dec (fun hi => ?_) (fun hi => ?_)
  rotate_left
  · rw [show z = es.length by omega, List.take_length] at ou
    refine ⟨u, by rw [hql], by unfold stkT; rw [hE]; exact ou, fun o e => by have := (fu o e).1; omega, x⟩
  have hz' : z < es.length := by omega
  obtain ⟨i, k, he, hiS, hkT⟩ := hmem z hz'
  refine rw'.ldP hz' ?_
  rw [he]
  refine newO_obj fun g1 o1 y1 l1 => ?_
  refine o1.stA fun g2 o2 b2 l2 => ?_
  have y2 : Ext h g2 := y1.but_ b2 (some_le (Nat.le_refl _))
  have hy2 := y2.len
  refine slotK_in fun g5 y5 l5 => ?_
  have o5 := o2.ext y5
  have y25 := y2.trans y5
  have rS := rs.ext (x.trans y2)
  have rT := rt.ext (x.trans y2)
  refine ix2 o5 0 (by omega) fun p6 hp6 => ?_
  refine rS.ixT (by show (0 : Int) ≤ (i : Int); omega) (by show (i : Int) < _; omega) fun p8 hp8 hr8 => ?_
  refine ⟨_, y5.range hr8, ?_⟩
  refine ix2 o5 1 (by omega) fun p10 hp10 => ?_
  refine rT.ixT (by show (0 : Int) ≤ (k : Int); omega) (by show (k : Int) < _; omega) fun p12 hp12 hr12 => ?_
  refine ⟨_, y5.range hr12, ?_⟩
  refine newOat_obj (by omega) fun g15 o15 b15 l15 => ?_
  have e15 : Ext g2 g15 := y5.but_ b15 (some_le (by omega))
  have p15 := o2.ext e15
  refine ⟨by rw [e15.range hr12, y5.range hr12], by rw [hp10, cell_pc p15 1 (by omega), cell_pc o5 1 (by omega)], by rw [e15.range hr8, y5.range hr8], by rw [hp6, cell_pc p15 0 (by omega), cell_pc o5 0 (by omega)], ?_⟩
  refine newOat_obj (by omega) fun g17 o17 b17 l17 => ?_
  have e17 : Ext g2 g17 := e15.but_ b17 (some_le (by omega))
  have p17 := o2.ext e17
  refine ⟨by rw [e17.range hr12, y5.range hr12], by rw [hp10, cell_pc p17 1 (by omega), cell_pc o5 1 (by omega)], by rw [e17.range hr8, y5.range hr8], by rw [hp6, cell_pc p17 0 (by omega), cell_pc o5 0 (by omega)], ?_⟩
  have o15' := o15.but b17 (fun e => by have := Option.some.inj e; omega)
  refine o15'.stA fun g18 q18 b18 l18 => ?_
  have e18 : Ext g2 g18 := e17.but_ b18 (some_le (by omega))
  have p18 := o2.ext e18
  refine ⟨by rw [e18.range hr12, y5.range hr12], by rw [hp10, cell_pc p18 1 (by omega), cell_pc o5 1 (by omega)], ?_⟩
  have o17' := o17.but b18 (fun e => by have := Option.some.inj e; omega)
  refine o17'.stA fun g19 q19 b19 l19 => ?_
  have e19 : Ext g2 g19 := e18.but_ b19 (some_le (by omega))
  have q18' := q18.but b19 (fun e => by have := Option.some.inj e; omega)
  refine q18'.ldA rfl ?_
  refine q19.ldA rfl ?_
  refine (pairOf_c (tat S (i : Int)) (tat T (k : Int)) (k := 0) (by omega) g19).to ?_
  rintro _ g22 ⟨rfl, e22⟩
  refine ⟨⟨_, rfl, rfl⟩, ?_⟩
  have E22 := e19.trans e22
  have E0 := y2.trans E22
  have a22 := q18'.ext e22
  have c22 := q19.ext e22
  refine (mz.ext E0).getI (prOf S T ((i : Int), (k : Int)) 0) ?_
  refine ix4 a22 1 (by omega) fun p25 hp25 => ?_
  refine ⟨by rw [hp25, cell_tc a22 1 (by omega), cell_tc q18' 1 (by omega)], ?_⟩
  refine a22.ldA rfl ⟨(show range g19 (some (g2.length + 10)) 4 0 4 = range g22 (some (g2.length + 10)) 4 0 4 by rw [a22.rangeE (n := 4) rfl, q18'.rangeE (n := 4) rfl]), ?_⟩
  refine c22.ldA rfl ⟨(show range g19 (some (g2.length + 11)) 4 0 4 = range g22 (some (g2.length + 11)) 4 0 4 by rw [c22.rangeE (n := 4) rfl, q19.rangeE (n := 4) rfl]), ?_⟩
  refine (pairOf_c (tat S (i : Int)) (tat T (k : Int)) (k := 2) (by omega) g22).to ?_
  rintro _ g29 ⟨rfl, e29⟩
  have a29 := a22.ext e29
  have c29 := c22.ext e29
  have E29 := E0.trans e29
  refine ⟨by rw [hp25, cell_tc a29 1 (by omega), cell_tc a22 1 (by omega)], fun r hr => ?_, ⟨_, rfl, rfl⟩, ?_⟩
  · cases hr
    rw [(mz.ext E29).at_, (mz.ext E0).at_]
  refine (mz.ext E29).getI (prOf S T ((i : Int), (k : Int)) 2) ?_
  refine ix4 c29 3 (by omega) fun p32 hp32 => ?_
  refine ⟨by rw [hp32, cell_tc c29 3 (by omega), cell_tc c22 3 (by omega)], by rw [hp32, cell_tc c29 3 (by omega), cell_tc q19 3 (by omega)], rfl, ?_⟩
  have hE29 := E29.len
  refine push_tc (t := stile S T ((i : Int), (k : Int))) (ou.ext E29) (by rw [List.length_map, List.length_take]; unfold lim; omega) fun u2 g30 ou2 b30 hu2 hln => ?_
  rw [w64_of (n := (z : Int) + 1) (by omega) (by omega)]
  refine hX _ _ _ ⟨z + 1, by push_cast; rfl, hz', ?_, fun o eo => ?_, (mz.ext E29).but b30 (fun e => by have := (fu _ e).1; omega), (x.trans E29).but_ b30 fun o eo => by have := (fu o eo).1; omega, (rw'.ext E29).chg (b30.chg (P := fun o => u.o = some o) fun o eo => eo) fun o eo h' => (fu o h').2 eo, by omega⟩ (by omega)
  · rw [List.take_succ_eq_append_getElem hz', List.map_append, he]
    exact ou2
  · rcases hu2 o eo with h' | h'
    · exact fu o h'
    · refine ⟨by have := mz.lt; omega, fun e2 => ?_⟩
      have := ow.lt e2
      omega
end
end Go.Proofs.YtcoampecbpiecaaGreat.Cl

/- Stacks: the program's StackSets. No claim is stated here. -/
set_option linter.unusedVariables false
set_option linter.unusedSimpArgs false
namespace Go.Proofs.YtcoampecbpiecaaGreat.Cl
open Go
noncomputable def stkC (c d : Int) (S T : List Tile) : Int := mxI (mxI ((prsP S T).length : Nat) c) d
open Classical in
/-- The stack, if it is small enough. -/
noncomputable def stkF (c d : Int) (S T : List Tile) : Int × List Tile := if fitS (stkC c d S T) (stkT S T) then (stkC c d S T, dsT (stkT S T)) else (0, [])
open Classical in
noncomputable def stkE (c d : Int) (S T : List Tile) : Int := if fitS (stkC c d S T) (stkT S T) then 0 else 3
section
variable {h0 : H} {s t : Sl} {S T : List Tile} {c d : Int}
theorem impl_stack_c (rs : Rd h0 s 4 (tcs S)) (rt : Rd h0 t 4 (tcs T)) (hS : S.length ≤ 16) (hT : T.length ≤ 16) :
    callV SP i_impl_stack [.agg (SetC c s), .agg (SetC d t)] h0 fun v h' => ∃ u, v = .tuple [.agg (SetC (stkF c d S T).1 u), i64 (stkE c d S T)] ∧ Pre h' u 4 (tcs (stkF c d S T).2) ∧ Fr h0.length u ∧ Ext h0 h' := by
  have hes := stkI_len S T S.length
  have hbnd : S.length * T.length ≤ 16 * 16 := Nat.mul_le_mul hS hT
  apply impl_stack_call
  unfold impl_stack_main
  refine newK_obj fun h1 o1 x1 n1 => ?_
  refine newK_obj fun h2 o2 x2 n2 => ?_
  refine newO_obj fun h3 o3 x3 n3 => ?_
  have p1 := o1.ext (x2.trans x3)
  have p2 := o2.ext x3
  have X := (x1.trans x2).trans x3
  refine isPt_in (p1.ldS rfl rfl ?_)
  refine isPt_in (p2.ldS rfl rfl ?_)
  refine (stackTiles_c (rs.ext X) (rt.ext X) (by omega) hT).to ?_
  rintro _ h4 ⟨u, rfl, ou, fu, x4⟩
  refine ⟨_, rfl, _, rfl, _, rfl, _, rfl, ?_⟩
  refine isPt_in ((p1.ext x4).ldI rfl rfl ?_)
  refine isPt_in ((p2.ext x4).ldI rfl rfl ?_)
  have hlen : (stkT S T).length ≤ 1000000 := by unfold stkT; rw [List.length_map]; omega
  refine (limited_c (c := stkC c d S T) ou.rd hlen).to ?_
  rintro _ h5 ⟨w, rfl, hw, x5⟩
  refine ⟨_, rfl, _, rfl, _, rfl, _, rfl, ?_⟩
  have p3 := o3.ext (x4.trans x5)
  have XX := X.trans (x4.trans x5)
  have hx4 := x4.len
  by_cases hf : fitS (stkC c d S T) (stkT S T)
  · simp only [if_pos hf]
    obtain ⟨pw, fw⟩ := hw hf
    refine p3.stA fun h6 o6 b6 n6 => ?_
    refine o6.ldA rfl ⟨w, ?_, ?_, fw.le (by have := X.len; omega), XX.but_ b6 (some_le (by have := x1.len; have := x2.len; omega))⟩
    · unfold stkF stkE; rw [if_pos hf, if_pos hf]; rfl
    · unfold stkF; rw [if_pos hf]
      exact pw.but b6 (fun i ei e => by have := fw _ ei; have := Option.some.inj e; omega)
  · simp only [if_neg hf]
    refine p3.stA fun h6 o6 b6 n6 => ?_
    refine o6.ldA rfl ⟨Sl.nil, ?_, ?_, Fr.nil _, XX.but_ b6 (some_le (by have := x1.len; have := x2.len; omega))⟩
    · unfold stkF stkE; rw [if_neg hf, if_neg hf]; rfl
    · unfold stkF; rw [if_neg hf]; exact Pre.nil _ _
theorem areSets_c {u : Sl} (ru : Rd h0 u 2 (SetC c s ++ SetC d t)) (rs : Rd h0 s 4 (tcs S)) (rt : Rd h0 t 4 (tcs T)) (hS : S.length < 4000000000000000000) (hT : T.length < 4000000000000000000) :
    callB SP i_impl_areSets [.sl u] h0 fun b h' => (b = true ↔ setOK c S ∧ setOK d T) ∧ Ext h0 h' := by
  have hul : u.len = 2 := by have := ru.len; simp [SetC] at this; omega
  have one : ∀ {g : H} {c : Int} {s : Sl} {S : List Tile}, Rd g s 4 (tcs S) → S.length < 4000000000000000000 → callB SP i_impl_areSets_1 [.agg (SetC c s)] g fun b h' => (b = true ↔ ¬ setOK c S) ∧ Ext g h' := fun {g c s S} r hl => by
    apply impl_areSets_1_call
    unfold impl_areSets_1_main
    refine newK_obj fun h1 o1 x1 n1 => ?_
    refine o1.ldA rfl ?_
    refine (IsSet_c (c := c) (r.ext x1) hl).to ?_
    rintro b h2 ⟨hb, x2⟩
    refine ⟨_, rfl, ?_, x1.trans x2⟩
    rw [← hb]
    cases b <;> simp
  have idx : callI SP .i64 i_slices_IndexFunc_s_impl_Set_impl_Set_ [.sl u, .func i_impl_areSets_1 []] h0 fun n h' => ((0 ≤ n) ↔ ¬ (setOK c S ∧ setOK d T)) ∧ Ext h0 h' := by
    apply slices_IndexFunc_s_impl_Set_impl_Set__call
    unfold slices_IndexFunc_s_impl_Set_impl_Set__main
    refine slices_IndexFunc_s_impl_Set_impl_Set__rule0 _ _ _ _ _ (fun i h => ∃ z : Nat, i = z ∧ z ≤ 2 ∧ Ext h0 h ∧ (0 < z → setOK c S) ∧ (1 < z → setOK d T)) (fun i _ => (2 - i).toNat) ?_ _ ⟨0, rfl, by omega, Ext.refl _, fun h => by omega, fun h => by omega⟩
    rintro X _ h ⟨z, rfl, hz, x, z0, z1⟩ hX
    unfold slices_IndexFunc_s_impl_Set_impl_Set__b0 slices_IndexFunc_s_impl_Set_impl_Set__C0
    refine bif_dec (fun hi => ?_) (fun hi => ⟨_, rfl, ⟨fun h => by omega, fun h => absurd ⟨z0 (by omega), z1 (by omega)⟩ h⟩, x⟩)
    have hz2 : z < 2 := by omega
    refine (ru.ext x).ldA (by omega) (by omega) (via_func ?_)
    rw [w64_of (n := (z : Int) + 1) (by omega) (by omega)]
    match z, hz2 with
    | 0, _ =>
      refine (one (c := c) (s := s) (rs.ext x) hS).to ?_
      rintro b h2 ⟨hb, x2⟩
      refine bif_b (fun hq => ⟨_, rfl, ⟨fun _ h => hb.1 hq h.1, fun _ => by omega⟩, x.trans x2⟩) (fun hq => ?_)
      exact hX _ _ ⟨1, rfl, by omega, x.trans x2, fun _ => Classical.byContradiction fun h => (by rw [hb.2 h] at hq; cases hq), fun h => by omega⟩ (by omega)
    | 1, _ =>
      refine (one (c := d) (s := t) (rt.ext x) hT).to ?_
      rintro b h2 ⟨hb, x2⟩
      refine bif_b (fun hq => ⟨_, rfl, ⟨fun _ h => hb.1 hq h.2, fun _ => by omega⟩, x.trans x2⟩) (fun hq => ?_)
      exact hX _ _ ⟨2, rfl, by omega, x.trans x2, fun _ => z0 (by omega), fun _ => Classical.byContradiction fun h => (by rw [hb.2 h] at hq; cases hq)⟩ (by omega)
  apply impl_areSets_call
  unfold impl_areSets_main
  have cf : callB SP i_slices_ContainsFunc_s_impl_Set_impl_Set_ [.sl u, .func i_impl_areSets_1 []] h0 fun b h' => (b = true ↔ ¬ (setOK c S ∧ setOK d T)) ∧ Ext h0 h' := by
    apply slices_ContainsFunc_s_impl_Set_impl_Set__call
    unfold slices_ContainsFunc_s_impl_Set_impl_Set__main
    refine idx.to ?_
    rintro n h' ⟨hn, x⟩
    exact ⟨_, rfl, by rw [decide_eq_true_eq, ← hn], x⟩
  refine cf.to ?_
  rintro b h' ⟨hb, x⟩
  refine ⟨_, rfl, ?_, x⟩
  cases b
  · exact ⟨fun _ => Classical.byContradiction fun h => (by have := hb.2 h; cases this), fun _ => rfl⟩
  · exact ⟨fun h => (by cases h), fun h => absurd h (hb.1 rfl)⟩
open Classical in
noncomputable def F_StackSets_0 (c : Int) (S : List Tile) (d : Int) (T : List Tile) : Int × List Tile := if setOK c S ∧ setOK d T then stkF c d S T else (0, [])
open Classical in
noncomputable def F_StackSets_1 (c : Int) (S : List Tile) (d : Int) (T : List Tile) : Int := if setOK c S ∧ setOK d T then stkE c d S T else 1
theorem impl_StackSets_c (rs : Rd h0 s 4 (tcs S)) (rt : Rd h0 t 4 (tcs T)) (hS : S.length ≤ 1048576) (hT : T.length ≤ 1048576) :
    callV SP i_impl_StackSets [.agg (SetC c s), .agg (SetC d t)] h0 fun v h' => ∃ u, v = .tuple [.agg (SetC (F_StackSets_0 c S d T).1 u), i64 (F_StackSets_1 c S d T)] ∧ Pre h' u 4 (tcs (F_StackSets_0 c S d T).2) ∧ Fr h0.length u ∧ Ext h0 h' := by
  apply impl_StackSets_call
  unfold impl_StackSets_main
  refine newK_obj fun h1 o1 x1 n1 => ?_
  refine newK_obj fun h2 o2 x2 n2 => ?_
  refine newO_obj fun h3 o3 x3 n3 => ?_
  have p1 := o1.ext (x2.trans x3)
  have p2 := o2.ext x3
  have X := (x1.trans x2).trans x3
  refine p1.ldA rfl ?_
  refine p2.ldA rfl ⟨rfl, rfl, ?_⟩
  refine newS_ow (by rfl) fun q h4 oq lq qo e4 => ?_
  have x4 : Ext h3 h4 := by rw [e4]; exact Ext.app _ _
  have X4 := X.trans x4
  refine (areSets_c (c := c) (d := d) (s := s) (t := t) oq.rd (rs.ext X4) (rt.ext X4) (by omega) (by omega)).to ?_
  rintro b h5 ⟨hb, x5⟩
  have X5 := X4.trans x5
  have p3 := o3.ext (x4.trans x5)
  have hx1 := x1.len
  have hx2 := x2.len
  refine bif_not (fun hq => ?_) (fun hq => ?_)
  · have hno : ¬ (setOK c S ∧ setOK d T) := fun h => by rw [hb.2 h] at hq; cases hq
    refine p3.stA fun h6 o6 b6 n6 => ?_
    refine o6.ldA rfl ⟨Sl.nil, ?_, ?_, Fr.nil _, X5.but_ b6 (some_le (by omega))⟩
    · unfold F_StackSets_0 F_StackSets_1; rw [if_neg hno, if_neg hno]; rfl
    · unfold F_StackSets_0; rw [if_neg hno]; exact Pre.nil _ _
  · have hyes := hb.1 hq
    refine (p1.ext (x4.trans x5)).ldA rfl ?_
    refine (p2.ext (x4.trans x5)).ldA rfl ?_
    refine (impl_stack_c (c := c) (d := d) (rs.ext X5) (rt.ext X5) hyes.1.2.1 hyes.2.2.1).to ?_
    rintro _ h6 ⟨w, rfl, pw, fw, x6⟩
    refine ⟨_, rfl, _, rfl, _, rfl, _, rfl, ?_⟩
    have hx5 := X5.len
    have hx45 := (x4.trans x5).len
    refine (p3.ext x6).stA fun h7 o7 b7 n7 => ?_
    refine o7.ldA rfl ⟨w, ?_, ?_, fw.le hx5, (X5.trans x6).but_ b7 (some_le (by omega))⟩
    · unfold F_StackSets_0 F_StackSets_1; rw [if_pos hyes, if_pos hyes]
    · unfold F_StackSets_0; rw [if_pos hyes]
      exact pw.but b7 (fun i ei e => by have := fw _ ei; have := Option.some.inj e; omega)
end
end Go.Proofs.YtcoampecbpiecaaGreat.Cl

/- The reference's stacks. No claim is stated here. -/
set_option linter.unusedVariables false
set_option linter.unusedSimpArgs false
namespace Go.Proofs.YtcoampecbpiecaaGreat.Cl
open Go
theorem setOK.side {c : Int} {ts : List Tile} (h : setOK c ts) {j k : Nat} (hk : k < 4) (hj : j < ts.length) : 0 ≤ sd (tat ts (j : Int)) k ∧ sd (tat ts (j : Int)) k < c := by
  have := (h.2.2 j hj).1
  unfold tileok at this
  simp only [Bool.and_eq_true, decide_eq_true_eq] at this
  have hk' : k = 0 ∨ k = 1 ∨ k = 2 ∨ k = 3 := by omega
  rcases hk' with rfl | rfl | rfl | rfl
  · show 0 ≤ (tat ts j).1 ∧ (tat ts j).1 < c; omega
  · show 0 ≤ (tat ts j).2.1 ∧ (tat ts j).2.1 < c; omega
  · show 0 ≤ (tat ts j).2.2.1 ∧ (tat ts j).2.2.1 < c; omega
  · show 0 ≤ (tat ts j).2.2.2 ∧ (tat ts j).2.2.2 < c; omega
/-- A pair as one number. -/
def cdP (e : Int × Int) : Int := 16 * e.1 + e.2
def SmallP (e : Int × Int) : Prop := 0 ≤ e.2 ∧ e.2 < 16
theorem cdP_lt {a b : Int × Int} (ha : SmallP a) (hb : SmallP b) (h : ltP a b) : cdP a < cdP b := by
  obtain ⟨a1, a2⟩ := a
  obtain ⟨b1, b2⟩ := b
  unfold ltP ltL at h
  simp only [cmpL] at h
  unfold cdP SmallP at *
  simp only at *
  by_cases h1 : a1 < b1
  · omega
  · rw [if_neg h1] at h
    by_cases h2 : a1 > b1
    · rw [if_pos h2] at h; omega
    · rw [if_neg h2] at h
      by_cases h3 : a2 < b2
      · omega
      · rw [if_neg h3] at h
        by_cases h4 : a2 > b2
        · rw [if_pos h4] at h; omega
        · rw [if_neg h4] at h; omega
theorem cdP_inj {a b : Int × Int} (ha : SmallP a) (hb : SmallP b) (h : cdP a = cdP b) : a = b := Classical.byContradiction fun hne => by
  rcases ltP_sto.tri a b hne with h1 | h1
  · have := cdP_lt ha hb h1; omega
  · have := cdP_lt hb ha h1; omega
section
variable {S T : List Tile}
theorem allP_small (hT : ∀ k j : Nat, k < T.length → j < 4 → 0 ≤ sd (tat T (k : Int)) j ∧ sd (tat T (k : Int)) j < 16) : ∀ e ∈ allP S T (stkI S T S.length), SmallP e := by
  intro e he
  unfold allP at he
  obtain ⟨d, hd, he⟩ := List.mem_flatMap.1 he
  obtain ⟨i, k, rfl, hi, hk, _⟩ := stkI_mem hd
  simp only [List.mem_cons, List.not_mem_nil, or_false] at he
  rcases he with rfl | rfl
  · exact hT k 0 hk (by omega)
  · exact hT k 2 hk (by omega)
theorem prsP_mem {e : Int × Int} : e ∈ prsP S T ↔ e ∈ allP S T (stkI S T S.length) := mem_dsort
/-- The reference's list of pairs. -/
theorem codes_eq (hs : ∀ e ∈ allP S T (stkI S T S.length), SmallP e) {Q : List Int} (hq : Asc Q) (hm : ∀ x, x ∈ Q ↔ x ∈ (allP S T (stkI S T S.length)).map cdP) : Q = (prsP S T).map cdP := by
  refine asc_ext hq ?_ fun x => by
    rw [hm, List.mem_map, List.mem_map]
    exact ⟨fun ⟨e, h, k⟩ => ⟨e, prsP_mem.2 h, k⟩, fun ⟨e, h, k⟩ => ⟨e, prsP_mem.1 h, k⟩⟩
  show List.Pairwise _ _
  rw [List.pairwise_map]
  refine (prsP_pw S T).imp_of_mem fun {a b} ha hb h => cdP_lt (hs a (prsP_mem.1 ha)) (hs b (prsP_mem.1 hb)) h
theorem find_num (hs : ∀ e ∈ allP S T (stkI S T S.length), SmallP e) {e : Int × Int} (he : e ∈ allP S T (stkI S T S.length)) {i : Int} (h : (∃ j : Nat, i = j ∧ ((prsP S T).map cdP)[j]? = some (cdP e)) ∨ (cdP e ∉ (prsP S T).map cdP ∧ i = -1)) : i = numP (prsP S T) e := by
  rcases h with ⟨j, rfl, hj⟩ | ⟨hn, _⟩
  · rw [List.getElem?_map] at hj
    cases hq : (prsP S T)[j]? with
    | none => rw [hq] at hj; cases hj
    | some a =>
      rw [hq] at hj
      simp only [Option.map_some, Option.some.injEq] at hj
      obtain ⟨hlt, rfl⟩ := List.getElem?_eq_some_iff.1 hq
      have := cdP_inj (hs _ (prsP_mem.1 (List.getElem_mem hlt))) (hs e he) hj
      rw [← this, numP_at (prsP_nodup S T) hlt]
  · exact absurd (List.mem_map.2 ⟨e, prsP_mem.2 he, rfl⟩) hn
theorem allP_mem {i k : Nat} (hi : i < S.length) (hk : k < T.length) (h : sd (tat S (i : Int)) 3 = sd (tat T (k : Int)) 1) : prOf S T ((i : Int), (k : Int)) 0 ∈ allP S T (stkI S T S.length) ∧ prOf S T ((i : Int), (k : Int)) 2 ∈ allP S T (stkI S T S.length) := by
  have hm : ((i : Int), (k : Int)) ∈ stkI S T S.length := by
    unfold stkI stkR
    refine List.mem_flatMap.2 ⟨i, List.mem_range.2 hi, List.mem_flatMap.2 ⟨k, List.mem_range.2 hk, ?_⟩⟩
    rw [if_pos h]; simp
  unfold allP
  exact ⟨List.mem_flatMap.2 ⟨_, hm, by simp⟩, List.mem_flatMap.2 ⟨_, hm, by simp⟩⟩
end
section
variable {h0 : H} {s t : Sl} {S T : List Tile} {c d : Int}
theorem push2I {h : H} {u : Sl} {l : List Int} {x y : Int} (r : Ow h u 1 (ic l)) (hl : (l.length : Int) + 2 ≤ lim) {K : Sl → H → Prop}
    (hk : ∀ u' h', Ow h' u' 1 (ic (l ++ [x, y])) → But u.o h h' → (∀ o, u'.o = some o → u.o = some o ∨ h.length ≤ o) → h.length ≤ h'.length → K u' h') : newS 2 1 [.int .i64 x, .int .i64 y] h fun t h1 => app u t 1 h1 K := by
  refine newS_ow (by rfl) fun t h1 ot tl to e1 => ?_
  have e1' : Ext h h1 := by rw [e1]; exact Ext.app _ _
  have hln := e1'.len
  have hsl := r.rd.ilen
  refine app_ow (by omega) (r.ext e1') ot.rd (by rw [tl, hsl]; exact_mod_cast hl) fun s' h' o' ln b k1 k2 => hk s' h' (by rw [ic_app]; exact o') ((e1'.but _).trans b) (fun o e => ?_) (Nat.le_trans hln b.1)
  cases hq : u.o with
  | none => have := k2 hq o e; exact .inr (by omega)
  | some p => rw [k1 p hq] at e; exact .inl e
theorem l04Pairs_c (rs : Rd h0 s 4 (tcs S)) (rt : Rd h0 t 4 (tcs T)) (hS : setOK c S) (hT : setOK d T) :
    callS SP i_spec_l04Pairs [.agg (SetC c s), .agg (SetC d t)] h0 fun u h' => Rd h' u 1 (ic ((prsP S T).map cdP)) ∧ Ext h0 h' := by
  have hsl := rs.tlen
  have htl := rt.tlen
  have hS16 := hS.2.1
  have hT16 := hT.2.1
  have hc6 := hS.1.2
  have hd6 := hT.1.2
  have hsm : ∀ e ∈ allP S T (stkI S T S.length), SmallP e := allP_small fun k j hk hj => by have := hT.side hj hk; omega
  apply spec_l04Pairs_call
  unfold spec_l04Pairs_main
  refine newK_obj fun h1 o1 x1 n1 => ?_
  refine newK_obj fun h2 o2 x2 n2 => ?_
  refine newS_ow (by rfl) fun u h3 ou lu uo e3 => ?_
  have x3 : Ext h2 h3 := by rw [e3]; exact Ext.app _ _
  have n3 : h3.length = h2.length + 1 := by rw [e3]; simp
  have X3 := (x1.trans x2).trans x3
  refine spec_l04Pairs_rule0 _ _ _ _ (fun u i h => ∃ z : Nat, i = z ∧ z ≤ S.length ∧ Ow h u 1 (ic ((allP S T (stkI S T z)).map cdP)) ∧ Fr h2.length u ∧ Ext h2 h) (fun _ i _ => (S.length - i).toNat) ?_ _ _
    ⟨0, rfl, by omega, by simpa [stkI, allP, ic] using ou, fun o e => by rw [uo] at e; cases e; exact Nat.le_refl _, x3⟩
  rintro X0 u _ h ⟨z, rfl, hz, ou, fu, x⟩ hX
  unfold spec_l04Pairs_b0 spec_l04Pairs_C0
  have p2 := o2.ext x
  have p1 := o1.ext (x2.trans x)
  have XX := (x1.trans x2).trans x
  refine isPt_in (p1.ldS rfl rfl ?_)
  have hlenI := stkI_len S T z
  have hzb : z * T.length ≤ 16 * 16 := Nat.mul_le_mul (by omega) hT16
  have hall : ∀ es : List (Int × Int), (allP S T es).length = 2 * es.length := fun es => by
    induction es with
    | nil => rfl
    | cons e es ih => unfold allP at *; simp only [List.flatMap_cons, List.length_append, List.length_cons, List.length_nil, ih]; omega
  refine bif_dec (fun hi => ?_) (fun hi => ?_)
  rotate_left
  · have hu := ou.rd.ilen
    rw [show z = S.length by omega] at ou
    have hul : ((allP S T (stkI S T S.length)).map cdP).length ≤ 1000 := by
      rw [List.length_map, hall]
      have := stkI_len S T S.length
      have : S.length * T.length ≤ 16 * 16 := Nat.mul_le_mul hS16 hT16
      omega
    refine (sortedD_c _ _ u h (Nat.le_refl _) (by omega) ou.rd).to ?_
    rintro v h' ⟨Q, rQ, aQ, mQ, _, _, x'⟩
    exact ⟨v, rfl, by rw [← codes_eq hsm aQ mQ]; exact rQ, XX.trans x'⟩
  have hz' : z < S.length := by omega
  refine spec_l04Pairs_rule2 _ _ X0 _ _ _ (fun u k g => ∃ w : Nat, k = w ∧ w ≤ T.length ∧ Ow g u 1 (ic ((allP S T (stkI S T z ++ stkR S T z w)).map cdP)) ∧ Fr h2.length u ∧ Ext h2 g) (fun _ k _ => (T.length - k).toNat) ?_ _ _
    ⟨0, rfl, by omega, by simpa [stkR] using ou, fu, x⟩
  clear ou fu x p1 p2 XX
  rintro X2 u _ g ⟨w, rfl, hw, ou, fu, x⟩ hY
  unfold spec_l04Pairs_b2 spec_l04Pairs_C2 spec_l04Pairs_C1
  have p2 := o2.ext x
  have p1 := o1.ext (x2.trans x)
  have XX := (x1.trans x2).trans x
  have rS := rs.ext XX
  have rT := rt.ext XX
  refine isPt_in (p2.ldS rfl rfl ?_)
  refine bif_dec (fun hj => ?_) (fun hj => ?_)
  rotate_left
  · rw [w64_of (n := (z : Int) + 1) (by omega) (by omega)]
    refine hX _ _ _ ⟨z + 1, by push_cast; rfl, hz', ?_, fu, x⟩ (by omega)
    rw [stkI_succ, show T.length = w by omega]
    exact ou
  have hw' : w < T.length := by omega
  refine isPt_in (p1.ldS rfl rfl ?_)
  refine rS.sideG (by omega) (by omega) (by omega) (by omega) ?_
  refine isPt_in (p2.ldS rfl rfl ?_)
  refine rT.sideG (by omega) (by omega) (by omega) (by omega) ?_
  rw [w64_of (n := (w : Int) + 1) (by omega) (by omega)]
  have hst : ((w : Int) + 1) = ((w + 1 : Nat) : Int) := by push_cast; rfl
  have hl1 := stkR_len S T z w
  refine bif_eq (fun hq => ?_) (fun hq => ?_)
  · refine isPt_in (p1.ldS rfl rfl ?_)
    refine rS.sideG (by omega) (by omega) (by omega) (by omega) ?_
    refine isPt_in (p2.ldS rfl rfl ?_)
    refine rT.sideG (by omega) (by omega) (by omega) (by omega) ?_
    refine isPt_in (p1.ldS rfl rfl ?_)
    refine rS.sideG (by omega) (by omega) (by omega) (by omega) ?_
    refine isPt_in (p2.ldS rfl rfl ?_)
    refine rT.sideG (by omega) (by omega) (by omega) (by omega) ?_
    have a0 := hS.side (j := z) (k := 0) (by omega) hz'
    have a2 := hS.side (j := z) (k := 2) (by omega) hz'
    have b0 := hT.side (j := w) (k := 0) (by omega) hw'
    have b2 := hT.side (j := w) (k := 2) (by omega) hw'
    show newS 2 1 [.int .i64 (w64 (w64 (16 * sd (tat S (z : Int)) 0) + sd (tat T (w : Int)) 0)), .int .i64 (w64 (w64 (16 * sd (tat S (z : Int)) 2) + sd (tat T (w : Int)) 2))] g _
    rw [w64_of (n := 16 * sd (tat S (z : Int)) 0) (by omega) (by omega), w64_of (n := 16 * sd (tat S (z : Int)) 2) (by omega) (by omega), w64_of (n := 16 * sd (tat S (z : Int)) 0 + _) (by omega) (by omega), w64_of (n := 16 * sd (tat S (z : Int)) 2 + _) (by omega) (by omega)]
    refine push2I ou (by rw [List.length_map, hall, List.length_append]; unfold lim; omega) fun u2 g3 ou2 b3 hu2 hln => ?_
    refine hY _ _ _ ⟨w + 1, hst, hw', ?_, fu.push (h := g) (by have := x.len; omega) hu2, x.but_ b3 fun o e => fu o e⟩ (by omega)
    rw [stkR_succ, if_pos (show sd (tat S (z : Int)) 3 = sd (tat T (w : Int)) 1 from hq), ← List.append_assoc, allP_app, List.map_append]
    exact ou2
  · refine hY _ _ _ ⟨w + 1, hst, hw', ?_, fu, x⟩ (by omega)
    rw [stkR_succ, if_neg (show ¬ sd (tat S (z : Int)) 3 = sd (tat T (w : Int)) 1 from hq), List.append_nil]
    exact ou
end
end Go.Proofs.YtcoampecbpiecaaGreat.Cl

/- The reference's StackSets. No claim is stated here. -/
set_option linter.unusedVariables false
set_option linter.unusedSimpArgs false
namespace Go.Proofs.YtcoampecbpiecaaGreat.Cl
open Go
section
variable {h0 : H} {s t q : Sl} {S T : List Tile} {c d : Int}
theorem l04Tile_c (hS : setOK c S) (hT : setOK d T) {i k : Nat} (hi : i < S.length) (hk : k < T.length) (hst : sd (tat S (i : Int)) 3 = sd (tat T (k : Int)) 1) (rq : Rd h0 q 1 (ic ((prsP S T).map cdP))) :
    callA SP i_spec_l04Tile [.agg (tc (tat S (i : Int))), .agg (tc (tat T (k : Int))), .sl q] h0 fun cs h' => cs = tc (stile S T ((i : Int), (k : Int))) ∧ Ext h0 h' := by
  have hsm : ∀ e ∈ allP S T (stkI S T S.length), SmallP e := allP_small fun k j hk hj => by have := hT.side hj hk; have := hT.1.2; omega
  have hasc : Asc ((prsP S T).map cdP) := by
    show List.Pairwise _ _
    rw [List.pairwise_map]
    exact (prsP_pw S T).imp_of_mem fun {a b} ha hb h => cdP_lt (hsm a (prsP_mem.1 ha)) (hsm b (prsP_mem.1 hb)) h
  have hlen : ((prsP S T).map cdP).length ≤ 1000000 := by
    rw [List.length_map]
    have h1 := prsP_len S T
    have h2 := stkI_len S T S.length
    have h3 : S.length * T.length ≤ 16 * 16 := Nat.mul_le_mul hS.2.1 hT.2.1
    omega
  obtain ⟨m0, m2⟩ := allP_mem hi hk hst
  have hc6 := hS.1.2
  have hd6 := hT.1.2
  have a0 := hS.side (j := i) (k := 0) (by omega) hi
  have a2 := hS.side (j := i) (k := 2) (by omega) hi
  have b0 := hT.side (j := k) (k := 0) (by omega) hk
  have b2 := hT.side (j := k) (k := 2) (by omega) hk
  apply spec_l04Tile_call
  unfold spec_l04Tile_main
  refine newK_obj fun h1 o1 x1 n1 => ?_
  refine newK_obj fun h2 o2 x2 n2 => ?_
  refine newO_obj fun h3 o3 x3 n3 => ?_
  have p1 := o1.ext (x2.trans x3)
  have p2 := o2.ext x3
  have X := (x1.trans x2).trans x3
  have rq3 := rq.ext X
  refine ix4 p1 0 (by omega) fun p6 hp6 => ?_
  refine ix4 p2 0 (by omega) fun p8 hp8 => ?_
  rw [w64_of (n := 16 * sd (tat S (i : Int)) 0) (by omega) (by omega), w64_of (n := 16 * sd (tat S (i : Int)) 0 + _) (by omega) (by omega)]
  refine l04Find_c rq3 hasc hlen fun n hn => ?_
  have e0 := find_num hsm m0 hn
  refine ix4 p1 1 (by omega) fun p12 hp12 => ?_
  refine ⟨rfl, ?_⟩
  refine ix4 p1 2 (by omega) fun p14 hp14 => ?_
  refine ⟨rfl, ?_⟩
  refine ix4 p2 2 (by omega) fun p16 hp16 => ?_
  refine ⟨rfl, ?_⟩
  rw [w64_of (n := 16 * sd (tat S (i : Int)) 2) (by omega) (by omega), w64_of (n := 16 * sd (tat S (i : Int)) 2 + _) (by omega) (by omega)]
  refine l04Find_c rq3 hasc hlen fun m hm => ?_
  have e2 := find_num hsm m2 hm
  refine ⟨rfl, ?_⟩
  refine ix4 p2 3 (by omega) fun p20 hp20 => ?_
  refine ⟨rfl, rfl, ?_⟩
  refine o3.stA fun h4 o4 b4 n4 => ?_
  refine o4.ldA rfl ⟨_, rfl, ?_, X.but_ b4 (some_le (by have := x1.len; have := x2.len; omega))⟩
  rw [e0, e2]
  rfl
theorem l04Made_c (rs : Rd h0 s 4 (tcs S)) (rt : Rd h0 t 4 (tcs T)) (hS : setOK c S) (hT : setOK d T) :
    callV SP i_spec_l04Made [.agg (SetC c s), .agg (SetC d t)] h0 fun v h' => ∃ u, v = .tuple [.agg (SetC (stkF c d S T).1 u), i64 (stkE c d S T)] ∧ Pre h' u 4 (tcs (stkF c d S T).2) ∧ Fr h0.length u ∧ Ext h0 h' := by
  have hsl := rs.tlen
  have htl := rt.tlen
  have hS16 := hS.2.1
  have hT16 := hT.2.1
  apply spec_l04Made_call
  unfold spec_l04Made_main
  refine newK_obj fun h1 o1 x1 n1 => ?_
  refine newK_obj fun h2 o2 x2 n2 => ?_
  refine newO_obj fun h3 o3 x3 n3 => ?_
  have p1 := o1.ext (x2.trans x3)
  have p2 := o2.ext x3
  have X := (x1.trans x2).trans x3
  refine p1.ldA rfl ?_
  refine p2.ldA rfl ?_
  refine (l04Pairs_c (c := c) (d := d) (rs.ext X) (rt.ext X) hS hT).to ?_
  rintro q h4 ⟨rq, x4⟩
  have hql := rq.ilen
  rw [List.length_map] at hql
  refine newS_ow (by rfl) fun u h5 ou lu uo e5 => ?_
  have x5 : Ext h4 h5 := by rw [e5]; exact Ext.app _ _
  have hx4 := x4.len
  have hx1 := x1.len
  have hx2 := x2.len
  refine spec_l04Made_rule0 _ _ _ _ _ _ (fun u i h => ∃ z : Nat, i = z ∧ z ≤ S.length ∧ Ow h u 4 (tcs ((stkI S T z).map (stile S T))) ∧ Fr h4.length u ∧ Ext h4 h) (fun _ i _ => (S.length - i).toNat) ?_ _ _
    ⟨0, rfl, by omega, by simpa [stkI, tcs] using ou, fun o e => by rw [uo] at e; cases e; exact Nat.le_refl _, x5⟩
  rintro X0 u _ h ⟨z, rfl, hz, ou, fu, x⟩ hX
  unfold spec_l04Made_b0 spec_l04Made_C0
  have pa := p1.ext (x4.trans x)
  have pb := p2.ext (x4.trans x)
  have pd := o3.ext (x4.trans x)
  have XX := X.trans (x4.trans x)
  refine isPt_in (pa.ldS rfl rfl ?_)
  refine bif_dec (fun hi => ?_) (fun hi => ?_)
  rotate_left
  · rw [show z = S.length by omega] at ou
    refine isPt_in (pa.ldI rfl rfl ?_)
    refine isPt_in (pb.ldI rfl rfl ?_)
    have hll : (stkT S T).length ≤ 1000 := by
      unfold stkT
      rw [List.length_map]
      have h2 := stkI_len S T S.length
      have h3 : S.length * T.length ≤ 16 * 16 := Nat.mul_le_mul hS16 hT16
      omega
    refine (l01Sort_c (l := stkT S T) ou.rd (by omega)).to ?_
    rintro w h6 ⟨ow, fw, x6⟩
    have hwl := ow.rd.tlen
    have hC : mxI (mxI (q.len : Int) c) d = stkC c d S T := by unfold stkC; rw [hql]
    rw [hC]
    have hxl := x.len
    have p6 := pd.ext x6
    have X6 := XX.trans x6
    refine bif_dec (fun hb => ?_) (fun hb => ?_)
    · have hf : ¬ fitS (stkC c d S T) (stkT S T) := fun h => by have := h.1; omega
      refine p6.stA fun h7 o7 b7 n7 => ?_
      refine o7.ldA rfl ⟨Sl.nil, ?_, ?_, Fr.nil _, X6.but_ b7 (some_le (by omega))⟩
      · unfold stkF stkE; rw [if_neg hf, if_neg hf]; rfl
      · unfold stkF; rw [if_neg hf]; exact Pre.nil _ _
    refine bif_dec (fun hb2 => ?_) (fun hb2 => ?_)
    · have hf : ¬ fitS (stkC c d S T) (stkT S T) := fun h => by have := h.2; omega
      refine p6.stA fun h7 o7 b7 n7 => ?_
      refine o7.ldA rfl ⟨Sl.nil, ?_, ?_, Fr.nil _, X6.but_ b7 (some_le (by omega))⟩
      · unfold stkF stkE; rw [if_neg hf, if_neg hf]; rfl
      · unfold stkF; rw [if_neg hf]; exact Pre.nil _ _
    · have hf : fitS (stkC c d S T) (stkT S T) := ⟨by omega, by omega⟩
      refine (l01Made_c ow.rd (by omega) (stkC c d S T)).to ?_
      rintro _ h7 ⟨v, rfl, ov, fv, x7⟩
      have hx6 := x6.len
      have hdd : dsT (dsT (stkT S T)) = dsT (stkT S T) := (dsort_eq ltT_sto (pw_dsort ltT_sto (stkT S T)) fun x => Iff.rfl).symm
      rw [hdd] at ov
      refine (p6.ext x7).stA fun h8 o8 b8 n8 => ?_
      refine o8.ldA rfl ⟨v, ?_, ?_, fv.le (by have := X6.len; omega), (X6.trans x7).but_ b8 (some_le (by omega))⟩
      · unfold stkF stkE; rw [if_pos hf, if_pos hf]
      · unfold stkF; rw [if_pos hf]
        exact ov.pre.but b8 (fun i ei e => by have := fv _ ei; have := Option.some.inj e; omega)
  have hz' : z < S.length := by omega
  have hlenI := stkI_len S T z
  have hzb : z * T.length ≤ 16 * 16 := Nat.mul_le_mul (by omega) hT16
  refine spec_l04Made_rule2 _ _ X0 _ _ _ _ _ (fun u k g => ∃ w : Nat, k = w ∧ w ≤ T.length ∧ Ow g u 4 (tcs ((stkI S T z ++ stkR S T z w).map (stile S T))) ∧ Fr h4.length u ∧ Ext h4 g) (fun _ k _ => (T.length - k).toNat) ?_ _ _
    ⟨0, rfl, by omega, by simpa [stkR] using ou, fu, x⟩
  clear ou fu x pa pb pd XX
  rintro X2 u _ g ⟨w, rfl, hw, ou, fu, x⟩ hY
  unfold spec_l04Made_b2 spec_l04Made_C2 spec_l04Made_C1
  have pa := p1.ext (x4.trans x)
  have pb := p2.ext (x4.trans x)
  have XX := X.trans (x4.trans x)
  have rS := rs.ext XX
  have rT := rt.ext XX
  refine isPt_in (pb.ldS rfl rfl ?_)
  refine bif_dec (fun hj => ?_) (fun hj => ?_)
  rotate_left
  · rw [w64_of (n := (z : Int) + 1) (by omega) (by omega)]
    refine hX _ _ _ ⟨z + 1, by push_cast; rfl, hz', ?_, fu, x⟩ (by omega)
    rw [stkI_succ, show T.length = w by omega]
    exact ou
  have hw' : w < T.length := by omega
  refine isPt_in (pa.ldS rfl rfl ?_)
  refine rS.sideG (by omega) (by omega) (by omega) (by omega) ?_
  refine isPt_in (pb.ldS rfl rfl ?_)
  refine rT.sideG (by omega) (by omega) (by omega) (by omega) ?_
  rw [w64_of (n := (w : Int) + 1) (by omega) (by omega)]
  have hst : ((w : Int) + 1) = ((w + 1 : Nat) : Int) := by push_cast; rfl
  have hl1 := stkR_len S T z w
  refine bif_eq (fun hq => ?_) (fun hq => ?_)
  · have hq' : sd (tat S (z : Int)) 3 = sd (tat T (w : Int)) 1 := hq
    refine isPt_in (pa.ldS rfl rfl ?_)
    refine rS.tileG (by omega) (by omega) ?_
    refine isPt_in (pb.ldS rfl rfl ?_)
    refine rT.tileG (by omega) (by omega) ?_
    refine (l04Tile_c (c := c) (d := d) hS hT hz' hw' hq' (rq.ext x)).to ?_
    rintro _ g2 ⟨rfl, y2⟩
    refine ⟨rfl, ?_⟩
    refine push_tc (t := stile S T ((z : Int), (w : Int))) (ou.ext y2) (by rw [List.length_map, List.length_append]; unfold lim; omega) fun u2 g3 ou2 b3 hu2 hln => ?_
    have hxl := x.len
    have hy2 := y2.len
    refine hY _ _ _ ⟨w + 1, hst, hw', ?_, fu.push (h := g2) (by omega) hu2, (x.trans y2).but_ b3 fun o e => fu o e⟩ (by omega)
    rw [stkR_succ, if_pos hq', ← List.append_assoc, List.map_append]
    exact ou2
  · refine hY _ _ _ ⟨w + 1, hst, hw', ?_, fu, x⟩ (by omega)
    rw [stkR_succ, if_neg (show ¬ sd (tat S (z : Int)) 3 = sd (tat T (w : Int)) 1 from hq), List.append_nil]
    exact ou
theorem spec_StackSets_c (rs : Rd h0 s 4 (tcs S)) (rt : Rd h0 t 4 (tcs T)) (hS : S.length ≤ 1048576) (hT : T.length ≤ 1048576) :
    callV SP i_spec_StackSets [.agg (SetC c s), .agg (SetC d t)] h0 fun v h' => ∃ u, v = .tuple [.agg (SetC (F_StackSets_0 c S d T).1 u), i64 (F_StackSets_1 c S d T)] ∧ Pre h' u 4 (tcs (F_StackSets_0 c S d T).2) ∧ Fr h0.length u ∧ Ext h0 h' := by
  apply spec_StackSets_call
  unfold spec_StackSets_main
  refine newK_obj fun h1 o1 x1 n1 => ?_
  refine newK_obj fun h2 o2 x2 n2 => ?_
  refine newO_obj fun h3 o3 x3 n3 => ?_
  have p1 := o1.ext (x2.trans x3)
  have p2 := o2.ext x3
  have X := (x1.trans x2).trans x3
  have hx1 := x1.len
  have hx2 := x2.len
  have bad : ∀ {g : H}, Ext h3 g → ¬ (setOK c S ∧ setOK d T) → stN ⟨some h2.length, 2, 0⟩ 2 [.int .i64 0, .sl Sl.nil] g (fun h9 => ldA ⟨some h2.length, 2, 0⟩ 2 h9 fun cs10 => (∃ u, (AVal.tuple [.agg cs10, .int .i64 1]) = .tuple [.agg (SetC (F_StackSets_0 c S d T).1 u), i64 (F_StackSets_1 c S d T)] ∧ Pre h9 u 4 (tcs (F_StackSets_0 c S d T).2) ∧ Fr h0.length u ∧ Ext h0 h9)) := fun {g} e hno => by
    refine (o3.ext e).stA fun h6 o6 b6 n6 => ?_
    refine o6.ldA rfl ⟨Sl.nil, ?_, ?_, Fr.nil _, (X.trans e).but_ b6 (some_le (by omega))⟩
    · unfold F_StackSets_0 F_StackSets_1; rw [if_neg hno, if_neg hno]; rfl
    · unfold F_StackSets_0; rw [if_neg hno]; exact Pre.nil _ _
  refine p1.ldA rfl ?_
  refine (l01Is_c (c := c) (rs.ext X)).to ?_
  rintro b h4 ⟨hb, x4⟩
  refine bif_not (fun hq => bad x4 fun h => by rw [hb.2 h.1] at hq; cases hq) (fun hq => ?_)
  refine (p2.ext x4).ldA rfl ?_
  refine (l01Is_c (c := d) (rt.ext (X.trans x4))).to ?_
  rintro b2 h5 ⟨hb2, x5⟩
  have x45 := x4.trans x5
  refine bif_not (fun hq2 => bad x45 fun h => by rw [hb2.2 h.2] at hq2; cases hq2) (fun hq2 => ?_)
  have hyes : setOK c S ∧ setOK d T := ⟨hb.1 hq, hb2.1 hq2⟩
  refine (p1.ext x45).ldA rfl ?_
  refine (p2.ext x45).ldA rfl ?_
  refine (l04Made_c (c := c) (d := d) (rs.ext (X.trans x45)) (rt.ext (X.trans x45)) hyes.1 hyes.2).to ?_
  rintro _ h6 ⟨w, rfl, pw, fw, x6⟩
  refine ⟨_, rfl, _, rfl, _, rfl, _, rfl, ?_⟩
  have hx45 := x45.len
  have hXl := (X.trans x45).len
  refine newO_obj fun h7 o7 x7 n7 => ?_
  refine o7.stA fun h8 o8 b8 n8 => ?_
  have x68 : Ext h6 h8 := x7.but_ b8 (some_le (Nat.le_refl _))
  refine o8.ldA rfl ?_
  refine (o3.ext (x45.trans (x6.trans x68))).stA fun h9 o9 b9 n9 => ?_
  refine o9.ldA rfl ⟨w, ?_, ?_, fw.le hXl, ((X.trans x45).trans (x6.trans x68)).but_ b9 (some_le (by omega))⟩
  · unfold F_StackSets_0 F_StackSets_1; rw [if_pos hyes, if_pos hyes]
  · unfold F_StackSets_0; rw [if_pos hyes]
    exact (pw.ext x68).but b9 (fun i ei e => by have := fw _ ei; have := Option.some.inj e; omega)
end
end Go.Proofs.YtcoampecbpiecaaGreat.Cl

/- Marks of a view of the first part of an object. No claim is stated here. -/
set_option linter.unusedVariables false
set_option linter.unusedSimpArgs false
namespace Go.Proofs.YtcoampecbpiecaaGreat.Cl
open Go
theorem StackSets_small0 {c d : Int} {S T : List Tile} : (F_StackSets_0 c S d T).2.length < 1000000 := by
  unfold F_StackSets_0
  split
  · unfold stkF
    split
    · next h => have := h.2; show (dsT (stkT S T)).length < 1000000; omega
    · show ([] : List Tile).length < 1000000; simp
  · show ([] : List Tile).length < 1000000; simp
end Go.Proofs.YtcoampecbpiecaaGreat.Cl

/- Draws of rows of stacks. No claim is stated here. -/
set_option linter.unusedVariables false
set_option linter.unusedSimpArgs false
namespace Go.Proofs.YtcoampecbpiecaaGreat.Cl
open Go
/-- Two sets and a row, drawn. -/
def DrV (h : H) (v : AVal) (h' : H) : Prop := ∃ u c ts w d us x l, v = .tuple [.agg (SetC c u), .agg (SetC d w), .sl x] ∧ Rd h' u 4 (tcs ts) ∧ ts.length ≤ 17 ∧ Rd h' w 4 (tcs us) ∧ us.length ≤ 17 ∧ Rd h' x 1 (ic l) ∧ l.length ≤ 1000 ∧ Ext h h'
section
variable {h : H}
theorem DrawSplitRow_c {s : Sl} {q : List Int} (r : CodeB h s q) : callV SP i_spec_DrawSplitRow [.sl s] h (DrV h) := by
  apply spec_DrawSplitRow_call
  unfold spec_DrawSplitRow_main
  refine newO_obj fun h1 o1 x1 n1 => ?_
  refine newO_obj fun h2 o2 x2 n2 => ?_
  refine (r.ext (x1.trans x2)).from.to ?_
  rintro _ h3 ⟨rfl, r3, x3⟩
  have hq := r3.lt
  refine (two_c ((r.ext (x1.trans x2)).ext x3)).to ?_
  rintro _ h4 ⟨u, c, ts, w, d, us, rfl, ru, hu, fu, rw', hw, fw, x4⟩
  refine ⟨_, rfl, _, rfl, _, rfl, _, rfl, ?_⟩
  have hx4 := x4.len
  refine newO_obj fun h5 o5 x5 n5 => ?_
  refine newO_obj fun h6 o6 x6 n6 => ?_
  refine (o5.ext x6).stA fun h7 o7 b7 n7 => ?_
  refine (o6.but b7 (some_ne (by omega))).stA fun h8 o8 b8 n8 => ?_
  have o7 := o7.but b8 (some_ne (by omega))
  have x48 : Ext h4 h8 := (((x5.trans x6).but_ b7 (some_le (by omega))).but_ b8 (some_le (by omega)))
  have r8 := (r3.ext x4).ext x48
  have ru8 := ru.ext x48
  have rw8 := rw'.ext x48
  refine o7.ldA rfl (o8.ldA rfl ?_)
  refine (spec_StackSets_c ru8 rw8 (by omega) (by omega)).to ?_
  rintro _ h9 ⟨v, rfl, pv, fv, x9⟩
  refine ⟨_, rfl, _, rfl, _, rfl, _, rfl, ?_⟩
  refine newO_obj fun h10 o10 x10 n10 => ?_
  refine o10.stA fun h11 o11 b11 n11 => ?_
  have x911 : Ext h9 h11 := x10.but_ b11 (some_le (by omega))
  have x811 := x9.trans x911
  have q7 := o7.ext x811
  have q8 := o8.ext x811
  have hx8 := x811.len
  have p1 := o1.ext (x2.trans (x3.trans (x4.trans (x48.trans x811))))
  have p2 := o2.ext (x3.trans (x4.trans (x48.trans x811)))
  have X11 : Ext h h11 := x1.trans (x2.trans (x3.trans (x4.trans (x48.trans x811))))
  have hsm := StackSets_small0 (c := c) (S := ts) (d := d) (T := us)
  have hx48 := x48.len
  have hx9 := x9.len
  have n1' : h1.length = h.length + 1 := n1
  have hx3 := x3.len
  have fin : ∀ {g : H} {x : Sl} {l : List Int}, Chg (fun i => (h.length ≤ i ∧ i ≤ h2.length) ∨ h4.length ≤ i) h4 g → Rd g x 1 (ic l) → l.length ≤ 1000 → DrV h (.tuple [.agg (SetC c u), .agg (SetC d w), .sl x]) g := fun {g x l} cg rx hl =>
    ⟨u, c, ts, w, d, us, x, l, rfl, ru.keep (P := fun i => h.length ≤ i ∧ i ≤ h2.length) cg fun i e => (by have := fu i e; omega), hu, rw'.keep (P := fun i => h.length ≤ i ∧ i ≤ h2.length) cg fun i e => (by have := fw i e; omega), hw, rx, hl, (x1.trans (x2.trans (x3.trans x4))).chg_ cg fun i e => (by omega)⟩
  refine bif_ne (fun _ => ?_) (fun _ => ?_)
  · refine slotK_in fun g1 y1 m1 => ?_
    refine (q7.ext y1).ldA rfl ((q8.ext y1).ldA rfl ?_)
    refine (p1.ext y1).stA fun g2 z2 d2 m2 => ?_
    have q8' := (q8.ext y1).but d2 (some_ne (by omega))
    have q7' := (q7.ext y1).but d2 (some_ne (by omega))
    refine ⟨(q8'.rangeE rfl).trans ((q8.ext y1).rangeE rfl).symm, ?_⟩
    refine ((p2.ext y1).but d2 (some_ne (by omega))).stA fun g3 z3 d3 m3 => ?_
    have q8'' := q8'.but d3 (some_ne (by omega))
    have q7'' := q7'.but d3 (some_ne (by omega))
    refine newSat_ow (by omega) (by rfl) fun x g4 ox lx xo d4 m4 => ?_
    have q8n := q8''.but d4 (some_ne (by omega))
    have q7n := q7''.but d4 (some_ne (by omega))
    refine ⟨(q8''.rangeE rfl).trans ((q8.ext y1).rangeE rfl).symm, (q7''.rangeE rfl).trans ((q7.ext y1).rangeE rfl).symm, (q8n.rangeE rfl).trans ((q8.ext y1).rangeE rfl).symm, (q7n.rangeE rfl).trans ((q7.ext y1).rangeE rfl).symm, ?_⟩
    refine ((z2.but d3 (some_ne (by omega))).but d4 (some_ne (by omega))).ldA rfl ((z3.but d4 (some_ne (by omega))).ldA rfl ?_)
    exact fin ((((x48.trans (x811.trans y1)).chg _).trans (d2.chg fun i e => .inl (by have := Option.some.inj e; omega))).trans ((d3.chg fun i e => .inl (by have := Option.some.inj e; omega)).trans (d4.chg fun i e => .inr (by have := Option.some.inj e; omega)))) (l := [0]) ox.rd (by simp)
  · refine q7.ldA rfl (q8.ldA rfl (o11.ldA rfl ?_))
    have r11 := r8.ext x811
    refine (drawRow_c r11 (pv.rd.ext x911) (fun i e => by have := fv i e; omega) (by omega)).to ?_
    rintro x g1 ⟨l, rx, hl, fx, rg1, cg1⟩
    have hc1 := cg1.1
    have q7' := q7.chg cg1 (by omega)
    have q8' := q8.chg cg1 (by omega)
    refine ⟨(q8'.rangeE rfl).trans (q8.rangeE rfl).symm, (q7'.rangeE rfl).trans (q7.rangeE rfl).symm, ?_⟩
    refine (p1.chg cg1 (by omega)).stA fun g2 z2 d2 m2 => ?_
    refine ⟨((q8'.but d2 (some_ne (by omega))).rangeE rfl).trans (q8.rangeE rfl).symm, ?_⟩
    refine ((p2.chg cg1 (by omega)).but d2 (some_ne (by omega))).stA fun g3 z3 d3 m3 => ?_
    refine (z2.but d3 (some_ne (by omega))).ldA rfl (z3.ldA rfl ?_)
    have cc : Chg (fun i => (h.length ≤ i ∧ i ≤ h2.length) ∨ h4.length ≤ i) h4 g3 := (((x48.trans x811).chg _).trans (cg1.to fun i hi e => .inl (by omega))).trans ((d2.chg fun i e => .inl (by have := Option.some.inj e; omega)).trans (d3.chg fun i e => .inl (by have := Option.some.inj e; omega)))
    exact fin cc ((rx.but d2 (.inl fun e => by have := fx _ e.symm; omega)).but d3 (.inl fun e => by have := fx _ e.symm; omega)) hl
end
end Go.Proofs.YtcoampecbpiecaaGreat.Cl

/- The first place of a tile; rows of a set. No claim is stated here. -/
set_option linter.unusedVariables false
set_option linter.unusedSimpArgs false
namespace Go.Proofs.YtcoampecbpiecaaGreat.Cl
open Go
/-- The first place at which a tile stands in a list, else -1. -/
def idxT (L : List Tile) (t : Tile) : Int := match L.findIdx? (fun x => decide (t = x)) with
  | some k => (k : Int)
  | none => -1
variable {h0 : H} {s : Sl} {L : List Tile}
theorem index_c (r : Rd h0 s 4 (tcs L)) (hl : L.length ≤ 1000000) (t : Tile) : callI SP .i64 i_slices_Index_s_impl_Tile_impl_Tile_ [.sl s, .agg (tc t)] h0 fun n h' => n = idxT L t ∧ Ext h0 h' := by
  have hsl := r.tlen
  apply slices_Index_s_impl_Tile_impl_Tile__call
  unfold slices_Index_s_impl_Tile_impl_Tile__main
  refine newK_obj fun h1 o1 x1 n1 => ?_
  refine slices_Index_s_impl_Tile_impl_Tile__rule0 _ _ _ _ _ (fun i h => ∃ k : Nat, i = k ∧ k ≤ L.length ∧ (∀ j : Nat, j < k → ∀ x, L[j]? = some x → t ≠ x) ∧ h = h1) (fun i _ => ((L.length : Int) - i).toNat) ?_ _ ⟨0, rfl, by omega, fun j hj => by omega, rfl⟩
  rintro X _ _ ⟨k, rfl, hk, hne, rfl⟩ hX
  unfold slices_Index_s_impl_Tile_impl_Tile__b0 slices_Index_s_impl_Tile_impl_Tile__C0
  refine bif_dec (fun hi => ?_) (fun hi => ?_)
  · refine o1.ldA rfl ?_
    have hkl : k < L.length := by omega
    refine (r.ext x1).ldT (by omega) (by omega) fun x hx => eqA_tc ?_
    rw [Int.toNat_natCast] at hx
    refine bif_dec (fun he => ?_) (fun he => ?_)
    · refine ⟨_, rfl, ?_, x1⟩
      unfold idxT
      rw [show L.findIdx? (fun x => decide (t = x)) = some k from by
        rw [List.findIdx?_eq_some_iff_getElem]
        obtain ⟨hk', e⟩ := List.getElem?_eq_some_iff.1 hx
        exact ⟨hk', by simp [e, he], fun j hj => by simp; exact hne j hj _ (List.getElem?_eq_some_iff.2 ⟨by omega, rfl⟩)⟩]
    · rw [w64_of (by omega) (by omega)]
      refine hX _ _ ⟨k + 1, by push_cast; rfl, by omega, fun j hj x' hx' => ?_, rfl⟩ (by omega)
      by_cases hjk : j = k
      · subst hjk; rw [hx] at hx'; cases hx'; exact he
      · exact hne j (by omega) x' hx'
  · refine ⟨_, rfl, ?_, x1⟩
    unfold idxT
    rw [show L.findIdx? (fun x => decide (t = x)) = none from by
      rw [List.findIdx?_eq_none_iff]
      intro x hx
      obtain ⟨j, hj, e⟩ := List.mem_iff_getElem.1 hx
      simp
      exact hne j (by omega) x (List.getElem?_eq_some_iff.2 ⟨hj, e⟩)]
def rowQ (L : List Tile) (l : List Int) (k : Nat) : Prop := (0 ≤ l.getD k 0 ∧ l.getD k 0 ≤ (L.length : Int) - 1) ∧ (0 < k → sd (tat L (l.getD (k - 1) 0)) 2 = sd (tat L (l.getD k 0)) 0)
def rowOK (L : List Tile) (l : List Int) : Prop := (1 ≤ l.length ∧ l.length ≤ 20) ∧ ∀ k : Nat, k < l.length → rowQ L l k
theorem isRow_c {c : Int} {v : Sl} {l : List Int} (r : Rd h0 s 4 (tcs L)) (hl : L.length ≤ 1000000) (q : Rd h0 v 1 (ic l)) (hv : l.length ≤ 1048576) : callB SP i_impl_Set_isRow [.agg (SetC c s), .sl v] h0 fun b h' => (b = true ↔ rowOK L l) ∧ Ext h0 h' := by
  have hsl := r.tlen
  have hvl := q.ilen
  apply impl_Set_isRow_call
  unfold impl_Set_isRow_main
  refine newK_obj fun h1 o1 x1 n1 => ?_
  refine impl_Set_isRow_rule0 _ _ _ _ _ _ (fun i h => ∃ k : Nat, i = k ∧ k ≤ l.length ∧ (∀ j : Nat, j < k → rowQ L l j) ∧ Ext h1 h) (fun i _ => ((l.length : Int) - i).toNat) ?_ _ ⟨0, rfl, by omega, fun j hj => by omega, Ext.refl _⟩
  rintro X _ h2 ⟨k, rfl, hk, hq, x2⟩ hX
  unfold impl_Set_isRow_b0 impl_Set_isRow_C0
  have x := x1.trans x2
  refine bif_dec (fun hi => ?_) (fun hi => ?_)
  · refine (q.ext x).ldG (by omega) (by omega) ?_
    rw [Int.toNat_natCast]
    refine (o1.ext x2).ldA rfl ?_
    refine (isNumber_c _ (by omega)).to ?_
    rintro _ h3 ⟨rfl, x3⟩
    refine bif_not (fun hb => ⟨_, rfl, ?_, x.trans x3⟩) (fun hb => ?_)
    · have hb := of_decide_eq_false hb
      exact ⟨fun h => by simp at h, fun h => absurd (h.2 k (by omega)).1 (by omega)⟩
    · have hb := of_decide_eq_true hb
      have x' := x.trans x3
      refine bif_dec (fun hp => ?_) (fun hp => ?_)
      · have o3 := (o1.ext x2).ext x3
        refine isPt_in (o3.ldS rfl rfl ?_)
        rw [w64_of (by omega) (by omega)]
        have hk1 := (hq (k - 1) (by omega)).1
        have e1 : ((k : Int) - 1).toNat = k - 1 := by omega
        refine (q.ext x').ldG (by omega) (by omega) ?_
        rw [e1]
        refine (r.ext x').sideG (by omega) (by omega) (by omega) (by omega) ?_
        refine isPt_in (o3.ldS rfl rfl ?_)
        refine (r.ext x').sideG (by omega) (by omega) (by omega) (by omega) ?_
        refine bif_ne (fun hne => ⟨_, rfl, ?_, x'⟩) (fun heq => ?_)
        · exact ⟨fun h => by simp at h, fun h => absurd ((h.2 k (by omega)).2 (by omega)) hne⟩
        · rw [w64_of (by omega) (by omega)]
          refine hX _ _ ⟨k + 1, by push_cast; rfl, by omega, fun j hj => ?_, x2.trans x3⟩ (by omega)
          by_cases hjk : j = k
          · subst hjk; exact ⟨⟨hb.1, by omega⟩, fun _ => heq⟩
          · exact hq j (by omega)
      · rw [w64_of (by omega) (by omega)]
        refine hX _ _ ⟨k + 1, by push_cast; rfl, by omega, fun j hj => ?_, x2.trans x3⟩ (by omega)
        by_cases hjk : j = k
        · subst hjk; exact ⟨⟨hb.1, by omega⟩, fun h => by omega⟩
        · exact hq j (by omega)
  · have hkl : k = l.length := by omega
    refine within_k ⟨_, rfl, ?_, x⟩
    rw [decide_eq_true_eq]
    exact ⟨fun h => ⟨by omega, fun j hj => hq j (by omega)⟩, fun h => by have := h.1; omega⟩
theorem l02Row_c {c : Int} {v : Sl} {l : List Int} (r : Rd h0 s 4 (tcs L)) (hl : L.length ≤ 1000000) (q : Rd h0 v 1 (ic l)) (hv : l.length ≤ 1048576) : callB SP i_spec_l02Row [.agg (SetC c s), .sl v] h0 fun b h' => (b = true ↔ rowOK L l) ∧ Ext h0 h' := by
  have hsl := r.tlen
  have hvl := q.ilen
  apply spec_l02Row_call
  unfold spec_l02Row_main
  refine newK_obj fun h1 o1 x1 n1 => ?_
  refine bif_dec (fun hi => ⟨_, rfl, ⟨fun h => by simp at h, fun h => by have := h.1; omega⟩, x1⟩) (fun hi1 => ?_)
  refine bif_dec (fun hi => ⟨_, rfl, ⟨fun h => by simp at h, fun h => by have := h.1; omega⟩, x1⟩) (fun hi2 => ?_)
  refine spec_l02Row_rule0 _ _ _ _ (fun i h => ∃ k : Nat, i = k ∧ k ≤ l.length ∧ (∀ j : Nat, j < k → rowQ L l j) ∧ Ext h1 h) (fun i _ => ((l.length : Int) - i).toNat) ?_ _ ⟨0, rfl, by omega, fun j hj => by omega, Ext.refl _⟩
  rintro X _ h2 ⟨k, rfl, hk, hq, x2⟩ hX
  unfold spec_l02Row_b0 spec_l02Row_C0
  have x := x1.trans x2
  refine bif_dec (fun hi => ?_) (fun hi => ?_)
  · refine (q.ext x).ldG (by omega) (by omega) ?_
    rw [Int.toNat_natCast]
    have o2 := o1.ext x2
    refine isPt_in (o2.ldS rfl rfl ?_)
    rw [w64_of (by omega) (by omega)]
    refine l01In_k ?_
    refine bif_not (fun hb => ⟨_, rfl, ?_, x⟩) (fun hb => ?_)
    · have hb := of_decide_eq_false hb
      exact ⟨fun h => by simp at h, fun h => absurd (h.2 k (by omega)).1 (by omega)⟩
    · have hb := of_decide_eq_true hb
      refine bif_dec (fun hp => ?_) (fun hp => ?_)
      · refine isPt_in (o2.ldS rfl rfl ?_)
        rw [w64_of (n := (k : Int) - 1) (by omega) (by omega)]
        have hk1 := (hq (k - 1) (by omega)).1
        have e1 : ((k : Int) - 1).toNat = k - 1 := by omega
        refine (q.ext x).ldG (by omega) (by omega) ?_
        rw [e1]
        refine (r.ext x).sideG (by omega) (by omega) (by omega) (by omega) ?_
        refine isPt_in (o2.ldS rfl rfl ?_)
        refine (q.ext x).ldG (by omega) (by omega) ?_
        rw [Int.toNat_natCast]
        refine (r.ext x).sideG (by omega) (by omega) (by omega) (by omega) ?_
        refine bif_ne (fun hne => ⟨_, rfl, ?_, x⟩) (fun heq => ?_)
        · exact ⟨fun h => by simp at h, fun h => absurd ((h.2 k (by omega)).2 (by omega)) hne⟩
        · rw [w64_of (by omega) (by omega)]
          refine hX _ _ ⟨k + 1, by push_cast; rfl, by omega, fun j hj => ?_, x2⟩ (by omega)
          by_cases hjk : j = k
          · subst hjk; exact ⟨⟨hb.1, by omega⟩, fun _ => heq⟩
          · exact hq j (by omega)
      · rw [w64_of (by omega) (by omega)]
        refine hX _ _ ⟨k + 1, by push_cast; rfl, by omega, fun j hj => ?_, x2⟩ (by omega)
        by_cases hjk : j = k
        · subst hjk; exact ⟨⟨hb.1, by omega⟩, fun h => by omega⟩
        · exact hq j (by omega)
  · have hkl : k = l.length := by omega
    exact ⟨_, rfl, ⟨fun _ => ⟨by omega, fun j hj => hq j (by omega)⟩, fun _ => rfl⟩, x⟩
end Go.Proofs.YtcoampecbpiecaaGreat.Cl

/- The first stacked pair with a tile: plain; the reference's and the program's SplitRow. No claim is stated here. -/
set_option linter.unusedVariables false
set_option linter.unusedSimpArgs false
namespace Go.Proofs.YtcoampecbpiecaaGreat.Cl
open Go
section
variable {S T : List Tile}
theorem stkR_split {z w : Nat} (hq : sd (tat S (z : Int)) 3 = sd (tat T (w : Int)) 1) : ∀ n, w < n → ∃ r, stkR S T z n = stkR S T z w ++ ((z : Int), (w : Int)) :: r
  | 0, h => by omega
  | n + 1, h => by
    by_cases e : n = w
    · subst e
      exact ⟨[], by rw [stkR_succ, if_pos hq]⟩
    · obtain ⟨r, hr⟩ := stkR_split hq n (by omega)
      exact ⟨_, by rw [stkR_succ, hr, List.append_assoc, List.cons_append]⟩
theorem stkI_split {z w : Nat} (hq : sd (tat S (z : Int)) 3 = sd (tat T (w : Int)) 1) (hw : w < T.length) : ∀ n, z < n → ∃ r, stkI S T n = (stkI S T z ++ stkR S T z w) ++ ((z : Int), (w : Int)) :: r
  | 0, h => by omega
  | n + 1, h => by
    by_cases e : n = z
    · subst e
      obtain ⟨r, hr⟩ := stkR_split (S := S) hq T.length hw
      exact ⟨r, by rw [stkI_succ, hr, List.append_assoc]⟩
    · obtain ⟨r, hr⟩ := stkI_split hq hw n (by omega)
      exact ⟨_, by rw [stkI_succ, hr, List.append_assoc, List.cons_append]⟩
/-- The first stacked pair with a tile. -/
noncomputable def spP (S T : List Tile) (t : Tile) : Int × Int := (stkI S T S.length).getD (idxT (stkT S T) t).toNat (0, 0)
theorem spP_of {z w : Nat} (hz : z < S.length) (hw : w < T.length) (hq : sd (tat S (z : Int)) 3 = sd (tat T (w : Int)) 1) {t : Tile} (ht : t = stile S T ((z : Int), (w : Int)))
    (hne : ∀ e ∈ stkI S T z ++ stkR S T z w, t ≠ stile S T e) : spP S T t = ((z : Int), (w : Int)) := by
  obtain ⟨r, hr⟩ := stkI_split (S := S) hq hw S.length hz
  have hi : idxT (stkT S T) t = ((stkI S T z ++ stkR S T z w).length : Nat) := by
    unfold idxT stkT
    rw [hr, List.map_append, List.map_cons]
    have : List.findIdx? (fun x => decide (t = x)) (List.map (stile S T) (stkI S T z ++ stkR S T z w) ++ stile S T ((z : Int), (w : Int)) :: List.map (stile S T) r) = some (stkI S T z ++ stkR S T z w).length := by
      rw [List.findIdx?_eq_some_iff_getElem]
      refine ⟨by simp, ?_, fun j hj => ?_⟩
      · rw [List.getElem_append_right (by simp)]
        simp [ht]
      · rw [List.getElem_append_left (by rw [List.length_map]; exact hj), List.getElem_map]
        have := hne _ (List.getElem_mem hj)
        simpa using this
    rw [this]
  unfold spP
  rw [hi, Int.toNat_natCast, hr, List.getD_eq_getElem?_getD, List.getElem?_append_right (by omega)]
  simp
theorem idxT_mem {L : List Tile} {t : Tile} (h : t ∈ L) : 0 ≤ idxT L t ∧ idxT L t < L.length := by
  unfold idxT
  cases hq : L.findIdx? (fun x => decide (t = x)) with
  | none =>
    rw [List.findIdx?_eq_none_iff] at hq
    have := hq t h
    simp at this
  | some k =>
    rw [List.findIdx?_eq_some_iff_getElem] at hq
    obtain ⟨h1, _⟩ := hq
    simp only
    omega
end
section
variable {h0 : H} {s t v : Sl} {S T : List Tile} {c d : Int} {l : List Int}
open Classical in
noncomputable def codeSp (c : Int) (S : List Tile) (d : Int) (T : List Tile) (l : List Int) : Int := if setOK c S ∧ setOK d T then (if stkE c d S T ≠ 0 then stkE c d S T else if rowOK (stkF c d S T).2 l then 0 else 2) else 1
open Classical in
noncomputable def F_SplitRow_0 (c : Int) (S : List Tile) (d : Int) (T : List Tile) (l : List Int) : List Int := if codeSp c S d T l = 0 then l.map fun k => (spP S T (tat (stkF c d S T).2 k)).1 else []
open Classical in
noncomputable def F_SplitRow_1 (c : Int) (S : List Tile) (d : Int) (T : List Tile) (l : List Int) : List Int := if codeSp c S d T l = 0 then l.map fun k => (spP S T (tat (stkF c d S T).2 k)).2 else []
theorem F_Sp0 (h : codeSp c S d T l = 0) : F_SplitRow_0 c S d T l = l.map fun k => (spP S T (tat (stkF c d S T).2 k)).1 := by unfold F_SplitRow_0; rw [if_pos h]
theorem F_Sp1 (h : codeSp c S d T l = 0) : F_SplitRow_1 c S d T l = l.map fun k => (spP S T (tat (stkF c d S T).2 k)).2 := by unfold F_SplitRow_1; rw [if_pos h]
theorem F_Sp0n (h : codeSp c S d T l ≠ 0) : F_SplitRow_0 c S d T l = [] := by unfold F_SplitRow_0; rw [if_neg h]
theorem F_Sp1n (h : codeSp c S d T l ≠ 0) : F_SplitRow_1 c S d T l = [] := by unfold F_SplitRow_1; rw [if_neg h]
/-- What a call of SplitRow brings about. -/
def SpRes (c : Int) (S : List Tile) (d : Int) (T : List Tile) (l : List Int) (h0 : H) (r : AVal) (h' : H) : Prop := ∃ a b, r = .tuple [.sl a, .sl b, i64 (codeSp c S d T l)] ∧ Ow h' a 1 (ic (F_SplitRow_0 c S d T l)) ∧ Fr h0.length a ∧ Ow h' b 1 (ic (F_SplitRow_1 c S d T l)) ∧ Fr h0.length b ∧ (∀ o, a.o = some o → b.o ≠ some o) ∧ Ext h0 h'
theorem SpRes.no {k : Int} {h' : H} (hk : k = codeSp c S d T l) (hne : k ≠ 0) (x : Ext h0 h') : SpRes c S d T l h0 (.tuple [.sl Sl.nil, .sl Sl.nil, .int .i64 k]) h' := by
  subst hk
  exact ⟨Sl.nil, Sl.nil, rfl, by rw [F_Sp0n hne]; exact Ow.nil _ _, Fr.nil _, by rw [F_Sp1n hne]; exact Ow.nil _ _, Fr.nil _, (fun o e => by cases e), x⟩
theorem codeSp_1 (h : ¬ (setOK c S ∧ setOK d T)) : 1 = codeSp c S d T l := by unfold codeSp; rw [if_neg h]
theorem codeSp_e (h : setOK c S ∧ setOK d T) (h2 : stkE c d S T ≠ 0) : stkE c d S T = codeSp c S d T l := by unfold codeSp; rw [if_pos h, if_pos h2]
theorem codeSp_2 (h : setOK c S ∧ setOK d T) (h2 : stkE c d S T = 0) (h3 : ¬ rowOK (stkF c d S T).2 l) : 2 = codeSp c S d T l := by unfold codeSp; rw [if_pos h, if_neg (by simpa using h2), if_neg h3]
theorem codeSp_0 (h : setOK c S ∧ setOK d T) (h2 : stkE c d S T = 0) (h3 : rowOK (stkF c d S T).2 l) : codeSp c S d T l = 0 := by unfold codeSp; rw [if_pos h, if_neg (by simpa using h2), if_pos h3]
theorem stkE_0 (h : stkE c d S T = 0) : (stkF c d S T).2 = dsT (stkT S T) ∧ (stkF c d S T).2.length ≤ 16 := by
  unfold stkE at h
  unfold stkF
  split at h
  · next hf => rw [if_pos hf]; exact ⟨rfl, hf.2⟩
  · cases h
theorem stkF_mem (h : stkE c d S T = 0) {k : Int} (hk : 0 ≤ k ∧ k ≤ ((stkF c d S T).2.length : Int) - 1) : tat (stkF c d S T).2 k ∈ stkT S T := by
  have h1 := (stkE_0 h).1
  have hm : tat (stkF c d S T).2 k ∈ (stkF c d S T).2 := List.mem_of_getElem? (at_tat (by omega))
  rw [h1] at hm ⊢
  exact mem_dsort.1 hm
theorem SplitRow_small0 (hS : S.length ≤ 1048576) (hT : T.length ≤ 1048576) (hl : l.length ≤ 1048576) : (F_SplitRow_0 c S d T l).length < 1000000 := by
  unfold F_SplitRow_0
  split
  · next h =>
    rw [List.length_map]
    have : rowOK (stkF c d S T).2 l := by
      unfold codeSp at h
      split at h
      · split at h
        · next h2 => exact absurd h h2
        · split at h
          · assumption
          · cases h
      · cases h
    have := this.1.2
    omega
  · simp
theorem SplitRow_small1 (hS : S.length ≤ 1048576) (hT : T.length ≤ 1048576) (hl : l.length ≤ 1048576) : (F_SplitRow_1 c S d T l).length < 1000000 := by
  have h := SplitRow_small0 (c := c) (d := d) hS hT hl
  have e : (F_SplitRow_1 c S d T l).length = (F_SplitRow_0 c S d T l).length := by
    unfold F_SplitRow_0 F_SplitRow_1
    split <;> simp
  omega
theorem impl_SplitRow_c (rs : Rd h0 s 4 (tcs S)) (rt : Rd h0 t 4 (tcs T)) (rv : Rd h0 v 1 (ic l)) (hS : S.length ≤ 1048576) (hT : T.length ≤ 1048576) (hl : l.length ≤ 1048576) :
    callV SP i_impl_SplitRow [.agg (SetC c s), .agg (SetC d t), .sl v] h0 (SpRes c S d T l h0) := by
  have hvl := rv.ilen
  apply impl_SplitRow_call
  unfold impl_SplitRow_main
  refine newK_obj fun h1 o1 x1 n1 => ?_
  refine newK_obj fun h2 o2 x2 n2 => ?_
  have p1 := o1.ext x2
  have X := x1.trans x2
  refine p1.ldA rfl ?_
  refine o2.ldA rfl ⟨rfl, rfl, ?_⟩
  refine newS_ow (by rfl) fun q h4 oq lq qo e4 => ?_
  have x4 : Ext h2 h4 := by rw [e4]; exact Ext.app _ _
  have X4 := X.trans x4
  refine (areSets_c (c := c) (d := d) (s := s) (t := t) oq.rd (rs.ext X4) (rt.ext X4) (by omega) (by omega)).to ?_
  rintro b h5 ⟨hb, x5⟩
  have X5 := X4.trans x5
  refine bif_not (fun hq => SpRes.no (codeSp_1 fun h => by rw [hb.2 h] at hq; cases hq) (by decide) X5) (fun hq => ?_)
  have hyes := hb.1 hq
  have hS16 := hyes.1.2.1
  have hT16 := hyes.2.2.1
  have p1 := p1.ext (x4.trans x5)
  have p2 := o2.ext (x4.trans x5)
  refine p1.ldA rfl ?_
  refine p2.ldA rfl ?_
  refine (impl_stack_c (c := c) (d := d) (rs.ext X5) (rt.ext X5) hS16 hT16).to ?_
  rintro _ h6 ⟨u, rfl, pu, fu, x6⟩
  refine ⟨_, rfl, _, rfl, _, rfl, _, rfl, ?_⟩
  have X6 := X5.trans x6
  refine newO_obj fun h7 o7 x7 n7 => ?_
  refine o7.stA fun h8 o8 b8 n8 => ?_
  have x8 : Ext h6 h8 := x7.but_ b8 (some_le (Nat.le_refl _))
  have X8 := X6.trans x8
  refine bif_ne (fun hne => SpRes.no (codeSp_e hyes hne) hne X8) (fun he => ?_)
  have pu8 := pu.ext x8
  have hLl := (stkE_0 he).2
  refine o8.ldA rfl ?_
  refine (isRow_c (c := (stkF c d S T).1) pu8.rd (by omega) (rv.ext X8) hl).to ?_
  rintro b h9 ⟨hb9, x9⟩
  refine bif_not (fun hq => SpRes.no (codeSp_2 hyes he fun h => by rw [hb9.2 h] at hq; cases hq) (by decide) (X8.trans x9)) (fun hq => ?_)
  have hrow := hb9.1 hq
  have hc0 := codeSp_0 hyes he hrow
  have X9 := X8.trans x9
  have o9 := o8.ext x9
  have pu9 := pu8.ext x9
  refine newS_ow (by rfl) fun a h10 oa la ao ea => ?_
  have x10 : Ext h9 h10 := by rw [ea]; exact Ext.app _ _
  have l10 : h10.length = h9.length + 1 := by rw [ea]; simp
  refine newS_ow (by rfl) fun b h11 ob lb bo eb => ?_
  have x11 : Ext h10 h11 := by rw [eb]; exact Ext.app _ _
  have l11 : h11.length = h10.length + 1 := by rw [eb]; simp
  have y11 : Ext h5 h11 := x6.trans (x8.trans (x9.trans (x10.trans x11)))
  have p1 := p1.ext y11
  have p2 := p2.ext y11
  have X11 := X5.trans y11
  refine isPt_in (p1.ldS rfl rfl ?_)
  refine isPt_in (p2.ldS rfl rfl ?_)
  refine (stacked_c (rs.ext X11) (rt.ext X11) (by omega) hT16).to ?_
  rintro w h12 ⟨ow, fw, x12⟩
  have X12 := X11.trans x12
  refine isPt_in ((p1.ext x12).ldS rfl rfl ?_)
  refine isPt_in ((p2.ext x12).ldS rfl rfl ?_)
  refine (stackTiles_c (rs.ext X12) (rt.ext X12) (by omega) hT16).to ?_
  rintro _ h13 ⟨z, rfl, oz, fz, x13⟩
  refine ⟨_, rfl, _, rfl, _, rfl, _, rfl, ?_⟩
  have X13 := X12.trans x13
  have y13 : Ext h11 h13 := x12.trans x13
  have rz := oz.rd
  have rw_ := ow.rd.ext x13
  have hbl : (stkT S T).length = (stkI S T S.length).length := by unfold stkT; rw [List.length_map]
  have hes := stkI_len S T S.length
  have hbnd : S.length * T.length ≤ 16 * 16 := Nat.mul_le_mul hS16 hT16
  have ru := (pu9.ext (x10.trans (x11.trans y13))).rd
  have o13 := o9.ext (x10.trans (x11.trans y13))
  have hy13 := y13.len
  have hX9 := X9.len
  refine impl_SplitRow_rule1 _ _ _ _ _ _ _ (fun a b i g => ∃ k : Nat, i = k ∧ k ≤ l.length ∧ Ow g a 1 (ic ((l.take k).map fun k => (spP S T (tat (stkF c d S T).2 k)).1)) ∧ Ow g b 1 (ic ((l.take k).map fun k => (spP S T (tat (stkF c d S T).2 k)).2)) ∧ a.o = some h9.length ∧ b.o = some h10.length ∧ Chg (fun i => i = h9.length ∨ i = h10.length) h13 g) (fun _ _ i _ => ((l.length : Int) - i).toNat) ?_ _ _ _
    ⟨0, rfl, by omega, by simpa [ic] using (oa.ext (x11.trans y13)), by simpa [ic] using ob.ext y13, ao, bo, Chg.refl _ _⟩
  rintro X1 a b _ g ⟨k, rfl, hk, oa, ob, ao, bo, ch⟩ hX
  unfold impl_SplitRow_b1
  refine bif_dec (fun hi => ?_) (fun hi => ?_)
  rotate_left
  · have e : k = l.length := by omega
    subst e
    rw [List.take_length] at oa ob
    unfold impl_SplitRow_C1
    refine ⟨a, b, by rw [hc0], by rw [F_Sp0 hc0]; exact oa, fun o e => by rw [ao] at e; cases e; omega, by rw [F_Sp1 hc0]; exact ob, fun o e => by rw [bo] at e; cases e; omega, fun o e e2 => by rw [ao] at e; rw [bo] at e2; cases e; have := Option.some.inj e2; omega, X13.chg_ ch fun i e => by omega⟩
  have hkl : k < l.length := by omega
  have x913 : Ext h9 h13 := x10.trans (x11.trans y13)
  have Xg : Ext h0 g := X13.chg_ ch fun i e => by omega
  have E9 : Ext h9 g := x913.chg_ ch fun i e => by omega
  have rug := (pu9.ext E9).rd
  have og := o9.ext E9
  have hx12 := x12.len
  have rzg := rz.chg ch fun i e => by have := fz i e; omega
  have rwg := rw_.chg ch fun i e => by have := fw i e; omega
  have hE9 := E9.len
  have hch := ch.1
  refine (rv.ext Xg).ldG (by omega) (by omega) ?_
  rw [Int.toNat_natCast]
  have hkk := (hrow.2 k hkl).1
  refine isPt_in (og.ldS rfl rfl ?_)
  refine rug.tileG (by omega) (by omega) ?_
  refine (index_c rzg (by omega) _).to ?_
  rintro n g1 ⟨hn, y1⟩
  have hm := idxT_mem (stkF_mem he hkk)
  rw [← hn] at hm
  have hnn : n.toNat < (stkI S T S.length).length := by omega
  have hspl : spP S T (tat (stkF c d S T).2 (l.getD k 0)) = (stkI S T S.length)[n.toNat] := by
    unfold spP
    rw [← hn, List.getD_eq_getElem?_getD, List.getElem?_eq_getElem hnn]; rfl
  rw [show n = ((n.toNat : Nat) : Int) by omega]
  refine (rwg.ext y1).ldP hnn ?_
  rw [← hspl]
  generalize hE : spP S T (tat (stkF c d S T).2 (l.getD k 0)) = E
  refine newO_obj fun g2 q2 y2 m2 => ?_
  refine q2.stA fun g3 q3 c3 m3 => ?_
  refine slotK_in fun g4 y4 m4 => ?_
  have z3 : Ext g g3 := y1.trans (y2.but_ c3 (some_le (Nat.le_refl _)))
  have z4 := z3.trans y4
  have q4 := q3.ext y4
  have hy1 := y1.len
  refine ix2 q4 0 (by omega) fun p13 hp13 => ?_
  refine ix2 q4 1 (by omega) fun p15 hp15 => ?_
  have oa4 := oa.ext z4
  have ob4 := ob.ext z4
  have hq3 := q3.lt
  have hE4 := cell_pc q4
  refine newSat_ow (by omega) (by rfl) fun t5 g5 ot5 lt5 to5 b5 m5 => ?_
  have q5 := q4.but b5 (fun e => by have := Option.some.inj e; omega)
  refine ⟨by rw [hp15, cell_pc q5 1 (by omega), cell_pc q4 1 (by omega)], ?_⟩
  have oa5 := oa4.but b5 (.inl fun e => by rw [ao] at e; have := Option.some.inj e; omega)
  have ob5 := ob4.but b5 (.inl fun e => by rw [bo] at e; have := Option.some.inj e; omega)
  have hal : a.len = k := by have := oa5.rd.ilen; rw [List.length_map, List.length_take] at this; omega
  have hbl' : b.len = k := by have := ob5.rd.ilen; rw [List.length_map, List.length_take] at this; omega
  refine app_ow (by omega) oa5 ot5.rd (by rw [lt5, hal]; unfold lim; omega) fun a2 g6 oa6 la6 b6 k1 _ => ?_
  have q6 := q5.but b6 (fun e => by rw [ao] at e; have := Option.some.inj e; omega)
  have ob6 := ob5.but b6 (.inl fun e => by rw [ao, bo] at e; have := Option.some.inj e; omega)
  have h6l := b6.1
  refine ⟨by rw [hp15, cell_pc q6 1 (by omega), cell_pc q4 1 (by omega)], ?_⟩
  have a2o := k1 _ ao
  refine newSat_ow (by omega) (by rfl) fun t7 g7 ot7 lt7 to7 b7 m7 => ?_
  have q7 := q6.but b7 (fun e => by have := Option.some.inj e; omega)
  refine ⟨by rw [hp13, cell_pc q6 0 (by omega), cell_pc q4 0 (by omega)], by rw [hp13, cell_pc q7 0 (by omega), cell_pc q4 0 (by omega)], ?_⟩
  have oa7 := oa6.but b7 (.inl fun e => by rw [a2o] at e; have := Option.some.inj e; omega)
  have ob7 := ob6.but b7 (.inl fun e => by rw [bo] at e; have := Option.some.inj e; omega)
  refine app_ow (by omega) ob7 ot7.rd (by rw [lt7, hbl']; unfold lim; omega) fun b2 g8 ob8 lb8 b8 k3 _ => ?_
  have b2o := k3 _ bo
  have oa8 := oa7.but b8 (.inl fun e => by rw [a2o, bo] at e; have := Option.some.inj e; omega)
  rw [w64_of (by omega) (by omega)]
  have hlk : l[k] = l.getD k 0 := by rw [List.getD_eq_getElem?_getD, List.getElem?_eq_getElem hkl]; rfl
  refine hX _ _ _ _ ⟨k + 1, by push_cast; rfl, by omega, ?_, ?_, a2o, b2o, ?_⟩ (by omega)
  · rw [List.take_succ_eq_append_getElem hkl, List.map_append, ic_app, hlk]
    simp only [List.map_cons, List.map_nil, hE]
    exact oa8
  · rw [List.take_succ_eq_append_getElem hkl, List.map_append, ic_app, hlk]
    simp only [List.map_cons, List.map_nil, hE]
    exact ob8
  · have n5 : Chg (fun i => g.length ≤ i ∨ i = h9.length ∨ i = h10.length) g g8 := (z4.chg _).trans ((b5.chg fun i e => by have := Option.some.inj e; omega).trans ((b6.chg fun i e => by rw [ao] at e; have := Option.some.inj e; omega).trans ((b7.chg fun i e => by have := Option.some.inj e; omega).trans (b8.chg fun i e => by rw [bo] at e; have := Option.some.inj e; omega))))
    exact ch.trans (n5.to fun i hi e => by omega)
end
section
variable {c d : Int} {ts S T : List Tile}
theorem numP_lt {P : List (Int × Int)} (hn : P.Nodup) {e : Int × Int} (he : e ∈ P) : 0 ≤ numP P e ∧ numP P e < P.length := by
  obtain ⟨j, hj, rfl⟩ := List.getElem_of_mem he
  rw [numP_at hn hj]; omega
theorem stk_ok (hS : setOK c S) (hT : setOK d T) (he : stkE c d S T = 0) : setOK (stkF c d S T).1 (stkF c d S T).2 := by
  have hf : fitS (stkC c d S T) (stkT S T) := by
    unfold stkE at he
    split at he
    · assumption
    · cases he
  have e1 : stkF c d S T = (stkC c d S T, dsT (stkT S T)) := by unfold stkF; rw [if_pos hf]
  have m1 : ∀ a b : Int, a ≤ mxI a b ∧ b ≤ mxI a b := fun a b => by unfold mxI; split <;> omega
  have g1 := m1 ((prsP S T).length : Nat) c
  have g2 := m1 (mxI ((prsP S T).length : Nat) c) d
  have hC : ((prsP S T).length : Int) ≤ stkC c d S T ∧ c ≤ stkC c d S T ∧ d ≤ stkC c d S T := by unfold stkC; omega
  have hc1 := hS.1.1
  rw [e1]
  refine setOK_of (by show (1 : Int) ≤ stkC c d S T; omega) hf.1 hf.2 (pw_dsort ltT_sto _) fun t ht k hk => ?_
  have ht' := mem_dsort.1 ht
  unfold stkT at ht'
  obtain ⟨e, hes, rfl⟩ := List.mem_map.1 ht'
  obtain ⟨i, j, rfl, hi, hj, hq⟩ := stkI_mem hes
  obtain ⟨p0, p2⟩ := allP_mem hi hj hq
  have n0 := numP_lt (prsP_nodup S T) (prsP_mem.2 p0)
  have n2 := numP_lt (prsP_nodup S T) (prsP_mem.2 p2)
  have s1 := hS.side (k := 1) (by omega) hi
  have s3 := hT.side (k := 3) (by omega) hj
  show 0 ≤ sd (stile S T ((i : Int), (j : Int))) k ∧ sd (stile S T ((i : Int), (j : Int))) k < stkC c d S T
  have hk' : k = 0 ∨ k = 1 ∨ k = 2 ∨ k = 3 := by omega
  rcases hk' with rfl | rfl | rfl | rfl
  · show 0 ≤ numP _ _ ∧ numP _ _ < _; omega
  · show 0 ≤ sd (tat S (i : Int)) 1 ∧ sd (tat S (i : Int)) 1 < _; omega
  · show 0 ≤ numP _ _ ∧ numP _ _ < _; omega
  · show 0 ≤ sd (tat T (j : Int)) 3 ∧ sd (tat T (j : Int)) 3 < _; omega
end
end Go.Proofs.YtcoampecbpiecaaGreat.Cl

/- The reference's SplitRow. No claim is stated here. -/
set_option linter.unusedVariables false
set_option linter.unusedSimpArgs false
namespace Go.Proofs.YtcoampecbpiecaaGreat.Cl
open Go
section
variable {h0 : H} {s t v : Sl} {S T : List Tile} {c d : Int} {l : List Int}
theorem stk0_yes (h : F_StackSets_1 c S d T = 0) : (setOK c S ∧ setOK d T) ∧ stkE c d S T = 0 ∧ F_StackSets_0 c S d T = stkF c d S T := by
  unfold F_StackSets_1 at h
  unfold F_StackSets_0
  split at h
  · next hy => rw [if_pos hy]; exact ⟨hy, h, rfl⟩
  · cases h
theorem stk0_no (h : F_StackSets_1 c S d T ≠ 0) : F_StackSets_1 c S d T = codeSp c S d T l := by
  unfold F_StackSets_1 at h ⊢
  split at h
  · next hy => rw [if_pos hy]; exact codeSp_e hy h
  · next hy => rw [if_neg hy]; exact codeSp_1 hy
/-- The two lists of SplitRow, as they grow. -/
def SpL (L : List Tile) (S T : List Tile) (l : List Int) (A0 B0 : Nat) (hb : H) (a b : Sl) (k : Nat) (g : H) : Prop :=
  Ow g a 1 (ic ((l.take k).map fun k => (spP S T (tat L k)).1)) ∧ Ow g b 1 (ic ((l.take k).map fun k => (spP S T (tat L k)).2)) ∧ a.o = some A0 ∧ b.o = some B0 ∧ Chg (fun i => i = A0 ∨ i = B0) hb g
theorem SpL.ext {L S T l A0 B0 hb a b k g g'} (r : SpL L S T l A0 B0 hb a b k g) (y : Ext g g') : SpL L S T l A0 B0 hb a b k g' := by
  obtain ⟨r1, r2, r3, r4, r5⟩ := r
  exact ⟨r1.ext y, r2.ext y, r3, r4, r5.trans (y.chg _)⟩
theorem SpL.push {L S T l A0 B0 hb a b k g} (r : SpL L S T l A0 B0 hb a b k g) (hAB : A0 ≠ B0) (hk : k < l.length) (hl : l.length ≤ 1048576) {e : Int × Int} (he : spP S T (tat L (l.getD k 0)) = e) {K : Sl → Sl → H → Prop}
    (hK : ∀ a' b' g', SpL L S T l A0 B0 hb a' b' (k + 1) g' → g.length ≤ g'.length → K a' b' g') :
    newS 1 1 [.int .i64 e.1] g fun s23 h24 => app a s23 1 h24 fun s25 h26 => newS 1 1 [.int .i64 e.2] h26 fun s27 h28 => app b s27 1 h28 fun s29 h30 => K s25 s29 h30 := by
  obtain ⟨r1, r2, r3, r4, r5⟩ := r
  have hlk : l[k] = l.getD k 0 := by rw [List.getD_eq_getElem?_getD, List.getElem?_eq_getElem hk]; rfl
  refine pushI4 r1 (by rw [List.length_map, List.length_take]; unfold lim; omega) fun a' g1 o1 b1 k1 => ?_
  have a1 := k1 _ r3
  refine pushI4 (r2.but b1 (.inl fun e => by rw [r3, r4] at e; exact hAB (Option.some.inj e))) (by rw [List.length_map, List.length_take]; unfold lim; omega) fun b' g2 o2 b2 k2 => ?_
  have b2o := k2 _ r4
  have hc1 := b1.1
  have hc2 := b2.1
  refine hK _ _ _ ⟨?_, ?_, a1, b2o, r5.trans ((b1.chg fun i e => by rw [r3] at e; exact .inl (Option.some.inj e).symm).trans (b2.chg fun i e => by rw [r4] at e; exact .inr (Option.some.inj e).symm))⟩ (by omega)
  · rw [List.take_succ_eq_append_getElem hk, List.map_append, hlk]
    simp only [List.map_cons, List.map_nil, he]
    exact o1.but b2 (.inl fun e => by rw [a1, r4] at e; exact hAB (Option.some.inj e).symm)
  · rw [List.take_succ_eq_append_getElem hk, List.map_append, hlk]
    simp only [List.map_cons, List.map_nil, he]
    exact o2
theorem spec_SplitRow_c (rs : Rd h0 s 4 (tcs S)) (rt : Rd h0 t 4 (tcs T)) (rv : Rd h0 v 1 (ic l)) (hS : S.length ≤ 1048576) (hT : T.length ≤ 1048576) (hl : l.length ≤ 1048576) :
    callV SP i_spec_SplitRow [.agg (SetC c s), .agg (SetC d t), .sl v] h0 (SpRes c S d T l h0) := by
  have hvl := rv.ilen
  have hsl := rs.tlen
  have htl := rt.tlen
  apply spec_SplitRow_call
  unfold spec_SplitRow_main
  refine newK_obj fun h1 o1 x1 n1 => ?_
  refine newK_obj fun h2 o2 x2 n2 => ?_
  have p1 := o1.ext x2
  have X := x1.trans x2
  refine p1.ldA rfl ?_
  refine o2.ldA rfl ?_
  refine (spec_StackSets_c (c := c) (d := d) (rs.ext X) (rt.ext X) hS hT).to ?_
  rintro _ h3 ⟨u, rfl, pu, fu, x3⟩
  refine ⟨_, rfl, _, rfl, _, rfl, _, rfl, ?_⟩
  refine newO_obj fun h4 o4 x4 n4 => ?_
  refine o4.stA fun h5 o5 b5 n5 => ?_
  have x5 : Ext h3 h5 := x4.but_ b5 (some_le (Nat.le_refl _))
  have x35 := x3.trans x5
  have X5 := X.trans x35
  refine bif_eq (fun he => ?_) (fun hne => bif_ne (fun _ => SpRes.no (stk0_no hne) hne X5) (fun h => absurd h hne))
  obtain ⟨hyes, hE, hF⟩ := stk0_yes he
  rw [hF] at pu o5
  have hS16 := hyes.1.2.1
  have hT16 := hyes.2.2.1
  have hLl := (stkE_0 hE).2
  have pu5 := pu.ext x5
  have p1 := p1.ext x35
  have p2 := o2.ext x35
  refine o5.ldA rfl ?_
  refine (l02Row_c (c := (stkF c d S T).1) pu5.rd (by omega) (rv.ext X5) hl).to ?_
  rintro b h6 ⟨hb6, x6⟩
  have X6 := X5.trans x6
  refine bif_not (fun hq => ?_) (fun hq => ?_)
  · exact SpRes.no (codeSp_2 hyes hE fun h => by rw [hb6.2 h] at hq; cases hq) (by decide) X6
  have hrow := hb6.1 hq
  have hc0 := codeSp_0 hyes hE hrow
  refine bif_ne (fun h => absurd he h) (fun _ => ?_)
  have p1 := p1.ext x6
  have p2 := p2.ext x6
  have p5 := o5.ext x6
  refine p1.ldA rfl ?_
  refine p2.ldA rfl ?_
  refine (l04Pairs_c (c := c) (d := d) (rs.ext X6) (rt.ext X6) hyes.1 hyes.2).to ?_
  rintro q h7 ⟨rq, x7⟩
  have X7 := X6.trans x7
  refine newS_ow (by rfl) fun a h8 oa la ao ea => ?_
  have x8 : Ext h7 h8 := by rw [ea]; exact Ext.app _ _
  have l8 : h8.length = h7.length + 1 := by rw [ea]; simp
  refine newS_ow (by rfl) fun b h9 ob lb bo eb => ?_
  have x9 : Ext h8 h9 := by rw [eb]; exact Ext.app _ _
  have l9 : h9.length = h8.length + 1 := by rw [eb]; simp
  have x79 := x8.trans x9
  have p1 := p1.ext (x7.trans x79)
  have p2 := p2.ext (x7.trans x79)
  have p5 := p5.ext (x7.trans x79)
  have pu9 := pu5.ext (x6.trans (x7.trans x79))
  have hp1 := p1.lt
  have rq9 := rq.ext x79
  have hX7 := X7.len
  have hl27 := (x35.trans (x6.trans x7)).len
  have hl57 := (x6.trans x7).len
  have hl3 := x3.len
  have hAB : h7.length ≠ h8.length := by omega
  refine spec_SplitRow_rule0 _ _ _ _ _ _ _ (fun a b i g => ∃ k : Nat, i = k ∧ k ≤ l.length ∧ SpL (stkF c d S T).2 S T l h7.length h8.length h9 a b k g) (fun _ _ i _ => ((l.length : Int) - i).toNat) ?_ _ _ _
    ⟨0, rfl, by omega, by simpa [ic] using oa.ext x9, by simpa [ic] using ob, ao, bo, Chg.refl _ _⟩
  rintro X0 a b _ g ⟨k, rfl, hk, hL⟩ hX
  unfold spec_SplitRow_b0
  refine bif_dec (fun hi => ?_) (fun hi => ?_)
  rotate_left
  · have e : k = l.length := by omega
    obtain ⟨oa, ob, ao, bo, ch⟩ := hL
    subst e
    rw [List.take_length] at oa ob
    unfold spec_SplitRow_C0
    exact ⟨a, b, by rw [hc0], by rw [F_Sp0 hc0]; exact oa, (fun o e => by rw [ao] at e; cases e; omega), by rw [F_Sp1 hc0]; exact ob, (fun o e => by rw [bo] at e; cases e; omega), (fun o e e2 => by rw [ao] at e; rw [bo] at e2; cases e; have := Option.some.inj e2; omega), (X7.trans x79).chg_ ch fun i e => by omega⟩
  have hkl : k < l.length := by omega
  have hkk := (hrow.2 k hkl).1
  have hmem := stkF_mem hE hkk
  have E : ∀ {g : H}, Chg (fun i => i = h7.length ∨ i = h8.length) h9 g → Ext h7 g := fun ch => x79.chg_ ch fun i e => by omega
  generalize ht : tat (stkF c d S T).2 (l.getD k 0) = tt at hmem
  refine spec_SplitRow_rule2 _ _ X0 _ _ _ _ _ _ (fun a b f i g => ∃ z : Nat, i = z ∧ z ≤ S.length ∧ SpL (stkF c d S T).2 S T l h7.length h8.length h9 a b (if f then k + 1 else k) g ∧ (f = false → ∀ e ∈ stkI S T z, tt ≠ stile S T e)) (fun _ _ _ i _ => ((S.length : Int) - i).toNat) ?_ _ _ _ _
    ⟨0, rfl, by omega, by simpa using hL, fun _ e he => by simp [stkI] at he⟩
  clear hL
  rintro X2 a b f _ g ⟨z, rfl, hz, hL, hno⟩ hY
  unfold spec_SplitRow_b2
  have Eg := X7.trans (E hL.2.2.2.2)
  have q1 := p1.chg hL.2.2.2.2 (by omega)
  have fin : f = true ∨ z = S.length → spec_SplitRow_C2 SP (SpRes c S d T l h0) X0 v ⟨some h0.length, 2, 0⟩ ⟨some h1.length, 2, 0⟩ ⟨some h3.length, 2, 0⟩ q a b (k : Int) g := fun hf => by
    unfold spec_SplitRow_C2 spec_SplitRow_C1
    rw [w64_of (by omega) (by omega)]
    have hft : f = true := by
      rcases hf with hf | hf
      · exact hf
      · cases f with
        | true => rfl
        | false =>
          have hmem2 := hmem
          unfold stkT at hmem2
          obtain ⟨e, he, e2⟩ := List.mem_map.1 hmem2
          exact absurd e2.symm (hno rfl e (by rw [hf]; exact he))
    subst hft
    exact hX _ _ _ _ ⟨k + 1, by push_cast; rfl, by omega, by simpa using hL⟩ (by omega)
  refine isPt_in (q1.ldS rfl rfl ?_)
  refine bif_dec (fun hj => ?_) (fun hj => fin (.inr (by omega)))
  refine bif_not (fun hf => ?_) (fun hf => fin (.inl hf))
  subst hf
  have hzl : z < S.length := by omega
  refine spec_SplitRow_rule4 _ _ X0 X2 _ _ _ _ _ _ _ (fun a b f i g => ∃ w : Nat, i = w ∧ w ≤ T.length ∧ SpL (stkF c d S T).2 S T l h7.length h8.length h9 a b (if f then k + 1 else k) g ∧ (f = false → ∀ e ∈ stkI S T z ++ stkR S T z w, tt ≠ stile S T e)) (fun _ _ _ i _ => ((T.length : Int) - i).toNat) ?_ _ _ _ _
    ⟨0, rfl, by omega, hL, fun _ e he => hno rfl e (by simpa [stkR] using he)⟩
  clear hL fin q1 Eg hno
  rintro X4 a b f _ g ⟨w, rfl, hw, hL, hno⟩ hZ
  unfold spec_SplitRow_b4
  have Eg := X7.trans (E hL.2.2.2.2)
  have q1 := p1.chg hL.2.2.2.2 (by omega)
  have q2 := p2.chg hL.2.2.2.2 (by omega)
  have fin : f = true ∨ w = T.length → spec_SplitRow_C4 SP (SpRes c S d T l h0) X0 X2 v ⟨some h0.length, 2, 0⟩ ⟨some h1.length, 2, 0⟩ ⟨some h3.length, 2, 0⟩ q a b (k : Int) f (z : Int) g := fun hf => by
    unfold spec_SplitRow_C4 spec_SplitRow_C3
    rw [w64_of (by omega) (by omega)]
    refine hY _ _ _ _ _ ⟨z + 1, by push_cast; rfl, by omega, hL, fun e2 e he => ?_⟩ (by omega)
    rcases hf with hf | hf
    · rw [hf] at e2; cases e2
    · rw [stkI_succ, ← hf] at he
      exact hno e2 e he
  refine isPt_in (q2.ldS rfl rfl ?_)
  refine bif_dec (fun hj2 => ?_) (fun hj2 => fin (.inr (by omega)))
  refine bif_not (fun hf => ?_) (fun hf => fin (.inl hf))
  subst hf
  have hwl : w < T.length := by omega
  have skip : ∀ {g' : H}, Ext g g' → (sd (tat S (z : Int)) 3 = sd (tat T (w : Int)) 1 → tt ≠ stile S T ((z : Int), (w : Int))) → X4 (spec_SplitRow_e4 v ⟨some h0.length, 2, 0⟩ ⟨some h1.length, 2, 0⟩ ⟨some h3.length, 2, 0⟩ q a b (k : Int) false (z : Int) (w64 ((w : Int) + 1))) g' := fun {g'} y hq => by
    rw [w64_of (by omega) (by omega)]
    refine hZ _ _ _ _ _ ⟨w + 1, by push_cast; rfl, by omega, hL.ext y, fun _ e he => ?_⟩ (by omega)
    rw [stkR_succ, ← List.append_assoc] at he
    rcases List.mem_append.1 he with he | he
    · exact hno rfl e he
    · split at he
      · next hqq => rw [List.mem_singleton] at he; subst he; exact hq hqq
      · cases he
  refine isPt_in (q1.ldS rfl rfl ?_)
  refine (rs.ext Eg).sideG (by omega) (by omega) (by omega) (by omega) ?_
  refine isPt_in (q2.ldS rfl rfl ?_)
  refine (rt.ext Eg).sideG (by omega) (by omega) (by omega) (by omega) ?_
  refine bif_eq (fun hq => ?_) (fun hq => skip (Ext.refl _) fun h => absurd h hq)
  have hq' : sd (tat S (z : Int)) 3 = sd (tat T (w : Int)) 1 := hq
  refine isPt_in (q1.ldS rfl rfl ?_)
  refine (rs.ext Eg).tileG (by omega) (by omega) ?_
  refine isPt_in (q2.ldS rfl rfl ?_)
  refine (rt.ext Eg).tileG (by omega) (by omega) ?_
  have E7 := E hL.2.2.2.2
  refine (l04Tile_c (c := c) (d := d) hyes.1 hyes.2 hzl hwl hq' (rq.ext E7)).to ?_
  rintro _ g2 ⟨rfl, y2⟩
  have q5 := p5.chg hL.2.2.2.2 (by omega)
  have q5' := q5.ext y2
  refine isPt_in (q5'.ldS rfl rfl ?_)
  refine ⟨(q5.cellE (n := 2) rfl).trans (q5'.cellE (n := 2) rfl).symm, ?_⟩
  refine (rv.ext Eg).ixC (by omega) (by omega) fun p18 hp18 => ?_
  rw [Int.toNat_natCast] at hp18
  refine ⟨_, y2.cell hp18, by rw [hp18, y2.cell hp18], ?_⟩
  have pug := pu5.ext (x6.trans (x7.trans E7))
  refine pug.rd.ixT (by omega) (by omega) fun p20 _ hp20 => ?_
  refine ⟨_, y2.range hp20, by rw [hp20, y2.range hp20], ?_⟩
  rw [ht]
  refine eqA_tc ?_
  refine bif_dec (fun heq => ?_) (fun hneq => skip y2 fun _ h => hneq h.symm)
  have hspP := spP_of hzl hwl hq' heq.symm (hno rfl)
  rw [← ht] at hspP
  refine (hL.ext y2).push hAB (by exact hkl) hl (e := ((z : Int), (w : Int))) hspP fun a' b' g' hL' hg' => ?_
  rw [w64_of (by omega) (by omega)]
  exact hZ _ _ _ _ _ ⟨w + 1, by push_cast; rfl, by omega, by simpa using hL', fun h => by cases h⟩ (by omega)
end
end Go.Proofs.YtcoampecbpiecaaGreat.Cl

/- Rows of stacks are rows of both sets one above the other: plain. No claim is stated here. -/
set_option linter.unusedVariables false
set_option linter.unusedSimpArgs false
namespace Go.Proofs.YtcoampecbpiecaaGreat.Cl
open Go
section
variable {S T : List Tile} {c d : Int} {l : List Int}
theorem spP_spec {t : Tile} (ht : t ∈ stkT S T) : spP S T t ∈ stkI S T S.length ∧ stile S T (spP S T t) = t := by
  have hm := idxT_mem ht
  unfold idxT at hm
  cases hq : (stkT S T).findIdx? (fun x => decide (t = x)) with
  | none => rw [hq] at hm; simp at hm
  | some k =>
    have hk := hq
    rw [List.findIdx?_eq_some_iff_getElem] at hk
    obtain ⟨h1, h2, _⟩ := hk
    have hl : k < (stkI S T S.length).length := by unfold stkT at h1; rw [List.length_map] at h1; exact h1
    have e : spP S T t = (stkI S T S.length)[k] := by
      unfold spP idxT
      rw [hq]
      simp only [Int.toNat_natCast]
      rw [List.getD_eq_getElem?_getD, List.getElem?_eq_getElem hl]; rfl
    rw [e]
    refine ⟨List.getElem_mem hl, ?_⟩
    have h3 := of_decide_eq_true h2
    rw [h3]
    exact (List.getElem_map (f := stile S T) (l := stkI S T S.length)).symm
theorem numP_inj {P : List (Int × Int)} (hn : P.Nodup) {a b : Int × Int} (ha : a ∈ P) (hb : b ∈ P) (h : numP P a = numP P b) : a = b := by
  obtain ⟨i, hi, rfl⟩ := List.getElem_of_mem ha
  obtain ⟨j, hj, rfl⟩ := List.getElem_of_mem hb
  rw [numP_at hn hi, numP_at hn hj] at h
  have : i = j := by omega
  subst this; rfl
def wordL (S : List Tile) (l : List Int) (k : Nat) : List Int := l.map fun i => sd (tat S i) k
noncomputable def upL (L S T : List Tile) (l : List Int) : List Int := l.map fun k => (spP S T (tat L k)).1
noncomputable def loL (L S T : List Tile) (l : List Int) : List Int := l.map fun k => (spP S T (tat L k)).2
theorem map_getD {f : Int → Int} {k : Nat} (hk : k < l.length) : (l.map f).getD k 0 = f (l.getD k 0) := by
  rw [List.getD_eq_getElem?_getD, List.getD_eq_getElem?_getD, List.getElem?_map, List.getElem?_eq_getElem hk]; rfl
theorem split_at (hE : stkE c d S T = 0) (hrow : rowOK (stkF c d S T).2 l) {k : Nat} (hk : k < l.length) : ∃ i j : Nat, spP S T (tat (stkF c d S T).2 (l.getD k 0)) = ((i : Int), (j : Int)) ∧ i < S.length ∧ j < T.length ∧ sd (tat S (i : Int)) 3 = sd (tat T (j : Int)) 1 ∧ stile S T ((i : Int), (j : Int)) = tat (stkF c d S T).2 (l.getD k 0) := by
  have hm := stkF_mem hE (hrow.2 k hk).1
  obtain ⟨h1, h2⟩ := spP_spec hm
  obtain ⟨i, j, e, hi, hj, hq⟩ := stkI_mem h1
  exact ⟨i, j, e, hi, hj, hq, by rw [← e]; exact h2⟩
theorem split_rows (hE : stkE c d S T = 0) (hrow : rowOK (stkF c d S T).2 l) : rowOK S (upL (stkF c d S T).2 S T l) ∧ rowOK T (loL (stkF c d S T).2 S T l) := by
  have hu : (upL (stkF c d S T).2 S T l).length = l.length := List.length_map _
  have ho : (loL (stkF c d S T).2 S T l).length = l.length := List.length_map _
  have key : ∀ k, 0 < k → k < l.length → prOf S T (spP S T (tat (stkF c d S T).2 (l.getD (k - 1) 0))) 2 = prOf S T (spP S T (tat (stkF c d S T).2 (l.getD k 0))) 0 := fun k h0 hk => by
    obtain ⟨i, j, e1, hi, hj, hq, hs⟩ := split_at hE hrow (show k - 1 < l.length by omega)
    obtain ⟨i2, j2, e2, hi2, hj2, hq2, hs2⟩ := split_at hE hrow hk
    have h := (hrow.2 k hk).2 h0
    rw [← hs, ← hs2] at h
    rw [e1, e2]
    exact numP_inj (prsP_nodup S T) (prsP_mem.2 (allP_mem hi hj hq).2) (prsP_mem.2 (allP_mem hi2 hj2 hq2).1) h
  refine ⟨⟨by rw [hu]; exact hrow.1, fun k hk => ?_⟩, ⟨by rw [ho]; exact hrow.1, fun k hk => ?_⟩⟩
  · rw [hu] at hk
    obtain ⟨i, j, e1, hi, hj, hq, hs⟩ := split_at hE hrow hk
    refine ⟨?_, fun h0 => ?_⟩
    · unfold upL
      rw [map_getD hk, e1]
      show 0 ≤ (i : Int) ∧ (i : Int) ≤ _
      omega
    · have h := congrArg Prod.fst (key k h0 hk)
      unfold upL
      rw [map_getD hk, map_getD (show k - 1 < l.length by omega)]
      exact h
  · rw [ho] at hk
    obtain ⟨i, j, e1, hi, hj, hq, hs⟩ := split_at hE hrow hk
    refine ⟨?_, fun h0 => ?_⟩
    · unfold loL
      rw [map_getD hk, e1]
      show 0 ≤ (j : Int) ∧ (j : Int) ≤ _
      omega
    · have h := congrArg Prod.snd (key k h0 hk)
      unfold loL
      rw [map_getD hk, map_getD (show k - 1 < l.length by omega)]
      exact h
theorem map_ext {f g : Int → Int} (h : ∀ k, k < l.length → f (l.getD k 0) = g (l.getD k 0)) : l.map f = l.map g := by
  refine List.map_congr_left fun a ha => ?_
  obtain ⟨k, hk, rfl⟩ := List.getElem_of_mem ha
  have := h k hk
  rw [List.getD_eq_getElem?_getD, List.getElem?_eq_getElem hk] at this
  exact this
theorem split_mid (hE : stkE c d S T = 0) (hrow : rowOK (stkF c d S T).2 l) : wordL S (upL (stkF c d S T).2 S T l) 3 = wordL T (loL (stkF c d S T).2 S T l) 1 := by
  unfold wordL upL loL
  rw [List.map_map, List.map_map]
  refine map_ext fun k hk => ?_
  obtain ⟨i, j, e1, hi, hj, hq, hs⟩ := split_at hE hrow hk
  simp only [Function.comp_apply, e1]
  exact hq
theorem split_north (hE : stkE c d S T = 0) (hrow : rowOK (stkF c d S T).2 l) : wordL (stkF c d S T).2 l 1 = wordL S (upL (stkF c d S T).2 S T l) 1 := by
  unfold wordL upL
  rw [List.map_map]
  refine map_ext fun k hk => ?_
  obtain ⟨i, j, e1, hi, hj, hq, hs⟩ := split_at hE hrow hk
  simp only [Function.comp_apply, e1]
  rw [← hs]; rfl
theorem split_south (hE : stkE c d S T = 0) (hrow : rowOK (stkF c d S T).2 l) : wordL (stkF c d S T).2 l 3 = wordL T (loL (stkF c d S T).2 S T l) 3 := by
  unfold wordL loL
  rw [List.map_map]
  refine map_ext fun k hk => ?_
  obtain ⟨i, j, e1, hi, hj, hq, hs⟩ := split_at hE hrow hk
  simp only [Function.comp_apply, e1]
  rw [← hs]; rfl
end
end Go.Proofs.YtcoampecbpiecaaGreat.Cl

/- Words of rows, pairs of stacks, equal sets: walks. No claim is stated here. -/
set_option linter.unusedVariables false
set_option linter.unusedSimpArgs false
namespace Go.Proofs.YtcoampecbpiecaaGreat.Cl
open Go
section
variable {h : H} {u w v : Sl} {c d : Int} {L S T : List Tile} {l : List Int}
theorem set9_yes (r : Rd h u 4 (tcs L)) (r' : Rd h w 4 (tcs L)) (hL : L.length ≤ 1000000) : callB SP i_laws_set9 [.agg (SetC c u), .agg (SetC c w)] h fun b h' => b = true ∧ Ext h h' := by
  have hul := r.tlen
  have hwl := r'.tlen
  apply laws_set9_call
  unfold laws_set9_main
  refine newK_obj fun h1 o1 x1 n1 => ?_
  refine newK_obj fun h2 o2 x2 n2 => ?_
  have p1 := o1.ext x2
  have X := x1.trans x2
  refine isPt_in (p1.ldI rfl rfl (isPt_in (o2.ldI rfl rfl ?_)))
  refine bif_ne (fun hq => absurd rfl hq) (fun _ => ?_)
  refine isPt_in (p1.ldS rfl rfl (isPt_in (o2.ldS rfl rfl ?_)))
  refine bif_ne (fun hq => absurd (by omega) hq) (fun _ => ?_)
  refine laws_set9_rule0 _ _ _ _ (fun i g => ∃ k : Nat, i = k ∧ k ≤ L.length ∧ h2 = g) (fun i _ => ((L.length : Int) - i).toNat) ?_ _ ⟨0, rfl, by omega, rfl⟩
  rintro X' _ _ ⟨k, rfl, hk, rfl⟩ hX
  unfold laws_set9_b0
  refine isPt_in (p1.ldS rfl rfl ?_)
  refine bif_dec (fun hi => ?_) (fun _ => ⟨_, rfl, rfl, X⟩)
  refine isPt_in (p1.ldS rfl rfl ?_)
  refine (r.ext X).tileG (by omega) (by omega) ?_
  refine isPt_in (o2.ldS rfl rfl ?_)
  refine (r'.ext X).tileG (by omega) (by omega) ?_
  refine eqA_tc ?_
  rw [decide_eq_true rfl]
  rw [w64_of (by omega) (by omega)]
  exact hX _ _ ⟨k + 1, by push_cast; rfl, by omega, rfl⟩ (by omega)
theorem word_c (r : Rd h u 4 (tcs L)) (rv : Rd h v 1 (ic l)) (hr : rowOK L l) {k : Int} (hk : 0 ≤ k ∧ k < 4) : callS SP i_impl_Set_word [.agg (SetC c u), .sl v, i64 k] h fun z h' => Ow h' z 1 (ic (wordL L l k.toNat)) ∧ Fr h.length z ∧ Ext h h' := by
  have hvl := rv.ilen
  have hl20 := hr.1
  apply impl_Set_word_call
  unfold impl_Set_word_main
  refine newK_obj fun h1 o1 x1 n1 => ?_
  refine newS_ow (by rfl) fun z h2 oz lz zo e2 => ?_
  have x2 : Ext h1 h2 := by rw [e2]; exact Ext.app _ _
  refine impl_Set_word_rule0 _ _ _ _ _ _ (fun z i g => ∃ m : Nat, i = m ∧ m ≤ l.length ∧ Ow g z 1 (ic (wordL L (l.take m) k.toNat)) ∧ Fr h1.length z ∧ Ext h1 g) (fun _ i _ => ((l.length : Int) - i).toNat) ?_ _ _
    ⟨0, rfl, by omega, oz, fun o e => (by rw [zo] at e; cases e; exact Nat.le_refl _), x2⟩
  rintro X z _ g ⟨m, rfl, hm, oz, fz, xg⟩ hX
  have hgl := xg.len
  unfold impl_Set_word_b0
  refine bif_dec (fun hi => ?_) (fun hi => ?_)
  · have hml : m < l.length := by omega
    refine (rv.ext (x1.trans xg)).ldI (by omega) (by omega) fun n hn => ?_
    rw [Int.toNat_natCast, List.getElem?_eq_getElem hml] at hn
    have hne := Option.some.inj hn
    have hq := (hr.2 m hml).1
    rw [List.getD_eq_getElem?_getD, List.getElem?_eq_getElem hml] at hq
    have hq' : 0 ≤ n ∧ n ≤ (L.length : Int) - 1 := by rw [← hne]; exact hq
    refine isPt_in ((o1.ext xg).ldS rfl rfl ?_)
    refine (r.ext (x1.trans xg)).sideG hq'.1 (by omega) hk.1 hk.2 ?_
    refine pushI2x oz (by unfold wordL lim; rw [List.length_map, List.length_take]; omega) fun z' g' oz' b' hz' l' => ?_
    rw [w64_of (n := (m : Int) + 1) (by omega) (by omega)]
    refine hX _ _ _ ⟨m + 1, by push_cast; rfl, by omega, ?_, fz.pushI (h := g) (by omega) hz', xg.but_ b' fun o e => fz o e⟩ (by omega)
    rw [List.take_succ_eq_append_getElem hml, hne]
    unfold wordL at oz' ⊢
    rw [List.map_append]
    exact oz'
  · unfold impl_Set_word_C0
    rw [show m = l.length by omega, List.take_length] at oz
    exact ⟨z, rfl, oz, fz.le (by omega), x1.trans xg⟩
/-- The words of a row. -/
theorem words_c (r : Rd h u 4 (tcs L)) (rv : Rd h v 1 (ic l)) (hs : setOK c L) (hr : rowOK L l) : callV SP i_impl_WordsOfRow [.agg (SetC c u), .sl v] h fun a h' => ∃ y z, a = .tuple [.sl y, .sl z, i64 0] ∧ Rd h' y 1 (ic (wordL L l 1)) ∧ Rd h' z 1 (ic (wordL L l 3)) ∧ Ext h h' := by
  have h16 := hs.2.1
  have hl20 := hr.1
  apply impl_WordsOfRow_call
  unfold impl_WordsOfRow_main
  refine newK_obj fun h1 o1 x1 n1 => ?_
  refine newO_var fun h2 v2 x2 n2 => ?_
  have p1 := o1.ext x2
  have X2 := x1.trans x2
  refine p1.ldA rfl ?_
  refine (setCode_c (r.ext X2) (by omega) _ _ (rowOK L l) fun _ g x => ?_).to ?_
  · apply impl_WordsOfRow_1_call
    unfold impl_WordsOfRow_1_main
    refine (p1.ext x).ldA rfl ((v2.ext x).ldS ?_)
    exact (isRow_c (r.ext (X2.trans x)) (by omega) (rv.ext (X2.trans x)) (by omega)).to fun b h' e => ⟨_, rfl, e⟩
  rintro n h3 ⟨rfl, x3⟩
  refine bif_ne (fun hq => absurd (codeOf_yes hs hr) hq) (fun _ => ?_)
  have X3 := X2.trans x3
  refine (p1.ext x3).ldA rfl ((v2.ext x3).ldS ?_)
  refine (word_c (k := 1) (c := c) (r.ext X3) (rv.ext X3) hr (by omega)).to ?_
  rintro y h4 ⟨oy, fy, x4⟩
  have X4 := X3.trans x4
  refine (p1.ext (x3.trans x4)).ldA rfl ⟨((p1.ext x3).rangeE rfl).trans ((p1.ext (x3.trans x4)).rangeE rfl).symm, ?_⟩
  refine (v2.ext (x3.trans x4)).ldS ⟨((v2.ext x3).cell).trans ((v2.ext (x3.trans x4)).cell).symm, ?_⟩
  refine (word_c (k := 3) (c := c) (r.ext X4) (rv.ext X4) hr (by omega)).to ?_
  rintro z h5 ⟨oz, fz, x5⟩
  exact ⟨y, z, rfl, (oy.ext x5).rd, oz.rd, X4.trans x5⟩
theorem NewSS.pushX {n : Nat} {h h' : H} {s : Sl} {ls : List (List Int)} (r0 : NewSS n h s ls) (x : Ext h h') {v : Sl} {l : List Int} (ov : Ow h' v 1 (ic l)) (fv : Fr h.length v) (hn : n ≤ h.length) (hl : (ls.length : Int) + 1 ≤ lim) {K : Sl → H → Prop}
    (hk : ∀ s' g, NewSS n g s' (ls ++ [l]) → But s.o h' g → (∀ o, s.o = some o → s'.o = some o) → K s' g) : newS 1 1 [.sl v] h' fun t h1 => Cl.app s t 1 h1 K := by
  refine newS_ow (by rfl) fun t h1 ot tl to e1 => ?_
  have e1' : Ext h' h1 := by rw [e1]; exact Ext.app _ _
  refine ((r0.ext x).ext e1').app_new (ov.ext e1') fv hn ⟨h, r0, Nat.le_refl _, x.trans e1'⟩ ot.rd hl (Nat.le_trans hn (Nat.le_trans x.len e1'.len)) fun s' g n' b k1 _ => hk s' g n' ((e1'.but _).trans b) k1
theorem NewSS.frX {n h s ls} (r : NewSS n h s ls) : Fr n s := by obtain ⟨_, _, _, f, _⟩ := r; exact f
/-- What PairsOfStack brings. -/
noncomputable def prL (S T : List Tile) : List (List Int) := (prsP S T).map fun e => [e.1, e.2]
def PsRes (c : Int) (S : List Tile) (d : Int) (T : List Tile) (h : H) (a : AVal) (h' : H) : Prop :=
  (setOK c S ∧ setOK d T → ∃ z, a = .tuple [.sl z, i64 0] ∧ RdSS h' z (prL S T)) ∧ (¬ (setOK c S ∧ setOK d T) → a = .tuple [.sl Sl.nil, i64 1]) ∧ Ext h h'
theorem prsP_in (hS : setOK c S) (hT : setOK d T) {e : Int × Int} (he : e ∈ prsP S T) : (0 ≤ e.1 ∧ e.1 < 6) ∧ 0 ≤ e.2 ∧ e.2 < 6 := by
  have hc := hS.1
  have hd := hT.1
  obtain ⟨e0, h0, h1⟩ := List.mem_flatMap.1 (prsP_mem.1 he)
  obtain ⟨i, k, rfl, hi, hk, _⟩ := stkI_mem h0
  have key : ∀ j, j < 4 → (0 ≤ (prOf S T ((i : Int), (k : Int)) j).1 ∧ (prOf S T ((i : Int), (k : Int)) j).1 < 6) ∧ 0 ≤ (prOf S T ((i : Int), (k : Int)) j).2 ∧ (prOf S T ((i : Int), (k : Int)) j).2 < 6 := fun j hj => by
    have a := hS.side hj hi
    have b := hT.side hj hk
    unfold prOf
    dsimp only
    omega
  rcases List.mem_cons.1 h1 with rfl | h1
  · exact key 0 (by omega)
  · rw [List.mem_singleton] at h1
    subst h1
    exact key 2 (by omega)
theorem prsP_lenX (S T : List Tile) : (prsP S T).length ≤ 2 * (S.length * T.length) := by
  unfold prsP
  have h1 := dsort_len (lt := ltP) (allP S T (stkI S T S.length))
  have h2 := stkI_len S T S.length
  have h3 : (allP S T (stkI S T S.length)).length = 2 * (stkI S T S.length).length := by
    generalize stkI S T S.length = es
    induction es with
    | nil => rfl
    | cons e es ih => unfold allP at *; simp only [List.flatMap_cons, List.length_append, List.length_cons, List.length_nil, ih]; omega
  omega
theorem impl_PairsOfStack_c (rs : Rd h u 4 (tcs S)) (rt : Rd h w 4 (tcs T)) (hSl : S.length ≤ 1000) (hTl : T.length ≤ 1000) : callV SP i_impl_PairsOfStack [.agg (SetC c u), .agg (SetC d w)] h (PsRes c S d T h) := by
  apply impl_PairsOfStack_call
  unfold impl_PairsOfStack_main
  refine newK_obj fun h1 o1 x1 n1 => ?_
  refine newK_obj fun h2 o2 x2 n2 => ?_
  have X2 := x1.trans x2
  refine (o1.ext x2).ldA rfl (o2.ldA rfl ⟨rfl, rfl, ?_⟩)
  refine newS_ow (by rfl) fun q h3 oq lq qo e3 => ?_
  have x3 : Ext h2 h3 := by rw [e3]; exact Ext.app _ _
  have X3 := X2.trans x3
  refine (areSets_c (c := c) (d := d) (s := u) (t := w) oq.rd (rs.ext X3) (rt.ext X3) (by omega) (by omega)).to ?_
  rintro b h4 ⟨hb, x4⟩
  have X4 := X3.trans x4
  refine bif_not (fun hq => ⟨fun hh => absurd (hb.2 hh) (by rw [hq]; decide), fun _ => rfl, X4⟩) (fun hq => ?_)
  obtain ⟨hS, hT⟩ := hb.1 hq
  have hS16 := hS.2.1
  have hT16 := hT.2.1
  refine newS_ow (by rfl) fun z h5 oz lz zo e5 => ?_
  have x5 : Ext h4 h5 := by rw [e5]; exact Ext.app _ _
  have n5 : h5.length = h4.length + 1 := by rw [e5]; simp
  have X5 := X4.trans x5
  have Y5 := x3.trans (x4.trans x5)
  refine isPt_in (((o1.ext x2).ext Y5).ldS rfl rfl (isPt_in ((o2.ext Y5).ldS rfl rfl ?_)))
  refine (pairs_c (rs.ext X5) (rt.ext X5) (by omega) (by omega)).to ?_
  rintro p h6 ⟨op, fp, x6⟩
  have hpl := op.rd.plen
  have hle := prsP_lenX S T
  have h256 : S.length * T.length ≤ 16 * 16 := Nat.mul_le_mul hS16 hT16
  have X6 := X5.trans x6
  have hfp : ∀ i, p.o = some i → h5.length ≤ i := fp
  have hlL : (prL S T).length = (prsP S T).length := by unfold prL; rw [List.length_map]
  have atL : ∀ {m : Nat} (hm : m < (prsP S T).length), (prL S T).take (m + 1) = (prL S T).take m ++ [[(prsP S T)[m].1, (prsP S T)[m].2]] := fun {m} hm => by
    rw [List.take_succ_eq_append_getElem (show m < (prL S T).length by rw [hlL]; exact hm)]
    simp [prL]
  refine impl_PairsOfStack_rule0 _ _ _ _ (fun z i g => ∃ m : Nat, i = m ∧ m ≤ (prsP S T).length ∧ NewSS h4.length g z ((prL S T).take m) ∧ z.o = some h4.length ∧ Rd g p 2 (pcs (prsP S T)) ∧ Ext h4 g) (fun _ i _ => (((prsP S T).length : Int) - i).toNat) ?_ _ _
    ⟨0, rfl, by omega, (NewSS.mk0 oz (fun o e => by rw [zo] at e; cases e; exact Nat.le_refl _)).ext x6, zo, op.rd, x5.trans x6⟩
  rintro X z _ g ⟨m, rfl, hm, nz', zo', rp, xg⟩ hX
  have hgl := xg.len
  unfold impl_PairsOfStack_b0
  refine bif_dec (fun hi => ?_) (fun hi => ?_)
  · have hml : m < (prsP S T).length := by omega
    refine rp.ldP hml ?_
    refine newO_obj fun g1 q1 y1 m1 => ?_
    refine q1.stA fun g2 q2 b2 m2 => ?_
    have y2 : Ext g g2 := y1.but_ b2 (some_le (Nat.le_refl _))
    refine ⟨⟨by omega, by omega, by omega⟩, rfl, rfl, ?_⟩
    have oE : Ow g2 ⟨some g.length, 2, 0 + (0 : Int).toNat * 1, (((2 : Nat) : Int) - 0).toNat, 1⟩ 1 (ic [(prsP S T)[m].1, (prsP S T)[m].2]) := ⟨rfl, .inr ⟨g.length, rfl, rfl, rfl, rfl, q2⟩⟩
    refine nz'.pushX y2 oE (fun o e => by cases e; exact Nat.le_refl _) hgl (by rw [List.length_take]; unfold lim; omega) fun z' g3 nz3 b3 k3 => ?_
    rw [w64_of (n := (m : Int) + 1) (by omega) (by omega)]
    rw [zo'] at b3
    refine hX _ _ _ ⟨m + 1, by push_cast; rfl, by omega, by rw [atL hml]; exact nz3, k3 _ zo', (rp.ext y2).but b3 (.inl fun e => by have := hfp _ e.symm; omega), (xg.trans y2).but_ b3 (some_le (Nat.le_refl _))⟩ (by omega)
  · unfold impl_PairsOfStack_C0
    rw [List.take_of_length_le (by rw [hlL]; omega)] at nz'
    exact ⟨fun _ => ⟨z, rfl, nz'.rd⟩, fun hn => absurd ⟨hS, hT⟩ hn, X4.trans xg⟩
theorem spec_PairsOfStack_c (rs : Rd h u 4 (tcs S)) (rt : Rd h w 4 (tcs T)) : callV SP i_spec_PairsOfStack [.agg (SetC c u), .agg (SetC d w)] h (PsRes c S d T h) := by
  apply spec_PairsOfStack_call
  unfold spec_PairsOfStack_main
  refine newK_obj fun h1 o1 x1 n1 => ?_
  refine newK_obj fun h2 o2 x2 n2 => ?_
  have X2 := x1.trans x2
  have p1 := o1.ext x2
  refine p1.ldA rfl ?_
  refine (l01Is_c (c := c) (rs.ext X2)).to ?_
  rintro b h3 ⟨hb, x3⟩
  have X3 := X2.trans x3
  refine bif_not (fun hq => ⟨fun hh => absurd (hb.2 hh.1) (by rw [hq]; decide), fun _ => rfl, X3⟩) (fun hq => ?_)
  have hS := hb.1 hq
  refine (o2.ext x3).ldA rfl ?_
  refine (l01Is_c (c := d) (rt.ext X3)).to ?_
  rintro b' h4 ⟨hb', x4⟩
  have X4 := X3.trans x4
  refine bif_not (fun hq => ⟨fun hh => absurd (hb'.2 hh.2) (by rw [hq]; decide), fun _ => rfl, X4⟩) (fun hq => ?_)
  have hT := hb'.1 hq
  have hS16 := hS.2.1
  have hT16 := hT.2.1
  refine (p1.ext (x3.trans x4)).ldA rfl ((o2.ext (x3.trans x4)).ldA rfl ?_)
  refine (l04Pairs_c (rs.ext X4) (rt.ext X4) hS hT).to ?_
  rintro p h5 ⟨rp, x5⟩
  have hpl := rp.ilen
  rw [List.length_map] at hpl
  have X5 := X4.trans x5
  have hle := prsP_lenX S T
  have h256 : S.length * T.length ≤ 16 * 16 := Nat.mul_le_mul hS16 hT16
  refine newS_ow (by rfl) fun z h6 oz lz zo e6 => ?_
  have x6 : Ext h5 h6 := by rw [e6]; exact Ext.app _ _
  have hlL : (prL S T).length = (prsP S T).length := by unfold prL; rw [List.length_map]
  refine spec_PairsOfStack_rule0 _ _ _ (fun z i g => ∃ m : Nat, i = m ∧ m ≤ (prsP S T).length ∧ NewSS h5.length g z ((prL S T).take m) ∧ Ext h5 g) (fun _ i _ => (((prsP S T).length : Int) - i).toNat) ?_ _ _
    ⟨0, rfl, by omega, NewSS.mk0 oz (fun o e => by rw [zo] at e; cases e; exact Nat.le_refl _), x6⟩
  rintro X z _ g ⟨m, rfl, hm, nz', xg⟩ hX
  have hgl := xg.len
  unfold spec_PairsOfStack_b0
  refine bif_dec (fun hi => ?_) (fun hi => ?_)
  · have hml : m < (prsP S T).length := by omega
    have hin := prsP_in hS hT (List.getElem_mem hml)
    have hcd : ((prsP S T).map cdP)[m]? = some (cdP (prsP S T)[m]) := by rw [List.getElem?_map, List.getElem?_eq_getElem hml]; rfl
    refine (rp.ext xg).ldI (by omega) (by rw [List.length_map]; omega) fun n hn => ⟨by decide, ?_⟩
    rw [Int.toNat_natCast, hcd] at hn
    refine (rp.ext xg).ldI (by omega) (by rw [List.length_map]; omega) fun n' hn' => ⟨by decide, ?_⟩
    rw [Int.toNat_natCast, hcd] at hn'
    have e1 : n = 16 * (prsP S T)[m].1 + (prsP S T)[m].2 := (Option.some.inj hn).symm
    have e2 : n' = 16 * (prsP S T)[m].1 + (prsP S T)[m].2 := (Option.some.inj hn').symm
    have d1 : w64 (Int.tdiv n 16) = (prsP S T)[m].1 := by
      rw [Int.tdiv_eq_ediv_of_nonneg (by omega), w64_of (by omega) (by omega)]
      omega
    have d2 : Int.tmod n' 16 = (prsP S T)[m].2 := by
      rw [Int.tmod_eq_emod_of_nonneg (by omega)]
      omega
    rw [d1, d2]
    refine newS_ow (by rfl) fun v g1 ov lv vo e1' => ?_
    have y1 : Ext g g1 := by rw [e1']; exact Ext.app _ _
    refine nz'.pushX y1 (l := [(prsP S T)[m].1, (prsP S T)[m].2]) ov (fun o e => by rw [vo] at e; cases e; exact Nat.le_refl _) hgl (by rw [List.length_take]; unfold lim; omega) fun z' g3 nz3 b3 k3 => ?_
    rw [w64_of (n := (m : Int) + 1) (by omega) (by omega)]
    refine hX _ _ _ ⟨m + 1, by push_cast; rfl, by omega, ?_, (xg.trans y1).but_ b3 fun i e => nz'.frX i e⟩ (by omega)
    rw [List.take_succ_eq_append_getElem (show m < (prL S T).length by rw [hlL]; exact hml)]
    have : (prL S T)[m]'(by rw [hlL]; exact hml) = [(prsP S T)[m].1, (prsP S T)[m].2] := by simp [prL]
    rw [this]
    exact nz3
  · unfold spec_PairsOfStack_C0
    rw [List.take_of_length_le (by rw [hlL]; omega)] at nz'
    exact ⟨fun _ => ⟨z, rfl, nz'.rd⟩, fun hn => absurd ⟨hS, hT⟩ hn, X5.trans xg⟩
end
end Go.Proofs.YtcoampecbpiecaaGreat.Cl
