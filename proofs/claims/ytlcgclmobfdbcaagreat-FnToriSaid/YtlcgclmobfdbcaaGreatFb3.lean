/- Contracts of functions, joined. No claim is stated here. -/
import Derived.Test.YtlcgclmobfdbcaaGreatFb2
import Derived.Test.YtlcgclmobfdbcaaGreatFa2
import Derived.Test.YtlcgclmobfdbcaaGreatFb0
import Derived.Shelf.SlSortCmp.InsertionK
import Derived.Test.YtlcgclmobfdbcaaGreatFb1
import Derived.Shelf.SlSortCmp.NoneTotal
import Derived.Ground.SlsfProg
set_option linter.unusedVariables false
set_option linter.unusedSimpArgs false
namespace Go.Proofs.YtlcgclmobfdbcaaGreat.Cl
open Go
structure IterP where
 y : Nat
 d11 : Nat
 d12 : Nat
 d13 : Nat
 d14 : Nat
 tc : Nat
 V0 : Array Oper
 V1 : Array Oper
 V2 : Array Oper
 V4 : Array Oper
 o1 : Oper
 mm : List Nat
structure AppP where
 prm : Nat
 A0 : Array Oper
 A1 : Array Oper
 A2 : Array Oper
 A3 : Array Oper
 A4 : Array Oper
 g : Nat
def qb (S : SatT) (T : Tab) (q : AppP) (frA : Frame) (v : AVal) (K : H → Prop) (h : H) : Prop :=
 zr S T q.A2.toList q.A2.toList (fun fr h => zr S T q.A3.toList q.A3.toList (fun _ h => K h) fr h) (frA.set q.prm v) h
def yq (S : SatT) (T : Tab) (p : IterP) (q : AppP) (frA : Frame) (K : H → Prop) : Nat → Frame → H → Prop
 | 0, fr, h => zr S T p.V1.toList p.V1.toList (fun fr h => fr.getD p.tc .undef = .bool false ∧ K h) fr h
 | n + 1, fr, h => zr S T p.V1.toList p.V1.toList (fun fr h => fr.getD p.tc .undef = .bool true ∧ zr S T p.V2.toList p.V2.toList (fun fr h => opK S T p.o1 (fr.set p.d11 .undef) h fun v h =>
   qb S T q frA v (fun h => zr S T p.V4.toList p.V4.toList (fun fr h => yq S T p q frA K n (mask p.mm fr) h) (clr [p.d11, p.d12, p.d13, p.d14] fr) h) h) fr h) fr h
def ziQ (S : SatT) (T : Tab) (p : IterP) (q : AppP) (fV : Nat) (n : Nat) (frV0 : List AVal → Frame) (fr : Frame) (rs : List ResultVar) (h : H) (K : AVal → H → Prop) : Prop :=
 zr S T q.A0.toList q.A0.toList (fun fr h => zr S T q.A1.toList q.A1.toList (fun fr h => ∃ cap, (fr.getD q.g .undef = .func fV cap ∧ cap.length = 1) ∧
  zr S T p.V0.toList p.V0.toList (fun frV h => yq S T p q fr (fun h => zr S T q.A4.toList q.A4.toList (fun fr h => resK T rs fr h fun vs => K (one vs) h) fr h) n (mask p.mm frV) h) (frV0 cap) h) fr h) fr h
section
variable {P : Program} {T : Tab} {S : SatT}
theorem zIb {α β : Type} {f : α → β} {l : Array α} {a b c d : β} (e : l.toList.map f = [a, b, c, d]) : ∃ x y z u, l = #[x, y, z, u] ∧ f x = a ∧ f y = b ∧ f z = c ∧ f u = d := by
 obtain ⟨l⟩ := l
 match l, e with
 | [x, y, z, u], e => simp at e; exact ⟨x, y, z, u, rfl, e.1, e.2.1, e.2.2.1, e.2.2.2⟩
 | [], e => simp at e
 | [_], e => simp at e
 | [_, _], e => simp at e
 | [_, _, _], e => simp at e
 | _ :: _ :: _ :: _ :: _ :: _, e => simp at e
theorem YU {F : Fence} {n : Nat} (W : zmu F n P) {ops : Array Oper} {Q : Exit → Act → World → Prop} {i : Nat} {rest : List Nat} {a : Act} {w : World} {o : Oper} {op : Op} {d : Nat} (ho : ops[i]? = some o) (hp : vj o = some (op, d)) (hd : ∀ c, op ≠ .defer c)
  {s : Sem Value} (hs : execOp a.eval o = (do pure (.value (← s)))) {x : Value} {w' : World} (hx : s.run P w = .ok x w') (hn : wpOpsIn F n P ops Q rest (a.put (some d) x) w') : wpOpsIn F n P ops Q (i :: rest) a w := by
 obtain ⟨hg, hdd, hop⟩ := yC hp
 simp only [wpOpsIn, ho]
 rw [if_pos (by unfold Region.wanted; rw [hg])]
 have hok : OpOK P (execOp a.eval o) w (fun v w2 => v = x ∧ w2 = w') := by rw [hs]; exact OpOK.val hx ⟨rfl, rfl⟩
 refine hok.inn W (fun c => by rw [hop]; exact hd c) fun v w2 hv => ?_
 obtain ⟨rfl, rfl⟩ := hv
 rw [hdd]
 exact hn
theorem VJ {F : Fence} {n : Nat} {ops : Array Oper} {Q : Exit → Act → World → Prop} {i : Nat} {rest : List Nat} {a : Act} {w : World} {o : Oper} (ho : ops[i]? = some o) (hg : o.guard = none)
  (h : o.wpIn F n P a w (wpOpsIn F n P ops Q rest) Q) : wpOpsIn F n P ops Q (i :: rest) a w := by
 simp only [wpOpsIn, ho]
 rw [if_pos (by unfold Region.wanted; rw [hg])]
 exact h
def zeu (fn : FuncId) (tmps : Array Value) (prm : Nat) (assign body : Code) (D : Nat) (st : LoopState) : Loop := { state := st, pending := none, fn, tmps, params := #[prm], assign, body, defers := D }
structure RSt (st : LoopState) (μ0 : Mu) (h0 : H) (w0 : World) (frA : Frame) (at0 : Array Value) (fn : FuncId) (prm : Nat) (assign body : Code) (l D : Nat) (μ : Mu) (h : H) (w : World) : Prop where
 tr : Tr μ0 h0 w0 μ h w
 fa : VRs μ h frA at0.toList
 rl : w.heap[l]? = some (.loop (zeu fn at0 prm assign body D st))
 rd : w.heap[D]? = some (.deferred (some []))
 ml : ¬ Mine μ h l
 md : ¬ Mine μ h D
 gl : w0.heap.size ≤ l
 gd : w0.heap.size ≤ D
 ne : D ≠ l
theorem RSt.step {st μ0 h0 w0 frA at0 fn prm assign body l D μ h w μ1 h1 w1} (r : RSt st μ0 h0 w0 frA at0 fn prm assign body l D μ h w) (t : Tr μ h w μ1 h1 w1) : RSt st μ0 h0 w0 frA at0 fn prm assign body l D μ1 h1 w1 :=
 ⟨r.tr.trans t, VRs.step t.step r.fa, (t.apart r.rl r.ml).1, (t.apart r.rd r.md).1, (t.apart r.rl r.ml).2, (t.apart r.rd r.md).2, r.gl, r.gd, r.ne⟩
theorem RSt.turn {st st' μ0 h0 w0 frA at0 fn prm assign body l D μ h w} (r : RSt st μ0 h0 w0 frA at0 fn prm assign body l D μ h w) : RSt st' μ0 h0 w0 frA at0 fn prm assign body l D μ h (w.putObj l (.loop (zeu fn at0 prm assign body D st'))) :=
 ⟨r.tr.turn r.rl trivial trivial r.gl, r.fa, World.putObj_heap_same (Array.getElem?_eq_some_iff.1 r.rl).1, by rw [World.putObj_heap_other r.ne]; exact r.rd, r.ml, r.md, r.gl, r.gd, r.ne⟩
variable {μ0 : Mu} {h0 : H} {w0 : World} {frA : Frame} {at0 : Array Value} {fn : FuncId} {l D : Nat}
theorem zvI (hS : ∀ f args h v h2, S f args h v h2 → Sat P f args h v h2) (hT : TOK P T) {q : AppP} {i2 i3 b1 : Nat} {n : Nat} {μ : Mu} {h : H} {w : World} {v : AVal} {x : Value} {K : H → Prop} {R : Ending → World → Prop}
  (r : RSt .ready μ0 h0 w0 frA at0 fn q.prm (.region i2 q.A2 false) (.block b1 (.region i3 q.A3 false)) l D μ h w) (hv : VR μ h v x) (hK : qb S T q frA v K h)
  (hR : ∀ μ1 h1 w1, RSt .ready μ0 h0 w0 frA at0 fn q.prm (.region i2 q.A2 false) (.block b1 (.region i3 q.A3 false)) l D μ1 h1 w1 → Step μ h μ1 h1 → K h1 → R (.returned (.bool true)) w1) :
  RoundIn Fence.wide n P l fn (at0.setIfInBounds q.prm x) (.region i2 q.A2 false) (.block b1 (.region i3 q.A3 false)) w R := by
 refine roundIn_of_wpIn trivial ?_
 refine yF hS hT (VK n l P) r.tr.rel (fr := frA.set q.prm v) ?_ hK fun μ1 h1 w1 fr1 a1 t1 f1 d1 _ k1 => ?_
 ·simp only [Array.toList_setIfInBounds]
  exact r.fa.set _ hv
 show ∃ w₂, (Instr.beginRound l).run P w1 = .ok () w₂ ∧ _
 have r1 := r.step t1
 refine ⟨_, run_beginRound r1.rl rfl, ?_⟩
 have r2 : RSt .busy μ0 h0 w0 frA at0 fn q.prm (.region i2 q.A2 false) (.block b1 (.region i3 q.A3 false)) l D μ1 h1 _ := r1.turn
 refine wpIn_block (yF hS hT (VK n l P) r2.tr.rel f1 k1 fun μ2 h2 w2 fr2 a2 t2 f2 d2 _ k2 => ?_)
 have r3 := r2.step t2
 exact ⟨_, _, run_endRound none r3.rl, hR μ2 h2 _ r3.turn (t1.step.trans t2.step) k2⟩
theorem zgo {ρ : Operand → Value} {o : Oper} {c : Call} (h : o.op = .call c) : execOp ρ o = (do let d ← resolve ρ c o.type; invoke d.target d.args) := by unfold execOp; rw [h]
theorem zyC {ρ : Operand → Value} {o : Oper} {t : TypeId} {x : Operand} (h : o.op = .unOp .not t x) : execOp ρ o = (do pure (.value (← Op.unary .not (ρ x)))) := by unfold execOp; rw [h]
theorem VP (hS : ∀ f args h v h2, S f args h v h2 → Sat P f args h v h2) (hT : TOK P T) {p : IterP} {q : AppP} {i1 i2 i3 i4 j2 j3 b0 b1 bb : Nat} {V3 : Array Oper} {tt : Nat} {yc : Call} {n : Nat}
  (hV3 : V3.toList.map vj = [some (.move (.tmp p.y), p.d11), some (p.o1.op, p.d12), some (.call yc, p.d13), some (.unOp .not tt (.tmp p.d13), p.d14)]) (ho1 : V3[1]? = some p.o1) (hyc : yc.callee = .value (.tmp p.d11)) (hya : yc.args = #[.tmp p.d12])
  (hnd : [p.y, p.d11, p.d12, p.d13, p.d14].Nodup) (hyk : ∀ V ∈ [p.V1, p.V2, p.V4], ∀ o ∈ V.toList, ∀ d ∈ [p.y, p.d11, p.d12, p.d13, p.d14], o.dst ≠ some d)
  {K : H → Prop} {Q : Exit → Act → World → Prop}
  (hQ : ∀ μ h w a, RSt .ready μ0 h0 w0 frA at0 fn q.prm (.region j2 q.A2 false) (.block bb (.region j3 q.A3 false)) l D μ h w → a.defers = [] → K h → Q (.exit b0) a w) :
  ∀ (N : Nat) {μ : Mu} {h : H} {w : World} {fr : Frame} {a : Act}, RSt .ready μ0 h0 w0 frA at0 fn q.prm (.region j2 q.A2 false) (.block bb (.region j3 q.A3 false)) l D μ h w → VRs μ h fr a.tmps.toList → a.tmps[p.y]? = some (.func (.yield l) #[] #[]) →
   (∀ d ∈ [p.y, p.d11, p.d12, p.d13, p.d14], d < a.tmps.size) → a.defers = [] → yq S T p q frA K N fr h →
   Code.roundsIn Fence.wide n P (.seq (.region i1 p.V1 false) (.seq (.cond (.tmp p.tc) .skip (.exit b0)) (.seq (.block b1 (.seq (.region i2 p.V2 false) (.seq (.region i3 V3 false) (.cond (.tmp p.d14) .ret .skip)))) (.region i4 p.V4 false)))) Q (N + 1) a w
 | 0, μ, h, w, fr, a, r, hf, hy, hds, hdf, hg => by
  rw [roundsIn_succ]
  refine wpIn_seq (yF hS hT (yy n P) r.tr.rel hf hg fun μ1 h1 w1 fr1 a1 t1 f1 d1 _ k1 => ?_)
  have hc := yD (a := a1) f1 (.tmp p.tc)
  rw [show ev fr1 (.tmp p.tc) = .bool false from k1.1] at hc
  simp only [VR] at hc
  refine wpIn_seq (wpIn_cond_false hc (wpIn_exit ?_))
  exact hQ μ1 h1 w1 a1 (r.step t1) (by rw [d1, hdf]) k1.2
 | N + 1, μ, h, w, fr, a, r, hf, hy, hds, hdf, hg => by
  rw [roundsIn_succ]
  have hyk1 := hyk p.V1 (by simp)
  have hyk2 := hyk p.V2 (by simp)
  have hyk4 := hyk p.V4 (by simp)
  obtain ⟨o0, o1, o2, o3, rfl, e0, e1, e2, e3⟩ := zIb hV3
  have ho1' : o1 = p.o1 := by simpa using ho1
  simp only [List.nodup_cons, List.mem_cons, List.not_mem_nil, or_false, not_or, not_false_eq_true, List.nodup_nil, and_true] at hnd
  obtain ⟨⟨n01, n02, n03, n04⟩, ⟨n12, n13, n14⟩, ⟨n23, n24⟩, n34⟩ := hnd
  refine wpIn_seq (yF hS hT (yy n P) r.tr.rel hf hg fun μ1 h1 w1 fr1 a1 t1 f1 d1 g1 k1 => ?_)
  have hc := yD (a := a1) f1 (.tmp p.tc)
  rw [show ev fr1 (.tmp p.tc) = .bool true from k1.1] at hc
  simp only [VR] at hc
  refine wpIn_seq (wpIn_cond_true hc (wpIn_skip ?_))
  refine wpIn_seq (wpIn_block (wpIn_seq (yF hS hT (yy n P) t1.rel f1 k1.2 fun μ2 h2 w2 fr2 a2 t2 f2 d2 g2 k2 => ?_)))
  have r2 := (r.step t1).step t2
  have get2 : ∀ d, d ∈ [p.y, p.d11, p.d12, p.d13, p.d14] → a2.tmps[d]? = a.tmps[d]? := fun d hd => (g2 d fun o ho => hyk2 o ho d hd).trans (g1 d fun o ho => hyk1 o ho d hd)
  have sz2 : ∀ d, d ∈ [p.y, p.d11, p.d12, p.d13, p.d14] → d < a2.tmps.size := fun d hd => by
   have := get2 d hd
   rw [Array.getElem?_eq_getElem (hds d hd)] at this
   exact (Array.getElem?_eq_some_iff.1 this).1
  have hy2 : a2.tmps[p.y]? = some (.func (.yield l) #[] #[]) := by rw [get2 _ (by simp)]; exact hy
  obtain ⟨_, _, p0⟩ := yC e0
  obtain ⟨q1g, q1d, p1⟩ := yC e1
  obtain ⟨q2g, q2d, p2⟩ := yC e2
  obtain ⟨_, _, p3⟩ := yC e3
  refine wpIn_seq (wpIn_region ?_)
  show wpOpsIn Fence.wide n P #[o0, o1, o2, o3] _ [0, 1, 2, 3] a2 w2
  refine YU (yy n P) rfl e0 (fun c h => by cases h) (zgn p0) (x := .func (.yield l) #[] #[]) (w' := w2) (by rw [yv hy2]; rfl) ?_
  -- the value that is handed on
  have hokk := wn (P := P) hS hT t2.rel (o := o1) (a := a2.put (some p.d11) (.func (.yield l) #[] #[])) (VRs.put_clr f2) (by rw [ho1']; exact k2)
  refine VJ (o := o1) rfl q1g ?_
  refine hokk.inn (yy n P) (Xh (by rw [ho1']; exact k2)) fun x w3 ⟨v, h3, μ3, k3, t3, v3⟩ => ?_
  rw [q1d]
  refine VJ (o := o2) rfl q2g ?_
  have r3 := r2.step t3
  generalize ha3 : (a2.put (some p.d11) (.func (.yield l) #[] #[])).put (some p.d12) x = a3
  have hya3 : a3.eval (.tmp p.d11) = .func (.yield l) #[] #[] := by
   rw [← ha3]
   refine yv ?_
   rw [zV (by simpa using fun e => n12 e.symm)]
   exact yI (sz2 _ (by simp))
  have hx3 : a3.eval (.tmp p.d12) = x := by
   rw [← ha3]
   exact yv (yI (by rw [yh]; exact sz2 _ (by simp)))
  refine ⟨fun f _ => trivial, ?_⟩
  rw [show Oper.semAt Fence.wide.round a3.eval o2 = execOp a3.eval o2 from rfl, zgo p2]
  have hrun : (do let d ← resolve a3.eval yc o2.type; invoke d.target d.args : Sem Next).run P w3 = .ok (.round l fn (at0.setIfInBounds q.prm x) (.region j2 q.A2 false) (.block bb (.region j3 q.A3 false))) w3 := by
   have hy := run_yield (P := P) (args := #[x]) r3.rl (by simp [zeu])
   have hr : resolve a3.eval yc o2.type = pure { target := .fn (.yield l) #[], args := #[x] } := by
    simp only [resolve, hyc, hya, hya3]
    simp [Deferred.ofValue, hx3]
   rw [hr]
   simp only [pure_bind, invoke]
   rw [hy]
   simp [zeu]
  rw [hrun]
  refine ⟨fun hh => (by cases hh), zvI hS hT r3 v3 k3 fun μ5 h5 w5 r5 st5 k5 => ?_⟩
  show wpOpsIn Fence.wide n P #[o0, o1, o2, o3] _ [3] _ w5
  rw [q2d]
  refine YU (yy n P) rfl e3 (fun c h => by cases h) (zyC p3) (x := .bool false) (w' := w5) (by rw [yv (yI (by rw [← ha3, yh, yh]; exact sz2 _ (by simp)))]; rfl) ?_
  show (Code.cond (.tmp p.d14) .ret .skip).wpIn Fence.wide n P _ _ w5
  refine wpIn_cond_false (yv (yI (by rw [← ha3]; simp only [yh]; exact sz2 _ (by simp)))) (wpIn_skip ?_)
  show (Code.region i4 p.V4 false).wpIn Fence.wide n P _ _ w5
  generalize ha5 : (a3.put (some p.d13) (.bool true)).put (some p.d14) (.bool false) = a5
  have f5 : VRs μ5 h5 (clr [p.d11, p.d12, p.d13, p.d14] fr2) a5.tmps.toList := by
   rw [← ha5, ← ha3]
   exact VRs.put_clr (VRs.put_clr (VRs.put_clr (VRs.put_clr (VRs.step (t3.step.trans st5) f2))))
  refine yF hS hT (yy n P) r5.tr.rel f5 k5 fun μ6 h6 w6 fr6 a6 t6 f6 d6 g6 k6 => ?_
  have get6 : ∀ d, d ∈ [p.y, p.d11, p.d12, p.d13, p.d14] → a6.tmps[d]? = a5.tmps[d]? := fun d hd => g6 d fun o ho => hyk4 o ho d hd
  have sz5 : a5.tmps.size = a2.tmps.size := by rw [← ha5, ← ha3]; simp only [yh]
  refine VP hS hT hV3 ho1 hyc hya (by simp only [List.nodup_cons, List.mem_cons, List.not_mem_nil, or_false, not_or, not_false_eq_true, List.nodup_nil, and_true]; exact ⟨⟨n01, n02, n03, n04⟩, ⟨n12, n13, n14⟩, ⟨n23, n24⟩, n34⟩) hyk hQ N (r5.step t6) (vF _ f6) ?_ ?_ ?_ k6
  ·rw [get6 _ (by simp), ← ha5, ← ha3, zV (by simpa using fun e => n04 e.symm), zV (by simpa using fun e => n03 e.symm), zV (by simpa using fun e => n02 e.symm), zV (by simpa using fun e => n01 e.symm)]
   exact hy2
  ·intro d hd
   have := get6 d hd
   rw [Array.getElem?_eq_getElem (show d < a5.tmps.size by rw [sz5]; exact sz2 d hd)] at this
   exact (Array.getElem?_eq_some_iff.1 this).1
  ·rw [d6, ← ha5, ← ha3]
   simp only [zR]
   rw [d2, d1, hdf]
theorem zmy (hS : ∀ f args h v h2, S f args h v h2 → Sat P f args h v h2) (hT : TOK P T) {p : IterP} {q : AppP} {i0 i1 i2 i3 i4 j2 j3 b0 b1 bb : Nat} {V3 : Array Oper} {tt : Nat} {yc : Call} {n : Nat}
  {f : FuncId} {fnv : Func} (hfn : P.funcs[f]? = some fnv)
  (hb : fnv.body = some (.seq (.region i0 p.V0 false) (.block b0 (.loop (.seq (.region i1 p.V1 false) (.seq (.cond (.tmp p.tc) .skip (.exit b0)) (.seq (.block b1 (.seq (.region i2 p.V2 false) (.seq (.region i3 V3 false) (.cond (.tmp p.d14) .ret .skip)))) (.region i4 p.V4 false))))))))
  (hres : fnv.results = #[])
  (hV3 : V3.toList.map vj = [some (.move (.tmp p.y), p.d11), some (p.o1.op, p.d12), some (.call yc, p.d13), some (.unOp .not tt (.tmp p.d13), p.d14)]) (ho1 : V3[1]? = some p.o1) (hyc : yc.callee = .value (.tmp p.d11)) (hya : yc.args = #[.tmp p.d12])
  (hnd : [p.y, p.d11, p.d12, p.d13, p.d14].Nodup) (hyk : ∀ V ∈ [p.V0, p.V1, p.V2, p.V4], ∀ o ∈ V.toList, ∀ d ∈ [p.y, p.d11, p.d12, p.d13, p.d14], o.dst ≠ some d)
  {K : H → Prop} {R : Ending → World → Prop} {N : Nat} {μ : Mu} {h : H} {w : World} {cap : List AVal} {ds : Array Value}
  (r : RSt .ready μ0 h0 w0 frA at0 fn q.prm (.region j2 q.A2 false) (.block bb (.region j3 q.A3 false)) l D μ h w) (hcap : VRs μ h cap ds.toList) (hy0 : p.y = 0) (hsz : ∀ d ∈ [p.y, p.d11, p.d12, p.d13, p.d14], d < fnv.ntmps) (hnt : 1 + ds.size ≤ fnv.ntmps)
  (hK : zr S T p.V0.toList p.V0.toList (fun frV h => yq S T p q frA K N (mask p.mm frV) h) (fr0 fnv (.undef :: cap)) h)
  (hR : ∀ μ h w v, RSt .ready μ0 h0 w0 frA at0 fn q.prm (.region j2 q.A2 false) (.block bb (.region j3 q.A3 false)) l D μ h w → K h → R (.returned v) w) :
  CallsIn Fence.wide n P f (#[.func (.yield l) #[] #[]] ++ ds) w R := by
 refine callsIn_of_wp hfn hb trivial ?_
 have hargs : (#[Value.func (.yield l) #[] #[]] ++ ds).size = 1 + ds.size := by simp
 generalize ha : ({ tmps := (#[Value.func (.yield l) #[] #[]] ++ ds) ++ Array.replicate (fnv.ntmps - (#[Value.func (.yield l) #[] #[]] ++ ds).size) undef, defers := [] } : Act) = a
 have hf : VRs μ h (fr0 fnv (.undef :: cap)) a.tmps.toList := by
  rw [← ha]
  unfold fr0
  simp only [Array.toList_append]
  have hl : ds.size = cap.length := by rw [← Array.length_toList, hcap.len]
  refine VRs.append (VRs.append (VRs.cons (by simp only [VR]) VRs.nil : VRs μ h [.undef] _) hcap) ?_
  refine VRs.mk (by simp [hl, Nat.add_comm]) fun i v d h1 h2 => ?_
  rw [List.getElem?_replicate] at h1
  simp only [Array.toList_replicate, List.getElem?_replicate] at h2
  split at h1
  ·cases h1
   split at h2
   ·cases h2
    simp only [VR]
    rfl
   ·cases h2
  ·cases h1
 have hsz' : a.tmps.size = fnv.ntmps := by rw [← ha]; simp; omega
 have hyv : a.tmps[p.y]? = some (.func (.yield l) #[] #[]) := by
  rw [← ha, hy0]
  show ((#[Value.func (.yield l) #[] #[]] ++ ds) ++ Array.replicate _ undef)[0]? = _
  rw [Array.getElem?_append, if_pos (by rw [hargs]; omega), Array.getElem?_append, if_pos (by simp)]
  rfl
 have had : a.defers = [] := by rw [← ha]
 refine wpIn_seq (yF hS hT (yy n P) r.tr.rel hf hK fun μ1 h1 w1 fr1 a1 t1 f1 d1 g1 k1 => ?_)
 have hyk0 := hyk p.V0 (by simp)
 have get1 : ∀ d, d ∈ [p.y, p.d11, p.d12, p.d13, p.d14] → a1.tmps[d]? = a.tmps[d]? := fun d hd => g1 d fun o ho => hyk0 o ho d hd
 refine wpIn_block (wpIn_loop_rounds (N + 1) ?_)
 refine VP hS hT hV3 ho1 hyc hya hnd (fun V hV => hyk V (List.mem_cons_of_mem _ hV)) (b0 := b0) (K := K) ?_ N (r.step t1) (vF _ f1) (by rw [get1 _ (by simp)]; exact hyv) ?_ (by rw [d1, had]) k1
 ·intro μ2 h2 w2 a2 r2 d2 k2
  simp only [Exit.inBlock, if_true]
  show a2.defers = [] ∧ _
  refine ⟨d2, .tuple #[], ?_, hR μ2 h2 w2 _ r2 k2⟩
  unfold results
  rw [hres]
  simp
 ·intro d hd
  have := get1 d hd
  rw [Array.getElem?_eq_getElem (show d < a.tmps.size by rw [hsz']; exact hsz d hd)] at this
  exact (Array.getElem?_eq_some_iff.1 this).1
theorem yd {β : Type} (ops l : List Oper) (fr : Frame) (h : H) {G : Frame → H → (β → Prop) → Prop} (hG : ∀ fr h, Lin (G fr h)) : Lin fun K => zr S T ops l (fun fr h => G fr h K) fr h :=
 Lin.bind (F := fun (K : Frame × H → Prop) => zr S T ops l (fun fr h => K (fr, h)) fr h) (G := fun x K => G x.1 x.2 K) (qf ops l fr h) fun x => hG x.1 x.2
theorem QV {β : Type} (q : AppP) (frA : Frame) (v : AVal) (h : H) {G : H → (β → Prop) → Prop} (hG : ∀ h, Lin (G h)) : Lin fun K => qb S T q frA v (fun h => G h K) h :=
 yd (G := fun fr h K => zr S T q.A3.toList q.A3.toList (fun _ h => G h K) fr h) _ _ _ _ fun fr h => yd (G := fun _ h K => G h K) _ _ _ _ fun _ h => hG h
theorem Yi {β : Type} (p : IterP) (q : AppP) (frA : Frame) {G : H → (β → Prop) → Prop} (hG : ∀ h, Lin (G h)) : ∀ (n : Nat) (fr : Frame) (h : H), Lin fun K => yq S T p q frA (fun h => G h K) n fr h
 | 0, fr, h => yd (G := fun fr h K => fr.getD p.tc .undef = .bool false ∧ G h K) _ _ _ _ fun fr h => (hG h).and _
 | n + 1, fr, h => by
  unfold yq
  refine yd (G := fun fr h K => fr.getD p.tc .undef = .bool true ∧ zr S T p.V2.toList p.V2.toList (fun fr h => opK S T p.o1 (fr.set p.d11 .undef) h fun v h =>
   qb S T q frA v (fun h => zr S T p.V4.toList p.V4.toList (fun fr h => yq S T p q frA (fun h => G h K) n (mask p.mm fr) h) (clr [p.d11, p.d12, p.d13, p.d14] fr) h) h) fr h) _ _ _ _ fun fr h => Lin.and _ ?_
  refine yd (G := fun fr h K => opK S T p.o1 (fr.set p.d11 .undef) h fun v h =>
   qb S T q frA v (fun h => zr S T p.V4.toList p.V4.toList (fun fr h => yq S T p q frA (fun h => G h K) n (mask p.mm fr) h) (clr [p.d11, p.d12, p.d13, p.d14] fr) h) h) _ _ _ _ fun fr h => ?_
  refine xN (G := fun v h K => qb S T q frA v (fun h => zr S T p.V4.toList p.V4.toList (fun fr h => yq S T p q frA (fun h => G h K) n (mask p.mm fr) h) (clr [p.d11, p.d12, p.d13, p.d14] fr) h) h) _ _ _ fun v h => ?_
  refine QV (G := fun h K => zr S T p.V4.toList p.V4.toList (fun fr h => yq S T p q frA (fun h => G h K) n (mask p.mm fr) h) (clr [p.d11, p.d12, p.d13, p.d14] _) h) _ _ _ _ fun h => ?_
  exact yd (G := fun fr h K => yq S T p q frA (fun h => G h K) n (mask p.mm fr) h) _ _ _ _ fun fr h => Yi p q frA hG n _ h
theorem zku (p : IterP) (q : AppP) (fV n : Nat) (frV0 : List AVal → Frame) (fr : Frame) (rs : List ResultVar) (h : H) : Lin fun (K : AVal × H → Prop) => ziQ S T p q fV n frV0 fr rs h fun v h => K (v, h) := by
 unfold ziQ
 refine yd (G := fun fr h (K : AVal × H → Prop) => zr S T q.A1.toList q.A1.toList (fun fr h => ∃ cap, (fr.getD q.g .undef = .func fV cap ∧ cap.length = 1) ∧
  zr S T p.V0.toList p.V0.toList (fun frV h => yq S T p q fr (fun h => zr S T q.A4.toList q.A4.toList (fun fr h => resK T rs fr h fun vs => K (one vs, h)) fr h) n (mask p.mm frV) h) (frV0 cap) h) fr h) _ _ _ _ fun fr h => ?_
 refine yd (G := fun fr h (K : AVal × H → Prop) => ∃ cap, (fr.getD q.g .undef = .func fV cap ∧ cap.length = 1) ∧
  zr S T p.V0.toList p.V0.toList (fun frV h => yq S T p q fr (fun h => zr S T q.A4.toList q.A4.toList (fun fr h => resK T rs fr h fun vs => K (one vs, h)) fr h) n (mask p.mm frV) h) (frV0 cap) h) _ _ _ _ fun fr h => Lin.exists_ fun cap => Lin.and _ ?_
 refine yd (G := fun frV h (K : AVal × H → Prop) => yq S T p q fr (fun h => zr S T q.A4.toList q.A4.toList (fun fr h => resK T rs fr h fun vs => K (one vs, h)) fr h) n (mask p.mm frV) h) _ _ _ _ fun frV h => ?_
 refine Yi (G := fun h (K : AVal × H → Prop) => zr S T q.A4.toList q.A4.toList (fun fr h => resK T rs fr h fun vs => K (one vs, h)) fr h) p q fr (fun h => ?_) n _ h
 exact yd (G := fun fr h (K : AVal × H → Prop) => resK T rs fr h fun vs => K (one vs, h)) _ _ _ _ fun fr h => Lin.map (Zf fr h rs) fun vs => (one vs, h)
theorem zkx (hT : TOK P T) {fn : Func} {μ : Mu} {h : H} {w : World} {fr : Frame} {tmps : Array Value} {K : AVal → Prop} (r : Rel μ h w) (hf : VRs μ h fr tmps.toList) (hK : resK T fn.results.toList fr h fun vs => K (one vs)) :
  ∃ x v, (results fn tmps).run P w = .ok x w ∧ K v ∧ VR μ h v x := by
 obtain ⟨vs, ds', k1, k2, k3⟩ := qg (P := P) hT r hf _ _ hK
 have hone : ∃ x, (results fn tmps).run P w = .ok x w ∧ VR μ h (one vs) x := by
  rw [VU, Sem.run_bind, Array.mapM_eq_mapM_toList, Sem.run_map, k1]
  simp only [Result.andThen_ok]
  cases vs with
  | nil =>
   simp only [VRs] at k3
   subst k3
   exact ⟨_, rfl, by simp only [one, VR]; exact ⟨#[], rfl, VRs.nil⟩⟩
  | cons v1 vs =>
   have k3' := k3
   simp only [VRs] at k3'
   obtain ⟨d1, ds'', rfl, hv1, hvs⟩ := k3'
   cases vs with
   | nil =>
    simp only [VRs] at hvs
    subst hvs
    exact ⟨d1, rfl, hv1⟩
   | cons v2 vs =>
    have k4 := hvs
    simp only [VRs] at k4
    obtain ⟨d2, ds3, rfl, _, _⟩ := k4
    refine ⟨.tuple (d1 :: d2 :: ds3).toArray, ?_, by simp only [one, VR]; exact ⟨_, rfl, k3⟩⟩
    simp
 obtain ⟨x, hx, hvx⟩ := hone
 exact ⟨x, _, hx, k2, hvx⟩
theorem zmt (hT : TOK P T) {p : IterP} {q : AppP} {i0 i1 i2 i3 i4 j0 j1 j2 j3 j4 b0 b1 bb c0 : Nat} {V3 : Array Oper} {tt : Nat} {yc : Call} {fV f : FuncId} {fnv fna : Func} {N : Nat}
  (hfn : P.funcs[fV]? = some fnv)
  (hb : fnv.body = some (.seq (.region i0 p.V0 false) (.block b0 (.loop (.seq (.region i1 p.V1 false) (.seq (.cond (.tmp p.tc) .skip (.exit b0)) (.seq (.block b1 (.seq (.region i2 p.V2 false) (.seq (.region i3 V3 false) (.cond (.tmp p.d14) .ret .skip)))) (.region i4 p.V4 false))))))))
  (hres : fnv.results = #[])
  (hV3 : V3.toList.map vj = [some (.move (.tmp p.y), p.d11), some (p.o1.op, p.d12), some (.call yc, p.d13), some (.unOp .not tt (.tmp p.d13), p.d14)]) (ho1 : V3[1]? = some p.o1) (hyc : yc.callee = .value (.tmp p.d11)) (hya : yc.args = #[.tmp p.d12])
  (hnd : [p.y, p.d11, p.d12, p.d13, p.d14].Nodup) (hyk : ∀ V ∈ [p.V0, p.V1, p.V2, p.V4], ∀ o ∈ V.toList, ∀ d ∈ [p.y, p.d11, p.d12, p.d13, p.d14], o.dst ≠ some d)
  (hy0 : p.y = 0) (hsz : ∀ d ∈ [p.y, p.d11, p.d12, p.d13, p.d14], d < fnv.ntmps)
  (hfa : P.funcs[f]? = some fna)
  (hba : fna.body = some (.seq (.region j0 q.A0 false) (.seq (.seq (.region j1 q.A1 false) (.block c0 (.rangeFunc (.tmp q.g) #[q.prm] (.region j2 q.A2 false) (.block bb (.region j3 q.A3 false))))) (.seq (.region j4 q.A4 false) .ret))))
  (hcall : ∀ (a : Array Value) (w : World), (callFunc f a).run P w = .ok (.enter f a) w) (hcallV : ∀ (a : Array Value) (w : World), (callFunc fV a).run P w = .ok (.enter fV a) w)
  {args : List AVal} {h : H} {K : AVal → H → Prop} (hcp : 2 ≤ fnv.ntmps)
  (hH : ziQ (Sat P) T p q fV N (fun cap => fr0 fnv (.undef :: cap)) (fr0 fna args) fna.results.toList h K) : ∃ v h2, Sat P f args h v h2 ∧ K v h2 := by
 have hl := zku (S := Sat P) (T := T) p q fV N (fun cap => fr0 fnv (.undef :: cap)) (fr0 fna args) fna.results.toList h
 obtain ⟨⟨v, h2⟩, hk, hx⟩ := Lin.wit hl (K := fun p => K p.1 p.2) hH
 refine ⟨v, h2, ⟨hcall, fun μ w ds r hd => callsIn_wide.1 (callsIn_of_wp_marks (n := 2) hfa hba trivial ?_)⟩, hk⟩
 clear hk hH hl
 have hS : ∀ f args h v h2, Sat P f args h v h2 → Sat P f args h v h2 := fun _ _ _ _ _ h => h
 have hfr : VRs μ h (fr0 fna args) (ds.toArray ++ Array.replicate (fna.ntmps - ds.toArray.size) undef).toList := by
  unfold fr0
  rw [Array.toList_append]
  refine hd.append ?_
  have : ds.toArray.size = args.length := by simp [hd.len]
  rw [this]
  refine VRs.mk (by simp) fun i v d h1 h2 => ?_
  rw [List.getElem?_replicate] at h1
  simp only [Array.toList_replicate, List.getElem?_replicate] at h2
  split at h1
  ·next hi =>
   rw [if_pos hi] at h2
   cases h1
   cases h2
   simp only [VR]
   rfl
  ·cases h1
 refine wpIn_seq (yF hS hT (yy 2 P) r hfr hx fun μ1 h1 w1 fr1 a1 t1 f1 d1 _ k1 => ?_)
 refine wpIn_seq (wpIn_seq (yF hS hT (yy 2 P) t1.rel f1 k1 fun μ2 h2' w2 fr2 a2 t2 f2 d2 _ k2 => ?_))
 have t := t1.trans t2
 obtain ⟨cap, ⟨hcap, hcl⟩, k3⟩ := k2
 have hg := yD (a := a2) f2 (.tmp q.g)
 rw [show ev fr2 (.tmp q.g) = .func fV cap from hcap] at hg
 simp only [VR] at hg
 obtain ⟨dsc, hg, hvc⟩ := hg
 have ad2 : a2.defers = [] := by rw [d2, d1]
 refine wpIn_block (wpIn_rangeFunc fun fn _ => ?_)
 generalize hW1 : (w2.alloc (.deferred (some []))).alloc (.loop (zeu fn a2.tmps q.prm (.region j2 q.A2 false) (.block bb (.region j3 q.A3 false)) w2.heap.size .ready)) = W1
 have sz1 : (w2.alloc (.deferred (some []))).heap.size = w2.heap.size + 1 := zU _ _
 have rs : RSt .ready μ h w fr2 a2.tmps fn q.prm (.region j2 q.A2 false) (.block bb (.region j3 q.A3 false)) (w2.heap.size + 1) w2.heap.size μ2 h2' W1 := by
  have e1 := Tr.extra t.rel (.deferred (some []))
  have e2 := Tr.extra e1.rel (.loop (zeu fn a2.tmps q.prm (.region j2 q.A2 false) (.block bb (.region j3 q.A3 false)) w2.heap.size .ready))
  rw [hW1] at e2
  refine ⟨t.trans (e1.trans e2), f2, ?_, ?_, ?_, ?_, ?_, t.keep.size, by omega⟩
  ·rw [← hW1, ← sz1]; exact heap_alloc_new _ _
  ·rw [← hW1, heap_alloc_old _ _ (by omega)]; exact heap_alloc_new _ _
  ·intro hc; have := t.rel.mine_lt hc; omega
  ·intro hc; have := t.rel.mine_lt hc; omega
  ·have := t.keep.size; omega
 refine ⟨w2.heap.size + 1, [{ target := .collected w2.heap.size, args := #[] }], W1, { target := .fn (.func fV) dsc, args := #[.func (.yield (w2.heap.size + 1)) #[] #[]] }, W1, fV, #[.func (.yield (w2.heap.size + 1)) #[] #[]] ++ dsc, W1, ?_, ?_, ?_, ?_, fun hh => (by cases hh), ?_⟩
 ·rw [← hW1]; exact run_enterLoop_outer _ _ _ _ _
 ·simp only [resolve, hg]
  simp [Deferred.ofValue, Act.eval]
 ·intro f' hf'; trivial
 ·simp only [invoke]; exact hcallV _ _
 refine zmy hS hT hfn hb hres hV3 ho1 hyc hya hnd hyk rs hvc hy0 hsz ?_ k3 fun μ3 h3 w3 vr r3 k4 => ?_
 ·have := hvc.len
  rw [Array.length_toList] at this
  omega
 refine ⟨none, _, run_endLoop r3.rl (by simp [zeu]), ?_⟩
 have r4 : RSt .exhausted μ h w fr2 a2.tmps fn q.prm (.region j2 q.A2 false) (.block bb (.region j3 q.A3 false)) (w2.heap.size + 1) w2.heap.size μ3 h3 _ := r3.turn
 show Code.wpIn Fence.wide 2 P (.seq (.region j4 q.A4 false) .ret) _ _ (w3.putObj (w2.heap.size + 1) (.loop (zeu fn a2.tmps q.prm (.region j2 q.A2 false) (.block bb (.region j3 q.A3 false)) w2.heap.size .exhausted)))
 refine wpIn_seq (yF hS hT (yy 2 P) r4.tr.rel (a := { a2 with defers := [{ target := .collected w2.heap.size, args := #[] }] ++ a2.defers }) r4.fa k4 fun μ5 h5 w5 fr5 a5 t5 f5 d5 _ k5 => ?_)
 refine wpIn_ret ?_
 have r5 := r4.step t5
 show LeavesInM Fence.wide 2 P fna a5.tmps _ a5.defers .returning w5
 rw [d5, ad2]
 refine ⟨by simp, .inl ⟨w2.heap.size, _, rfl, run_takeDeferred r5.rd, ?_⟩⟩
 have rr : Tr μ h w μ5 h5 (w5.putObj w2.heap.size (.deferred none)) := r5.tr.turn r5.rd trivial trivial r5.gd
 generalize w5.putObj w2.heap.size (.deferred none) = w6 at rr
 obtain ⟨x, v', hxr, hve, hv⟩ := zkx (P := P) hT (fn := fna) (tmps := a5.tmps) (K := fun v' => (v', h5) = (v, h2)) rr.rel f5 k5
 cases hve
 exact ⟨x, hxr, x, μ5, rfl, rr, hv⟩
end
end Go.Proofs.YtlcgclmobfdbcaaGreat.Cl
set_option linter.unusedVariables false
set_option linter.unusedSimpArgs false
namespace Go.Proofs.YtlcgclmobfdbcaaGreat.Cl
open Go Go.Sort Go.Shelf Go.Lib
theorem zkj (w w' : World) (hos : w'.os = w.os) (htp : w'.tape = w.tape) (hout : w'.output = w.output) (hsz : w.heap.size ≤ w'.heap.size) (hblk : ∀ k, k < w.heap.size → w'.heap[k]? = w.heap[k]?) (hdr : w.drawn ≤ w'.drawn) :
  ∃ q os', w' = Sort.grow (w.drewN q) os' := by
 refine ⟨w'.drawn - w.drawn, w'.heap.extract w.heap.size w'.heap.size, ?_⟩
 have hh : w'.heap = w.heap ++ w'.heap.extract w.heap.size w'.heap.size := by
  apply Array.ext_getElem?
  intro i
  rw [Array.getElem?_append]
  split
  ·next h => exact hblk i h
  ·next h =>
   rw [Array.getElem?_extract]
   split
   ·next h2 => congr 1; omega
   ·next h2 =>
    rw [Array.getElem?_eq_none]
    omega
 have hd : w.drawn + (w'.drawn - w.drawn) = w'.drawn := by omega
 cases w
 cases w'
 simp only [Sort.grow, World.drewN] at *
 rw [hd]
 subst hos htp hout
 congr 1
theorem Tr.grown {μ h w} (r : Rel μ h w) (os : Array Go.Obj) : Tr μ h w μ h (Sort.grow w os) := by
 have hs : (Sort.grow w os).heap.size = w.heap.size + os.size := size_grow _ _
 have hold : ∀ k, k < w.heap.size → (Sort.grow w os).heap[k]? = w.heap[k]? := fun k hk => heap_grow_old w os hk
 have hc : ∀ a : Addr, a.block < w.heap.size → (Sort.grow w os).cell? a = w.cell? a := fun a ha => World.cell?_of_block (hold _ ha)
 have hf : ∀ a : Addr, a.block < w.heap.size → (Sort.grow w os).frozen? a = w.frozen? a := fun a ha => World.frozen?_of_block (hold _ ha)
 refine ⟨⟨fun o cs ho => ?_, fun o cs ho i v hv => ?_, fun o es ho => ?_, r.sep⟩, Step.refl _ _, ⟨rfl, rfl, rfl, by rw [hs]; omega, fun k hk _ => hold k hk, Nat.le_refl _⟩, fun _ h => .inl h, fun _ h => .inl h⟩
 ·obtain ⟨h1, h2, h3, h4⟩ := r.own o cs ho
  refine ⟨by rw [hs]; omega, h2, fun i hi => ?_, fun i v hv => ?_⟩
  ·rw [hc _ h1, hf _ h1]; exact h3 i hi
  ·obtain ⟨q, d, h5, h6⟩ := h4 i v hv
   exact ⟨q, d, by rw [hc _ h1]; exact h5, h6⟩
 ·obtain ⟨q, d, h5, h6⟩ := r.ro o cs ho i v hv
  exact ⟨q, d, by rw [hc _ (vW h5)]; exact h5, h6⟩
 ·obtain ⟨h1, ms, ck, h2, h3, h4⟩ := r.mp o es ho
  exact ⟨by rw [hs]; omega, ms, ck, by rw [hold _ h1]; exact h2, h3, h4⟩
theorem zab {α β : Type} (cl : α → List β) {k : Nat} (hk : ∀ x, (cl x).length = k) (k0 : 0 < k) : ∀ (ts : List α) (i : Nat), (ts.map cl).flatten[i]? = (ts[i / k]?).bind fun x => (cl x)[i % k]?
 | [], i => by simp
 | t :: ts, i => by
  rw [List.map_cons, List.flatten_cons, List.getElem?_append, hk]
  by_cases h : i < k
  ·rw [if_pos h, Nat.div_eq_of_lt h, Nat.mod_eq_of_lt h]; rfl
  ·rw [if_neg h, zab cl hk k0 ts (i - k)]
   have e1 : i / k = (i - k) / k + 1 := Nat.div_eq_sub_div k0 (by omega)
   have e2 : i % k = (i - k) % k := Nat.mod_eq_sub_mod (by omega)
   rw [e1, e2]; simp
theorem Zm {α β : Type} (cl : α → List β) {k : Nat} (hk : ∀ x, (cl x).length = k) : ∀ (ts : List α), (ts.map cl).flatten.length = ts.length * k
 | [] => by simp
 | t :: ts => by rw [List.map_cons, List.flatten_cons, List.length_append, hk, Zm cl hk ts, List.length_cons, Nat.add_mul]; omega
section
variable {P : Program} {α : Type} [Inhabited α]
theorem zyF {g : Nat} {enc : α → List Value} {cl : α → List AVal} {cf : α → α → Int} (hec : ∀ x (μ : Mu) (h : H), VRs μ h (cl x) (enc x)) (hcl : ∀ x, (cl x).all AVal.isCell = true)
  (hcmp : ∀ x y, ∃ h2, Sat P g [.agg (cl x), .agg (cl y)] [] (.int .i64 (cf x y)) h2) (k blk off size : Nat) (w : World) : CmpLays P g #[] enc k cf blk off size w := by
 intro m os dk hs x y
 generalize sortWorldK enc k w blk off m dk os = W
 obtain ⟨h2, _, hsat⟩ := hcmp x y
 have hrel : Rel (fun _ => ⟨0, 0, 0⟩) [] W := ⟨fun o cs e => by simp at e, fun o cs e => by simp at e, fun o es e => by simp at e, fun o o' t m t' m' e => by simp [inf] at e⟩
 have hv : VRs (fun _ => (⟨0, 0, 0⟩ : Loc)) [] [.agg (cl x), .agg (cl y)] [.agg (enc x).toArray, .agg (enc y).toArray] :=
  VRs.cons (by simp only [VR]; exact ⟨_, rfl, hec _ _ _, hcl _⟩) (VRs.cons (by simp only [VR]; exact ⟨_, rfl, hec _ _ _, hcl _⟩) VRs.nil)
 refine Calls.mono (hsat _ W _ hrel hv) ?_
 rintro e w' ⟨v, μ', rfl, t, hvx⟩
 simp only [VR] at hvx
 subst hvx
 refine ⟨rfl, zkj W w' t.keep.os t.keep.tape t.keep.output t.keep.size (fun k hk => t.keep.block k hk ?_) t.keep.drawn⟩
 rintro ⟨o, t, m, e, _⟩
 simp [inf] at e
theorem zvE {f g : Nat} {k : Nat} {enc : α → List Value} {cl : α → List AVal} {srt : Array α → Array α} (k0 : 0 < k) (hk : ∀ x, (cl x).length = k) (hec : ∀ x (μ : Mu) (h : H), VRs μ h (cl x) (enc x)) (hcl : ∀ x, (cl x).all AVal.isCell = true)
  (hdet : ∀ x (μ : Mu) (h : H) (i : Nat) v d, (cl x)[i]? = some v → VR μ h v d → (enc x)[i]? = some d) (hss : ∀ d, (srt d).size = d.size)
  (hcall : ∀ (a : Array Value) (w : World), (callFunc f a).run P w = .ok (.enter f a) w)
  (hcon : ∀ (blk off cap : Nat) (d : Array α) (w : World), HoldsK enc k w blk off d → blk < w.heap.size → d.size < 4611686018427387904 → Calls P f #[.slice (some ⟨blk, off, none⟩) d.size cap, .func (.func g) #[] #[]] w fun e w' => e = .returned (.tuple #[]) ∧ ∃ n os, w' = sortWorldK enc k w blk off n (srt d) os)
  (hnone : ∀ (p : Option Addr) (cap : Nat) (fv : Value) (w : World), Calls P f #[.slice p 0 cap, fv] w fun e w' => e = .returned (.tuple #[]) ∧ w' = w)
  {h : H} {s : Sl} {ts : List α} (ho : Ow h s k (ts.map cl).flatten) (hl : ts.length < 4611686018427387904) :
  callV (Sat P) f [.sl s, .func g []] h fun v h' => v = .tuple [] ∧ Ow h' s k ((srt ts.toArray).toList.map cl).flatten ∧ But s.o h h' ∧ h'.length = h.length := by
 have hel : ∀ x, (enc x).length = k := fun x => by rw [(hec x (fun _ => ⟨0, 0, 0⟩) []).len, hk]
 have hslen : s.len = ts.length := by
  have := ho.len
  rw [Zm cl hk] at this
  exact (Nat.eq_of_mul_eq_mul_right k0 this).symm
 by_cases hz : ts.length = 0
 ·have hts : ts = [] := List.length_eq_zero_iff.1 hz
  subst hts
  have hs0 : (srt (#[] : Array α)).toList = [] := by
   have := hss #[]
   simp at this
   simpa using this
  refine ⟨.tuple [], h, ⟨hcall, fun μ w ds r hd => ?_⟩, rfl, by rw [hs0]; exact ho, ⟨Nat.le_refl _, fun _ _ _ => rfl⟩, rfl⟩
  simp only [VRs] at hd
  obtain ⟨d1, ds1, rfl, hv1, d2, ds2, rfl, hv2, rfl⟩ := hd
  have : ∃ p cap, d1 = .slice p 0 cap := by
   simp only [VR, SR] at hv1
   split at hv1
   ·exact ⟨_, _, hv1.2⟩
   ·obtain ⟨_, _, a, cap, e, _⟩ := hv1
    rw [hslen] at e
    exact ⟨_, _, e⟩
  obtain ⟨p, cap, rfl⟩ := this
  refine Calls.mono (hnone p cap d2 w) ?_
  rintro e w' ⟨rfl, rfl⟩
  exact ⟨_, μ, rfl, Tr.refl r, by simp only [VR]; exact ⟨#[], rfl, VRs.nil⟩⟩
 ·obtain ⟨a, b⟩ | ⟨o, hso, hsz, hoff, hn, hob⟩ := ho.at_
  ·omega
  have hol : o < h.length := (List.getElem?_eq_some_iff.1 hob).1
  have hlen2 : ((srt ts.toArray).toList.map cl).flatten.length = s.n := by
   rw [Zm cl hk, Array.length_toList, hss, hn, hslen]; simp
  have hlen1 : (ts.map cl).flatten.length = s.n := by rw [Zm cl hk, hn, hslen]
  refine ⟨.tuple [], h.set o (.own ((srt ts.toArray).toList.map cl).flatten), ⟨hcall, fun μ w ds r hd => ?_⟩, rfl, ⟨by rw [hlen2, hn], .inr ⟨o, hso, hsz, hoff, hn, by simp [hol]⟩⟩, ⟨by simp, fun i hi hne => by rw [List.getElem?_set, if_neg (fun e => hne (by rw [hso, e]))]⟩, by simp⟩
  simp only [VRs] at hd
  obtain ⟨d1, ds1, rfl, hv1, d2, ds2, rfl, hv2, rfl⟩ := hd
  have hv2' := hv2
  simp only [VR] at hv2'
  obtain ⟨cap2, rfl, hc2⟩ := hv2'
  simp only [VRs] at hc2
  obtain rfl : cap2 = #[] := by simpa using hc2
  simp only [VR, SR, hso] at hv1
  obtain ⟨hin, hz0, a, cap, rfl, hcap, hall⟩ := hv1
  have hio : inf h o = some (0, s.n) := by unfold inf; rw [hob]; simp only; rw [hlen1]
  obtain ⟨_, hfin⟩ := hall 0 s.n hio
  obtain ⟨q1, q2, q3, q4⟩ := hfin rfl
  have ha : a = zt (μ o) s.off := by
   rcases q3 with q | q | q
   ·omega
   ·omega
   ·exact q
  rw [hoff] at ha
  subst ha
  obtain ⟨g1, g2, g3, g4⟩ := r.own o _ hob
  have hd0 : ts.toArray.size = s.len := by simp [hslen]
  have hH : HoldsK enc k w (μ o).b (μ o).off ts.toArray := by
   intro j hj
   have hj' : j < ts.length * k := by simpa using hj
   have hjk : j / k < ts.length := (Nat.div_lt_iff_lt_mul k0).2 hj'
   have hmk : j % k < k := Nat.mod_lt _ k0
   obtain ⟨v, hv⟩ : ∃ v, (cl (ts[j / k]'hjk))[j % k]? = some v := ⟨_, List.getElem?_eq_getElem (by rw [hk]; exact hmk)⟩
   have hcs : (ts.map cl).flatten[j]? = some v := by rw [zab cl hk k0, List.getElem?_eq_getElem hjk]; exact hv
   obtain ⟨_, d, h5, h6⟩ := g4 j v hcs
   have hed := hdet _ _ _ _ _ _ hv h6
   have hfl : (flatK enc k ts.toArray)[j]! = d := by
    rw [get_flatK enc k _ j (by simpa using hj')]
    have : ts.toArray[j / k]! = ts[j / k]'hjk := by simp [hjk]
    rw [this]
    rw [List.getElem!_eq_getElem?_getD, hed]; rfl
   refine ⟨?_, (g3 j (by rw [hlen1] at g2; rw [hn, hslen] at g2; omega)).2⟩
   rw [hfl]
   exact h5
  have hcc := hcon (μ o).b (μ o).off cap ts.toArray w hH g1 (by simpa using hl)
  have hargs : (#[.slice (some (zt (μ o) 0)) s.len cap, .func (.func g) #[] #[]] : Array Value) = #[.slice (some ⟨(μ o).b, (μ o).off, none⟩) ts.toArray.size cap, .func (.func g) #[] #[]] := by rw [hd0]; rfl
  show Calls P f #[.slice (some (zt (μ o) 0)) s.len cap, .func (.func g) #[] #[]] w _
  rw [hargs]
  refine Calls.mono hcc ?_
  rintro e w' ⟨rfl, n, os, rfl⟩
  refine ⟨_, μ, rfl, ?_, by simp only [VR]; exact ⟨#[], rfl, VRs.nil⟩⟩
  unfold sortWorldK
  have hsz2 : (srt ts.toArray).size = ts.toArray.size := hss _
  have hH' : HoldsK enc k (Sort.ahead w n) (μ o).b (μ o).off ts.toArray := holdsK_ahead enc k w n _ _ _ hH
  have tw : Tr μ h w μ (h.set o (.own ((srt ts.toArray).toList.map cl).flatten)) (putRowK enc k (Sort.ahead w n) (μ o).b (μ o).off (srt ts.toArray)) := by
   refine Tr.wrote r hob (by rw [hlen2, hlen1]) rfl rfl ⟨rfl, Nat.le_add_right _ _⟩ (by rw [putRowK, size_putRow]; rfl) (fun j hj => ?_) ?_ (fun i hi => ?_) fun i v hv => ?_
   ·show (Array.modify _ _ _)[j]? = _
    rw [Array.getElem?_modify, if_neg (fun e => hj e.symm)]; rfl
   ·rw [List.all_flatten, List.all_map]
    rw [List.all_eq_true]
    intro x _
    exact hcl x
   ·have hi' := g3 i hi
    refine ⟨?_, by rw [putRowK, frozen?_putRow]; exact hi'.2⟩
    by_cases hlt : i < (flatK enc k (srt ts.toArray)).size
    ·have := cell?_putRow id (Sort.ahead w n) (μ o).b (μ o).off _ (flatK enc k (srt ts.toArray)) hH' (by simp [hsz2]) i hlt
     show (World.cell? (putRow id (Sort.ahead w n) (μ o).b (μ o).off (flatK enc k (srt ts.toArray))) ⟨(μ o).b, (μ o).off + i, none⟩).isSome = true
     rw [this]; rfl
    ·have := cell?_putRow_other id (Sort.ahead w n) (μ o).b (μ o).off (flatK enc k (srt ts.toArray)) (zt (μ o) i) (.inr (.inr (by show _ ≤ (μ o).off + i; omega)))
     rw [putRowK, this]; exact hi'.1
   ·have hvi := hv
    rw [zab cl hk k0] at hv
    cases hq : (srt ts.toArray).toList[i / k]? with
    | none => rw [hq] at hv; cases hv
    | some x =>
     rw [hq] at hv
     have hv : (cl x)[i % k]? = some v := hv
     obtain ⟨d, hd1, hd2⟩ := (hec x μ h).get hv
     have hik : i / k < (srt ts.toArray).size := by have := (List.getElem?_eq_some_iff.1 hq).1; simpa using this
     have hlt : i < (srt ts.toArray).size * k := (Nat.div_lt_iff_lt_mul k0).1 hik
     refine ⟨d, ?_, hd2⟩
     have := cell?_putRow id (Sort.ahead w n) (μ o).b (μ o).off _ (flatK enc k (srt ts.toArray)) hH' (by simp [hsz2]) i (by simpa using hlt)
     show World.cell? (putRow id (Sort.ahead w n) (μ o).b (μ o).off (flatK enc k (srt ts.toArray))) ⟨(μ o).b, (μ o).off + i, none⟩ = some d
     rw [this]
     congr 1
     show (flatK enc k (srt ts.toArray))[i]! = d
     rw [get_flatK enc k _ i hlt]
     have hx : (srt ts.toArray)[i / k]! = x := by
      rw [Array.getElem?_toList] at hq
      simp [hq, getElem!_def]
     rw [hx, List.getElem!_eq_getElem?_getD, hd1]; rfl
  exact tw.trans (Tr.grown tw.rel os)
end
end Go.Proofs.YtlcgclmobfdbcaaGreat.Cl
set_option linter.unusedVariables false
set_option linter.unusedSimpArgs false
namespace Go.Proofs
open Go.Shelf
def sortT77_ren : Go.Shelf.Ren := ⟨fun | 6 => 167 | 15 => 176 | 14 => 175 | 28 => 185 | 29 => 186 | 20 => 177 | 21 => 178 | 22 => 179 | 23 => 180 | 24 => 181 | 25 => 182 | 26 => 183 | 27 => 184 | 46 => 187 | 47 => 188 | 48 => 189 | 49 => 190 | 50 => 191 | 57 => 192 | n => n, fun | 22 => 24 | 24 => 74 | 25 => 117 | 3 => 3 | 39 => 120 | 0 => 0 | 53 => 170 | 55 => 101 | 4 => 4 | 46 => 180 | 45 => 179 | 50 => 184 | 5 => 5 | 9 => 9 | 66 => 188 | 70 => 192 | 76 => 194 | 77 => 195 | n => n, fun | n => n⟩
theorem zmO : Go.Proofs.SlLaysF0.n6 Tryz.prog sortT77_ren := {
 mixed := by kernel_rfl
 f6 := ⟨Tryz.f167.name, by decide, Tryz.func167.trans (congrArg some (by kernel_rfl))⟩
 f14 := ⟨Tryz.f175.name, by decide, Tryz.func175.trans (congrArg some (by kernel_rfl))⟩
 f15 := Tryz.func176.trans (congrArg some (by kernel_rfl))
 f20 := ⟨Tryz.f177.name, by decide, Tryz.func177.trans (congrArg some (by kernel_rfl))⟩
 f21 := ⟨Tryz.f178.name, by decide, Tryz.func178.trans (congrArg some (by kernel_rfl))⟩
 f22 := ⟨Tryz.f179.name, by decide, Tryz.func179.trans (congrArg some (by kernel_rfl))⟩
 f23 := ⟨Tryz.f180.name, by decide, Tryz.func180.trans (congrArg some (by kernel_rfl))⟩
 f24 := ⟨Tryz.f181.name, by decide, Tryz.func181.trans (congrArg some (by kernel_rfl))⟩
 f25 := ⟨Tryz.f182.name, by decide, Tryz.func182.trans (congrArg some (by kernel_rfl))⟩
 f26 := ⟨Tryz.f183.name, by decide, Tryz.func183.trans (congrArg some (by kernel_rfl))⟩
 f27 := ⟨Tryz.f184.name, by decide, Tryz.func184.trans (congrArg some (by kernel_rfl))⟩
 f28 := Tryz.func185.trans (congrArg some (by kernel_rfl))
 f29 := Tryz.func186.trans (congrArg some (by kernel_rfl))
 f46 := ⟨Tryz.f187.name, by decide, Tryz.func187.trans (congrArg some (by kernel_rfl))⟩
 f47 := Tryz.func188.trans (congrArg some (by kernel_rfl))
 f48 := Tryz.func189.trans (congrArg some (by kernel_rfl))
 f49 := ⟨Tryz.f190.name, by decide, Tryz.func190.trans (congrArg some (by kernel_rfl))⟩
 f50 := ⟨Tryz.f191.name, by decide, Tryz.func191.trans (congrArg some (by kernel_rfl))⟩
 f57 := ⟨Tryz.f192.name, by decide, Tryz.func192.trans (congrArg some (by kernel_rfl))⟩
 t0 := Tryz.underlying0
 a0 := Tryz.isAgg0
 z0 := Tryz.sizeOf0
 v0 := Tryz.zeroValue0
 t3 := Tryz.underlying3
 a3 := Tryz.isAgg3
 z3 := Tryz.sizeOf3
 v3 := Tryz.zeroValue3
 t4 := Tryz.underlying4
 a4 := Tryz.isAgg4
 z4 := Tryz.sizeOf4
 v4 := Tryz.zeroValue4
 t5 := Tryz.underlying5
 a5 := Tryz.isAgg5
 z5 := Tryz.sizeOf5
 v5 := Tryz.zeroValue5
 t9 := Tryz.underlying9
 a9 := Tryz.isAgg9
 z9 := Tryz.sizeOf9
 v9 := Tryz.zeroValue9
 t22 := Tryz.underlying24
 a22 := Tryz.isAgg24
 z22 := Tryz.sizeOf24
 v22 := Tryz.zeroValue24
 t25 := Tryz.underlying117
 a25 := Tryz.isAgg117
 z25 := Tryz.sizeOf117
 v25 := Tryz.zeroValue117
 t39 := Tryz.underlying120
 a39 := Tryz.isAgg120
 z39 := Tryz.sizeOf120
 v39 := Tryz.zeroValue120
 t45 := Tryz.underlying179
 a45 := Tryz.isAgg179
 z45 := Tryz.sizeOf179
 v45 := Tryz.zeroValue179
 t46 := Tryz.underlying180
 a46 := Tryz.isAgg180
 z46 := Tryz.sizeOf180
 v46 := Tryz.zeroValue180
 t50 := Tryz.underlying184
 a50 := Tryz.isAgg184
 z50 := Tryz.sizeOf184
 v50 := Tryz.zeroValue184
 t53 := Tryz.underlying170
 a53 := Tryz.isAgg170
 z53 := Tryz.sizeOf170
 v53 := Tryz.zeroValue170
 t55 := Tryz.underlying101
 a55 := Tryz.isAgg101
 z55 := Tryz.sizeOf101
 v55 := Tryz.zeroValue101
 t66 := Tryz.underlying188
 a66 := Tryz.isAgg188
 z66 := Tryz.sizeOf188
 v66 := Tryz.zeroValue188
 t70 := Tryz.underlying192
 a70 := Tryz.isAgg192
 z70 := Tryz.sizeOf192
 v70 := Tryz.zeroValue192
 t76 := Tryz.underlying194
 a76 := Tryz.isAgg194
 z76 := Tryz.sizeOf194
 v76 := Tryz.zeroValue194
 t77 := Tryz.underlying195
 a77 := Tryz.isAgg195
 z77 := Tryz.sizeOf195
 v77 := Tryz.zeroValue195 }
end Go.Proofs
namespace Go.Proofs.YtlcgclmobfdbcaaGreat.Cl
open Go Go.Proofs Go.Shelf Go.Lib
theorem zyR {α : Type} {lt : α → α → Prop} (o : STO lt) {cf : α → α → Int} (h : ∀ a b, lt a b ↔ cf a b < 0) : Go.Sort.SWO (ltOf cf) := by
 have e : ∀ a b, ltOf cf a b = true ↔ lt a b := fun a b => by unfold ltOf; rw [decide_eq_true_eq, h]
 have e' : ∀ a b, ltOf cf a b = false ↔ ¬ lt a b := fun a b => by rw [← e, Bool.not_eq_true]
 refine ⟨fun x => (e' x x).2 (o.irr x), fun x y z h1 h2 => (e x z).2 (o.trans _ _ _ ((e _ _).1 h1) ((e _ _).1 h2)), fun x y z h1 h2 => (e' x z).2 fun h3 => ?_⟩
 have h1 := (e' _ _).1 h1
 have h2 := (e' _ _).1 h2
 by_cases hxy : x = y
 ·subst hxy; exact h2 h3
 ·have hyx := (o.tri x y hxy).resolve_left h1
  exact h2 (o.trans _ _ _ hyx h3)
theorem zvw {α : Type} {lt : α → α → Prop} (o : STO lt) {cf : α → α → Int} (h : ∀ a b, lt a b ↔ cf a b < 0) : ∀ x y, ltOf cf x y = false → ltOf cf y x = false → x = y := fun x y h1 h2 => Classical.byContradiction fun hne => by
 unfold ltOf at h1 h2
 rw [decide_eq_false_iff_not, ← h] at h1 h2
 rcases o.tri x y hne with h3 | h3
 ·exact h1 h3
 ·exact h2 h3
def zeh {α : Type} (cf : α → α → Int) (d : Array α) : Array α := (d.toList.mergeSort fun x y => !(ltOf cf) y x).toArray
theorem zko {α : Type} (cf : α → α → Int) (d : Array α) : (zeh cf d).size = d.size := by simp [zeh]
theorem zkp {α : Type} (cf : α → α → Int) (l : List α) : (zeh cf l.toArray).toList.Perm l := by simpa [zeh] using List.mergeSort_perm l _
theorem zeg {α : Type} {lt : α → α → Prop} (o : STO lt) {cf : α → α → Int} (h : ∀ a b, lt a b ↔ cf a b < 0) (l : List α) : (zeh cf l.toArray).toList.Pairwise fun a b => ¬ lt b a := by
 have sw := zyR o h
 have := List.pairwise_mergeSort (le := fun x y => !(ltOf cf) y x) (fun a b c h1 h2 => by
  simp only [Bool.not_eq_true'] at *
  exact sw.ntrans _ _ _ h2 h1) (fun a b => by
  rw [Bool.or_eq_true, Bool.not_eq_true', Bool.not_eq_true']
  by_cases h1 : ltOf cf b a = true
  ·right
   rw [← Bool.not_eq_true]
   intro h2
   have := sw.trans _ _ _ h1 h2
   rw [sw.irrefl] at this; cases this
  ·left; simpa using h1) l
 have e : (zeh cf l.toArray).toList = l.mergeSort fun x y => !(ltOf cf) y x := by simp [zeh]
 rw [e]
 refine this.imp fun {a b} h1 h2 => ?_
 simp only [Bool.not_eq_true'] at h1
 unfold ltOf at h1
 rw [decide_eq_false_iff_not, ← h] at h1
 exact h1 h2
def encT (t : Tile) : List Value := [.int .i64 t.1, .int .i64 t.2.1, .int .i64 t.2.2.1, .int .i64 t.2.2.2]
theorem zId : ∀ w, (isAgg 74).run Tryz.prog w = .ok true w := fun w => by kernel_rfl
theorem zHI : ∀ w, (Go.sizeOf 74).run Tryz.prog w = .ok 4 w := fun w => by kernel_rfl
theorem zwa {l : List Int} {μ : Mu} {h : H} {i : Nat} {v : AVal} {d : Value} (e : (l.map (AVal.int .i64))[i]? = some v) (hv : VR μ h v d) : (l.map (Value.int .i64))[i]? = some d := by
 rw [List.getElem?_map] at e ⊢
 cases hq : l[i]? with
 | none => rw [hq] at e; cases e
 | some x =>
  rw [hq] at e
  simp only [Option.map_some, Option.some.injEq] at e ⊢
  subst e
  simp only [VR] at hv
  exact hv.symm
theorem Q8 : ∀ (l : List Int) (μ : Mu) (h : H), VRs μ h (l.map (AVal.int .i64)) (l.map (Value.int .i64))
 | [], μ, h => VRs.nil
 | a :: l, μ, h => VRs.cons (by simp only [VR]) (Q8 l μ h)
theorem zmI (t : Tile) : tc t = (tl t).map (AVal.int .i64) := rfl
theorem zdU (t : Tile) : encT t = (tl t).map (Value.int .i64) := rfl
theorem znv (a b : Tile) : ltT a b ↔ cmpT a b < 0 := Iff.rfl
theorem zCq {h : H} {s : Sl} {l : List Tile} (o : Ow h s 4 (tcs l)) (hl : l.length ≤ 1000000000) :
  callV SP zeY [.sl s, .func qB []] h fun v h' => v = .tuple [] ∧ ∃ l', Ow h' s 4 (tcs l') ∧ l'.Perm l ∧ l'.Pairwise (fun a b => ¬ ltT b a) ∧ But s.o h h' ∧ h'.length = h.length := by
 have hcmp : ∀ x y, ∃ h2, Sat Tryz.prog qB [.agg (tc x), .agg (tc y)] [] (.int .i64 (cmpT x y)) h2 := fun x y => by
  obtain ⟨n, h2, hs, rfl, _⟩ := zgv x y []
  exact ⟨h2, hs⟩
 have hc : ∀ (a : Array Value) (w : World), (callFunc zeY a).run Tryz.prog w = .ok (.enter zeY a) w := zb (fn := Tryz.f167) (c := za Tryz.f167) (by kernel_rfl) (by kernel_rfl) (by kernel_rfl)
 have hcc : ∀ (a : Array Value) (w : World), (callFunc qB a).run Tryz.prog w = .ok (.enter qB a) w := zb (fn := Tryz.f116) (c := za Tryz.f116) (by kernel_rfl) (by kernel_rfl) (by kernel_rfl)
 refine (zvE (P := Tryz.prog) (f := zeY) (g := qB) (k := 4) (enc := encT) (cl := tc) (srt := zeh cmpT) (by omega) (fun _ => rfl) (fun x μ h => by rw [zmI, zdU]; exact Q8 _ _ _) (fun _ => rfl)
  (fun x μ h i v d e hv => by rw [zmI] at e; rw [zdU]; exact zwa e hv) (zko _) hc ?_ ?_ o (by omega)).to ?_
 ·intro blk off cap d w hH hb hsz
  exact AnyQ.slices_SortFunc_total zmO 4 zId zHI encT (fun _ => rfl) (fun x v hv => by rw [zdU] at hv; obtain ⟨n, _, rfl⟩ := List.mem_map.1 hv; rfl) cmpT (zyR ltT_sto znv) qB #[] blk off cap d w hcc
   (zyF (fun x μ h => by rw [zmI, zdU]; exact Q8 _ _ _) (fun _ => rfl) hcmp 4 blk off d.size w) hH hb hsz (zvw ltT_sto znv)
 ·intro p cap fv w
  exact AnyF.slices_SortFunc_none zmO p cap fv w
 ·rintro v h' ⟨rfl, o', b, ln⟩
  exact ⟨rfl, _, o', zkp _ _, zeg ltT_sto znv l, b, ln⟩
end Go.Proofs.YtlcgclmobfdbcaaGreat.Cl
set_option linter.unusedVariables false
set_option linter.unusedSimpArgs false
namespace Go.Proofs.YtlcgclmobfdbcaaGreat.Cl
open Go
noncomputable def Xd : Code → Array Oper | .region _ o _ => o | _ => #[]
noncomputable def rfA : Code → Code | .rangeFunc _ _ a _ => a | c => c
noncomputable def rfB : Code → Code | .rangeFunc _ _ _ b => b | c => c
noncomputable def opN (l : Array Oper) (i : Nat) : Oper := l.toList.getD i ⟨none, .move (.tmp 0), 0, "", #[], none⟩
noncomputable def vpT : IterP := ⟨0, 11, 12, 13, 14, 8, Xd (sq Tryz.f168 1 0), Xd (sq Tryz.f168 4 8), Xd (sq Tryz.f168 8 152), Xd (sq Tryz.f168 6 39),
 opN (Xd (sq Tryz.f168 9 306)) 1, [5, 6, 7]⟩
noncomputable def apT : AppP := ⟨7, Xd (sq Tryz.f174 1 0), Xd (sq Tryz.f174 3 4), Xd (rfA (sq Tryz.f174 4 10)), Xd (sub [0] (rfB (sq Tryz.f174 4 10))), Xd (sq Tryz.f174 3 6), 6⟩
def frV (s : Sl) (len i : Int) : Frame := [.undef, .undef, .undef, .undef, .undef, .sl s, i64 len, i64 i, .undef, .undef, .undef, .undef, .undef, .undef, .undef, .undef]
def frQ (s0 : Sl) (g : AVal) (p : Pt) : Frame := [.sl s0, g, .ptr p, .gone, .sl Sl.nil, .gone, g, .gone, .gone, .gone, .gone, .gone, .gone]
theorem A0_k (s0 : Sl) (g : AVal) (k : Frame → H → Prop) (h : H) : zr SP tab apT.A0.toList apT.A0.toList k (fr0 Tryz.f174 [.sl s0, g]) h =
  newO [.sl s0] h fun p h1 => k [.sl s0, g, .ptr p, .gone, .sl Sl.nil, .gone, .gone, .gone, .gone, .gone, .gone, .gone, .gone] h1 := by kernel_rfl
theorem A1_k (s0 : Sl) (g : AVal) (p : Pt) (k : Frame → H → Prop) (h : H) : zr SP tab apT.A1.toList apT.A1.toList k [.sl s0, g, .ptr p, .gone, .sl Sl.nil, .gone, .gone, .gone, .gone, .gone, .gone, .gone, .gone] h = k (frQ s0 g p) h := by kernel_rfl
theorem V0_k (ps : Pt) (k : Frame → H → Prop) (h : H) : zr SP tab vpT.V0.toList vpT.V0.toList (fun fr h => k (mask vpT.mm fr) h) (fr0 Tryz.f168 [.undef, .ptr ps]) h = ldS ps h fun s => k (frV s s.len 0) h := by kernel_rfl
theorem A4_k (s0 : Sl) (g : AVal) (p : Pt) (K : AVal → H → Prop) (h : H) : zr SP tab apT.A4.toList apT.A4.toList (fun fr h => resK tab Tryz.f174.results.toList fr h fun vs => K (one vs) h) (frQ s0 g p) h = ldS p h fun s => K (.sl s) h := by kernel_rfl
theorem L0_k (s : Sl) (s0 : Sl) (g : AVal) (p : Pt) (len i : Int) (K : H → Prop) (h : H) : yq SP tab vpT apT (frQ s0 g p) K 0 (frV s len i) h = (AVal.bool (decide (i < len)) = .bool false ∧ K h) := by kernel_rfl
theorem L1_k (s : Sl) (s0 : Sl) (g : AVal) (p : Pt) (len i : Int) (n : Nat) (K : H → Prop) (h : H) : yq SP tab vpT apT (frQ s0 g p) K (n + 1) (frV s len i) h =
  (AVal.bool (decide (i < len)) = .bool true ∧ ixS s 4 i fun a => ldA a 4 h fun cs => newO [i64 0, i64 0, i64 0, i64 0] h fun b h1 => stN b 4 cs h1 fun h2 => ldA b 4 h2 fun c2 =>
   newO [i64 0, i64 0, i64 0, i64 0] h2 fun d h3 => stN d 4 c2 h3 fun h4 => ldS p h4 fun x => ldA d 4 h4 fun c3 => lenA c3 4 (newS 1 4 (spl [i64 0, i64 0, i64 0, i64 0] 0 4 c3) h4 fun t h5 => app x t 4 h5 fun x' h6 => st1 p (.sl x') h6 fun h7 =>
    yq SP tab vpT apT (frQ s0 g p) K n (frV s len (w64 (i + 1))) h7)) := by kernel_rfl
section
variable {h0 : H} {s : Sl} {ts : List Tile} {ps : Nat}
theorem zem {ob : Nat} {s0 : Sl} {g : AVal} (r : Rd h0 s 4 (tcs ts)) (hl : ts.length ≤ 1000000) (hob : h0.length ≤ ob) {K : H → Prop} {ha : H} (ea : Ext h0 ha) :
  ∀ (n i : Nat) (x : Sl) (h : H), i + n = ts.length → Ext h0 h → ob < h.length → h0.length < h.length → Var h ob (.sl x) → Ow h x 4 (tcs (ts.take i)) → Fr h0.length x → x.o ≠ some ob → (0 < i → x.o.isSome = true) →
   (∀ x h, Ext h0 h → Var h ob (.sl x) → Ow h x 4 (tcs ts) → Fr h0.length x → (0 < ts.length → x.o.isSome = true) → K h) → yq SP tab vpT apT (frQ s0 g (pt ob)) K n (frV s s.len i) h
 | 0, i, x, h, hi, e, hol, hln, vx, ox, fx, hx, hs, hK => by
  have hsl := r.tlen
  rw [L0_k]
  refine ⟨by rw [decide_eq_false (by omega)], hK x h e vx ?_ fx fun hp => hs (by omega)⟩
  rw [show i = ts.length by omega, List.take_length] at ox
  exact ox
 | n + 1, i, x, h, hi, e, hol, hln, vx, ox, fx, hx, hs, hK => by
  have hsl := r.tlen
  have hi' : i < ts.length := by omega
  rw [L1_k]
  refine ⟨by rw [decide_eq_true (by omega)], ?_⟩
  refine (r.ext e).tileG (by omega) (by omega) ?_
  refine zl fun h1 o1 x1 l1 => ?_
  refine o1.stA fun h2 o2 b2 l2 => ?_
  have y2 : Ext h h2 := x1.but_ b2 (zn (Nat.le_refl _))
  refine o2.ldA rfl ?_
  refine zl fun h3 o3 x3 l3 => ?_
  refine o3.stA fun h4 o4 b4 l4 => ?_
  have y4 : Ext h2 h4 := x3.but_ b4 (zn (Nat.le_refl _))
  have y := y2.trans y4
  refine (vx.ext y).ldS ?_
  refine o4.ldA rfl ⟨rfl, ?_⟩
  refine zm (by rfl) fun t h5 ot lt to e5 => ?_
  have x5 : Ext h4 h5 := by rw [e5]; exact Ext.app _ _
  have y5 := y.trans x5
  have hxl := (ox.rd).tlen
  have htl : (ts.take i).length = i := by rw [List.length_take]; omega
  refine yw (by omega) (ox.ext y5) ot.rd (by rw [lt, hxl, htl]; unfold lim; omega) fun x' h6 ox' lx' b6 k1 k2 => ?_
  have hyl := y5.len
  have v6 : Var h6 ob (.sl x) := (vx.ext y5).but b6 hx
  have hx'o : ∀ o, x'.o = some o → x.o = some o ∨ h5.length ≤ o := fun o eo => by
   cases hq : x.o with
   | none => exact .inr (k2 hq o eo)
   | some p => rw [k1 p hq] at eo; exact .inl eo
  have hx' : x'.o ≠ some ob := fun eo => by
   rcases hx'o ob eo with h' | h'
   ·exact hx h'
   ·omega
  refine v6.st _ fun h7 v7 b7 l7 => ?_
  have e6 : Ext h0 h6 := (e.trans y5).but_ b6 fun o eo => fx o eo
  have e7 : Ext h0 h7 := e6.but_ b7 (zn hob)
  have l6 := b6.1
  rw [zd (n := (i : Int) + 1) (by omega) (by omega), show (i : Int) + 1 = ((i + 1 : Nat) : Int) by push_cast; rfl]
  have hts : tcs (ts.take (i + 1)) = tcs (ts.take i) ++ tc (tat ts (i : Int)) := by
   rw [List.take_succ_eq_append_getElem hi', ZB]
   congr 1
   have : tat ts (i : Int) = ts[i] := vq (by rw [Int.toNat_natCast, List.getElem?_eq_getElem hi'])
   rw [this, xk]
   simp [tcs]
  refine zem r hl hob ea n (i + 1) x' h7 (by omega) e7 (by omega) (by omega) v7 ?_ ?_ hx' (fun _ => ?_) hK
  ·rw [hts]
   exact ox'.but b7 (.inl fun eo => hx' eo.symm)
  ·intro o eo
   rcases hx'o o eo with h' | h'
   ·exact fx o h'
   ·omega
  ·have hlen : 0 < x'.len := by rw [lx', lt]; omega
   obtain ⟨ha, hb⟩ | ⟨o, ha, _⟩ := ox'.at_
   ·omega
   ·rw [ha]; rfl
theorem ziE (hv : Var h0 ps (.sl s)) (r : Rd h0 s 4 (tcs ts)) (hl : ts.length ≤ 1000000) :
  callS SP znV [.sl Sl.nil, .func Qb [.ptr (pt ps)]] h0 fun u h' => Ow h' u 4 (tcs ts) ∧ Fr h0.length u ∧ Ext h0 h' ∧ (0 < ts.length → u.o.isSome = true) := by
 have key := zmt (P := Tryz.prog) (T := tab) tok (p := vpT) (q := apT) (fV := Qb) (f := znV) (fnv := Tryz.f168) (fna := Tryz.f174) (N := ts.length)
  (V3 := Xd (sq Tryz.f168 9 306)) (i0 := 0) (i1 := 1) (i2 := 2) (i3 := 3) (i4 := 4) (j0 := 0) (j1 := 1) (j2 := 2) (j3 := 3) (j4 := 4) (b0 := 0) (b1 := 1) (bb := 1) (c0 := 0) (tt := 4)
  (yc := ⟨.value (.tmp 11), #[.tmp 12], #[74]⟩)
  (by kernel_rfl) (by kernel_rfl) (by kernel_rfl) (by kernel_rfl) (by kernel_rfl) rfl rfl (by decide) ?_ rfl ?_ (by kernel_rfl) (by kernel_rfl) (zb (fn := Tryz.f174) (c := za Tryz.f174) (by kernel_rfl) (by kernel_rfl) (by kernel_rfl)) (zb (fn := Tryz.f168) (c := za Tryz.f168) (by kernel_rfl) (by kernel_rfl) (by kernel_rfl))
  (args := [.sl Sl.nil, .func Qb [.ptr (pt ps)]]) (h := h0) (K := fun v h' => ∃ u, v = .sl u ∧ Ow h' u 4 (tcs ts) ∧ Fr h0.length u ∧ Ext h0 h' ∧ (0 < ts.length → u.o.isSome = true)) ?_ ?_
 ·obtain ⟨v, h2, hs, u, rfl, hk⟩ := key
  exact ⟨u, h2, hs, hk⟩
 ·have e0 : vpT.V0.toList.map (·.dst) = [some 5, some 6, some 7] := by kernel_rfl
  have e1 : vpT.V1.toList.map (·.dst) = [some 8] := by kernel_rfl
  have e2 : vpT.V2.toList.map (·.dst) = [some 9, some 10, some 4, none] := by kernel_rfl
  have e4 : vpT.V4.toList.map (·.dst) = [some 15, some 7] := by kernel_rfl
  intro V hV o ho d hd e
  have hm : o.dst ∈ V.toList.map (·.dst) := List.mem_map_of_mem ho
  simp only [List.mem_cons, List.not_mem_nil, or_false] at hV
  simp only [vpT, List.mem_cons, List.not_mem_nil, or_false] at hd
  rcases hV with rfl | rfl | rfl | rfl
  ·rw [e0, e] at hm; simp at hm; omega
  ·rw [e1, e] at hm; simp at hm; omega
  ·rw [e2, e] at hm; simp at hm; omega
  ·rw [e4, e] at hm; simp at hm; omega
 ·have hn : Tryz.f168.ntmps = 16 := by kernel_rfl
  intro d hd
  simp only [vpT, List.mem_cons, List.not_mem_nil, or_false] at hd
  omega
 ·have hn : Tryz.f168.ntmps = 16 := by kernel_rfl
  omega
 ·unfold ziQ
  rw [A0_k]
  refine zS fun h1 v1 x1 l1 => ?_
  rw [A1_k]
  refine ⟨_, ⟨rfl, rfl⟩, ?_⟩
  rw [V0_k]
  refine (hv.ext x1).ldS ?_
  refine zem r hl (Nat.le_refl _) x1 ts.length 0 Sl.nil h1 (by omega) x1 (by omega) (by omega) v1 (by simpa [tcs] using Ow.nil _ _) (Fr.nil _) (by simp [Sl.nil]) (fun h => by omega) fun x h e vx ox fx hs => ?_
  refine (A4_k Sl.nil _ _ (fun v h' => ∃ u, v = .sl u ∧ Ow h' u 4 (tcs ts) ∧ Fr h0.length u ∧ Ext h0 h' ∧ (0 < ts.length → u.o.isSome = true)) h).mpr ?_
  exact vx.ldS ⟨x, rfl, ox, fx, e, hs⟩
end
end Go.Proofs.YtlcgclmobfdbcaaGreat.Cl
set_option linter.unusedVariables false
set_option linter.unusedSimpArgs false
namespace Go.Proofs.YtlcgclmobfdbcaaGreat.Cl
open Go
section
variable {h0 : H} {s : Sl} {l : List Tile} {ps : Nat}
theorem zei (hv : Var h0 ps (.sl s)) (r : Rd h0 s 4 (tcs l)) (hl : l.length ≤ 1000000) :
  callS SP zoe [.func Qb [.ptr (pt ps)], .func qB []] h0 fun u h' => ∃ l', Ow h' u 4 (tcs l') ∧ l'.Perm l ∧ l'.Pairwise (fun a b => ¬ ltT b a) ∧ Fr h0.length u ∧ Ext h0 h' := by
 apply ztb
 unfold XZ
 have hc : callS SP znX [.func Qb [.ptr (pt ps)]] h0 fun u h' => Ow h' u 4 (tcs l) ∧ Fr h0.length u ∧ Ext h0 h' := by
  apply zsD
  unfold XM
  refine (ziE hv r hl).to ?_
  rintro u h' ⟨o, f, x, _⟩
  exact ⟨u, rfl, o, f, x⟩
 refine hc.to ?_
 rintro u h1 ⟨o1, f1, x1⟩
 refine (zCq o1 (by omega)).to ?_
 rintro v h2 ⟨rfl, l', o2, hp, hs, b2, ln⟩
 exact ⟨u, rfl, l', o2, hp, hs, f1, x1.but_ b2 fun o e => f1 o e⟩
def cmpl : List Tile → List Tile
 | [] => []
 | [a] => [a]
 | a :: b :: l => if a = b then cmpl (b :: l) else a :: cmpl (b :: l)
theorem mem_cmpl {x : Tile} : ∀ {l : List Tile}, x ∈ cmpl l ↔ x ∈ l
 | [] => Iff.rfl
 | [a] => Iff.rfl
 | a :: b :: l => by
  have ih := mem_cmpl (x := x) (l := b :: l)
  unfold cmpl
  split
  ·next h => subst h; rw [ih]; simp
  ·rw [List.mem_cons, ih, List.mem_cons (l := b :: l)]
theorem zng : ∀ {l : List Tile}, l.Pairwise (fun a b => ¬ ltT b a) → (cmpl l).Pairwise ltT
 | [], _ => List.Pairwise.nil
 | [a], _ => by simp [cmpl]
 | a :: b :: l, h => by
  have h1 := List.pairwise_cons.1 h
  have ih := zng h1.2
  unfold cmpl
  split
  ·exact ih
  ·next hne =>
   refine List.pairwise_cons.2 ⟨fun x hx => ?_, ih⟩
   have hab : ltT a b := (ltT_sto.tri a b hne).resolve_right (h1.1 b (by simp))
   rcases List.mem_cons.1 (mem_cmpl.1 hx) with rfl | hx'
   ·exact hab
   ·have h2 := (List.pairwise_cons.1 h1.2).1 x hx'
    by_cases e : b = x
    ·rw [← e]; exact hab
    ·exact ltT_sto.trans _ _ _ hab ((ltT_sto.tri b x e).resolve_right h2)
theorem zdW : ∀ (l : List Tile) (a x : Tile), cmpl (l ++ [a, x]) = if a = x then cmpl (l ++ [a]) else cmpl (l ++ [a]) ++ [x]
 | [], a, x => by
  simp only [List.nil_append, cmpl]
  split <;> simp_all
 | [b], a, x => by
  have ih := zdW [] a x
  simp only [List.nil_append, List.cons_append] at ih ⊢
  rw [cmpl, ih]
  conv => rhs; rw [cmpl]
  by_cases h1 : b = a
  ·simp [h1]
  ·simp only [if_neg h1]
   by_cases h2 : a = x
   ·rw [if_pos h2, if_pos h2]
   ·rw [if_neg h2, if_neg h2]; simp
 | b :: c :: l, a, x => by
  have ih := zdW (c :: l) a x
  simp only [List.cons_append] at ih ⊢
  rw [cmpl, ih]
  conv => rhs; rw [cmpl]
  by_cases h1 : b = c
  ·simp [h1]
  ·simp only [if_neg h1]
   by_cases h2 : a = x
   ·rw [if_pos h2, if_pos h2]
   ·rw [if_neg h2, if_neg h2]; simp
theorem zgx {l : List Tile} {k : Nat} (h0 : 1 ≤ k) (hk : k < l.length) : cmpl (l.take (k + 1)) = if l[k - 1]'(by omega) = l[k] then cmpl (l.take k) else cmpl (l.take k) ++ [l[k]] := by
 obtain ⟨j, rfl⟩ : ∃ j, k = j + 1 := ⟨k - 1, by omega⟩
 have e1 : l.take (j + 1 + 1) = l.take j ++ [l[j], l[j + 1]] := by
  rw [List.take_succ_eq_append_getElem hk, List.take_succ_eq_append_getElem (show j < l.length by omega), List.append_assoc]
  rfl
 have e2 : l.take (j + 1) = l.take j ++ [l[j]] := List.take_succ_eq_append_getElem (by omega)
 rw [e1, e2]
 exact zdW _ _ _
theorem zvp (r : Ow h0 s 4 (tcs l)) (hl : l.length ≤ 1000000) :
  callS SP zoc [.sl s] h0 fun u h' => Pre h' u 4 (tcs (cmpl l)) ∧ But s.o h0 h' ∧ (∀ o, u.o = some o → s.o = some o) ∧ h'.length = h0.length := by
 have hsl := r.rd.tlen
 apply zsU
 unfold XV
 refine zc (fun h2 => ?_) (fun h2 => ?_)
 ·have : cmpl l = l := by
   match l, hsl, h2 with
   | [], _, _ => rfl
   | [a], _, _ => rfl
   | a :: b :: m, e, h2 => simp at e; omega
  exact ⟨s, rfl, by rw [this]; exact r.pre, ⟨Nat.le_refl _, fun _ _ _ => rfl⟩, fun o e => e, rfl⟩
 obtain ⟨o, hso⟩ : ∃ o, s.o = some o := by
  obtain ⟨a, b⟩ | ⟨o, a, _⟩ := r.at_
  ·omega
  ·exact ⟨o, a⟩
 refine zlt _ _ _ (fun i h => ∃ k : Nat, i = k ∧ 1 ≤ k ∧ k ≤ l.length ∧ h = h0 ∧ cmpl (l.take k) = l.take k) (fun i _ => (l.length - i).toNat) ?_ _ ⟨1, rfl, by omega, by omega, rfl, ?_⟩
 rotate_left
 ·match l, hsl with
  | [], _ => rfl
  | a :: m, _ => rfl
 rintro X0 _ h ⟨k, rfl, k1, k2, rfl, hk⟩ hX
 unfold zhY zsZ
 refine zc (fun hi => ?_) (fun hi => ?_)
 rotate_left
 ·rw [show k = l.length by omega, List.take_length] at hk
  exact ⟨s, rfl, by rw [hk]; exact r.pre, ⟨Nat.le_refl _, fun _ _ _ => rfl⟩, fun o e => e, rfl⟩
 have hkl : k < l.length := by omega
 have tatN : ∀ {B : List Tile} {j : Nat} (hj : j < B.length), tat B (j : Int) = B[j] := fun {B j} hj => vq (by rw [Int.toNat_natCast, List.getElem?_eq_getElem hj])
 refine r.rd.tileG (by omega) (by omega) ?_
 rw [zd (n := (k : Int) - 1) (by omega) (by omega), show (k : Int) - 1 = ((k - 1 : Nat) : Int) by omega]
 refine r.rd.tileG (by omega) (by omega) (zuQ ?_)
 rw [tatN hkl, tatN (show k - 1 < l.length by omega)]
 have hct := zgx k1 hkl
 refine zc (fun he => ?_) (fun he => ?_)
 rotate_left
 ·unfold zsY
  rw [zd (n := (k : Int) + 1) (by omega) (by omega)]
  refine hX _ _ ⟨k + 1, by push_cast; rfl, by omega, by omega, rfl, ?_⟩ (by omega)
  rw [hct, if_neg (fun e => he e.symm), hk, List.take_succ_eq_append_getElem hkl]
 rw [if_pos he.symm, hk] at hct
 refine r.cutV hso (by omega) (by omega) (by omega) ?_
 rw [Int.toNat_natCast, show ((s.len : Int) - (k : Int)).toNat = l.length - k by omega]
 refine zls _ _ X0 _ _ (fun a b g => ∃ (kk k2 : Nat) (A : List Tile), a = kk ∧ b = k2 ∧ 1 ≤ k2 ∧ k + k2 ≤ l.length ∧ Ow g s 4 (tcs A) ∧ A.length = l.length ∧ kk ≤ k + k2 - 1 ∧ A.take kk = cmpl (l.take (k + k2)) ∧ kk = (cmpl (l.take (k + k2))).length ∧ A.drop (k + k2 - 1) = l.drop (k + k2 - 1) ∧ But s.o h g ∧ g.length = h.length) (fun _ b _ => (l.length - b).toNat) ?_ _ _
  ⟨k, 1, l, rfl, rfl, by omega, by omega, r, rfl, by omega, hct.symm, by rw [hct, List.length_take]; omega, rfl, ⟨Nat.le_refl _, fun _ _ _ => rfl⟩, rfl⟩
 rintro X2 _ _ g ⟨kk, q, A, rfl, rfl, q1, q2, rA, hA, hkk, ht, hkl2, hd, hbut, hgl⟩ hY
 unfold zhX zsX
 refine zc (fun hj => ?_) (fun hj => ?_)
 ·have hq : k + q < l.length := by have : (q : Int) < ((l.length - k : Nat) : Int) := hj; omega
  have rv := rA.viewT hso (lo := k) (n := l.length - k) (by omega)
  have hvl : ((A.drop k).take (l.length - k)).length = l.length - k := by rw [List.length_take, List.length_drop]; omega
  have hget : ∀ j, k + q - 1 ≤ k + j → k + j < l.length → ((A.drop k).take (l.length - k)).getD j (0, 0, 0, 0) = l.getD (k + j) (0, 0, 0, 0) := fun j h1 h2 => by
   have e1 := congrArg (fun m => m[k + j - (k + q - 1)]?) hd
   simp only [List.getElem?_drop] at e1
   rw [List.getD_eq_getElem?_getD, List.getD_eq_getElem?_getD, List.getElem?_take, if_pos (by omega), List.getElem?_drop]
   rw [show k + q - 1 + (k + j - (k + q - 1)) = k + j by omega] at e1
   rw [e1]
  have ld : ∀ j : Nat, k + q - 1 ≤ k + j → k + j < l.length → tat ((A.drop k).take (l.length - k)) (j : Int) = tat l ((k + j : Nat) : Int) := fun j h1 h2 => by
   unfold tat
   rw [Int.toNat_natCast, Int.toNat_natCast]
   exact hget j h1 h2
  refine rv.tileG (by omega) (by rw [hvl]; omega) ?_
  rw [zd (n := (q : Int) - 1) (by omega) (by omega), show (q : Int) - 1 = ((q - 1 : Nat) : Int) by omega]
  refine rv.tileG (by omega) (by rw [hvl]; omega) (zuQ ?_)
  rw [ld q (by omega) hq, ld (q - 1) (by omega) (by omega), tatN hq, tatN (show k + (q - 1) < l.length by omega)]
  have hct2 := zgx (l := l) (k := k + q) (by omega) hq
  have hst : ((q : Int) + 1) = ((q + 1 : Nat) : Int) := by push_cast; rfl
  rw [zd (n := (q : Int) + 1) (by omega) (by omega)]
  have hidx : l[k + (q - 1)]'(by omega) = l[k + q - 1]'(by omega) := by congr 1; omega
  refine zF (fun he => ?_) (fun he => ?_)
  ·have he := of_decide_eq_false he
   refine rv.tileG (by omega) (by rw [hvl]; omega) ?_
   rw [ld q (by omega) hq, tatN hq]
   refine rA.stA (by omega) (by omega) (tc l[k + q]) rfl fun g' rA' b' hl' => ?_
   rw [Int.toNat_natCast, QS A kk l[k + q] (by omega)] at rA'
   rw [if_neg (fun e => he (by rw [hidx]; exact e.symm))] at hct2
   rw [zd (n := (kk : Int) + 1) (by omega) (by omega)]
   refine hY _ _ _ ⟨kk + 1, q + 1, A.set kk l[k + q], by push_cast; rfl, hst, by omega, by omega, rA', by rw [List.length_set]; exact hA, by omega, ?_, ?_, ?_, hbut.trans b', by omega⟩ (by omega)
   ·rw [show k + (q + 1) = k + q + 1 by omega, hct2, ← ht]
    rw [List.take_succ_eq_append_getElem (by rw [List.length_set]; omega), List.getElem_set_self, List.take_set_of_le (Nat.le_refl _)]
   ·rw [show k + (q + 1) = k + q + 1 by omega, hct2, List.length_append, ← hkl2]; rfl
   ·rw [show k + (q + 1) - 1 = (k + q - 1) + 1 by omega, List.drop_set_of_lt (by omega), ← List.drop_drop, ← List.drop_drop, hd]
  ·have he := of_decide_eq_true he
   rw [if_pos (by rw [← hidx]; exact he.symm)] at hct2
   refine hY _ _ _ ⟨kk, q + 1, A, rfl, hst, by omega, by omega, rA, hA, by omega, ?_, ?_, ?_, hbut, hgl⟩ (by omega)
   ·rw [show k + (q + 1) = k + q + 1 by omega, hct2]; exact ht
   ·rw [show k + (q + 1) = k + q + 1 by omega, hct2]; exact hkl2
   ·rw [show k + (q + 1) - 1 = (k + q - 1) + 1 by omega, ← List.drop_drop, ← List.drop_drop, hd]
 ·have hq : k + q = l.length := by have : ¬ (q : Int) < ((l.length - k : Nat) : Int) := hj; omega
  rw [hq, List.take_length] at ht hkl2
  have hkk' : kk < l.length := by omega
  refine rA.cutV hso (by omega) (by omega) (by omega) ?_
  rw [Int.toNat_natCast, show ((s.len : Int) - (kk : Int)).toNat = l.length - kk by omega]
  obtain ⟨a, _⟩ | ⟨o', a, b, c, d, e⟩ := rA.at_
  ·rw [hso] at a; cases a
  unfold qC
  rw [if_neg (show ¬ (l.length - kk = 0) by omega)]
  have hz : (List.replicate (l.length - kk) [i64 0, i64 0, i64 0, i64 0]).flatten = tcs (List.replicate (l.length - kk) (0, 0, 0, 0)) := by
   unfold tcs
   rw [List.map_replicate]
   rfl
  have hzl : (tcs (List.replicate (l.length - kk) ((0, 0, 0, 0) : Tile))).length = (l.length - kk) * 4 := by rw [xK, List.length_replicate]
  have hol : o' < g.length := (List.getElem?_eq_some_iff.1 e).1
  have hsp : yQ (tcs A) (kk * 4) (tcs (List.replicate (l.length - kk) ((0, 0, 0, 0) : Tile))) = tcs (A.take kk ++ List.replicate (l.length - kk) (0, 0, 0, 0)) := by
   unfold yQ
   rw [vp, ZB, hzl, List.drop_of_length_le (by rw [xK]; omega), List.append_nil]
  refine ⟨g.set o' (.own (tcs (A.take kk ++ List.replicate (l.length - kk) (0, 0, 0, 0)))), rfl, ?_, ?_⟩
  ·show putN g s.o s.n (kk * 4) (List.replicate (l.length - kk) [i64 0, i64 0, i64 0, i64 0]).flatten = _
   rw [hz, a]
   have hlen : (tcs A).length = s.n := by rw [xK, d, hA, hsl]
   simp only [putN, wA, e]
   rw [if_pos hlen]
   simp only [Option.bind_some]
   rw [if_pos (by rw [hzl, xK]; omega), hsp]
  ·have rB : Ow (g.set o' (.own (tcs (A.take kk ++ List.replicate (l.length - kk) (0, 0, 0, 0))))) s 4 (tcs (A.take kk ++ List.replicate (l.length - kk) (0, 0, 0, 0))) := ⟨by rw [xK, List.length_append, List.length_take, List.length_replicate]; congr 1; omega, .inr ⟨o', a, b, c, d, by simp [hol]⟩⟩
   refine rB.cutV hso (by omega) (by omega) (by omega) ?_
   have e5 : (tcs (A.take kk ++ List.replicate (l.length - kk) (0, 0, 0, 0))).take (kk * 4) = tcs (cmpl l) := by rw [vp, List.take_left' (by rw [List.length_take]; omega), ht]
   have hlt : (tcs (A.take kk ++ List.replicate (l.length - kk) (0, 0, 0, 0))).length = s.len * 4 := rB.len
   have rv : Pre (g.set o' (.own (tcs (A.take kk ++ List.replicate (l.length - kk) (0, 0, 0, 0))))) ⟨s.o, s.n, 0, kk, 4⟩ 4 (tcs (cmpl l)) :=
    ⟨by rw [xK, ← hkl2], .inr ⟨o', _, s.len, a, rfl, rfl, d, hlt, by show kk ≤ s.len; omega, by simp [hol], e5⟩⟩
   rw [show (0 : Int).toNat = 0 from rfl, show ((kk : Int) - 0).toNat = kk by omega]
   refine ⟨_, rfl, rv, ?_, fun o e => e, by rw [List.length_set]; exact hgl⟩
   refine hbut.trans ⟨by rw [List.length_set]; omega, fun i hi hne => by rw [List.getElem?_set, if_neg (fun e => hne (by rw [a, e]))]⟩
end
end Go.Proofs.YtlcgclmobfdbcaaGreat.Cl
set_option linter.unusedVariables false
set_option linter.unusedSimpArgs false
namespace Go.Proofs.YtlcgclmobfdbcaaGreat.Cl
open Go
theorem zHp {l l' : List Tile} (hp : l'.Perm l) (hs : l'.Pairwise fun a b => ¬ ltT b a) : cmpl l' = dsT l :=
 zka ltT_sto (zng hs) fun x => by rw [mem_cmpl]; exact hp.mem_iff
def fitV (c : Int) (l : List Tile) : Prop := c ≤ 6 ∧ (dsT l).length ≤ 16
section
variable {h0 : H} {s : Sl} {l : List Tile} {c : Int}
open Classical in
theorem zCs (r : Rd h0 s 4 (tcs l)) (hl : l.length ≤ 1000000) :
  callV SP zom [i64 c, .sl s] h0 fun v h' => ∃ u, v = .tuple [.agg [i64 c, .sl u], .bool (decide (fitV c l))] ∧ Pre h' u 4 (tcs (dsT l)) ∧ Fr h0.length u ∧ Ext h0 h' := by
 apply ztD
 unfold Wk
 refine zl fun h1 o1 x1 n1 => ?_
 have hv : callV SP zod [.sl s] h1 fun v h' => v = .func Qb [.ptr (pt h1.length)] ∧ Var h' h1.length (.sl s) ∧ Ext h1 h' := by
  apply zta
  unfold XY
  exact zS fun h2 v2 x2 n2 => ⟨rfl, v2, x2⟩
 refine hv.to ?_
 rintro _ h2 ⟨rfl, v2, x2⟩
 have X2 := x1.trans x2
 refine (zei v2 (r.ext X2) hl).to ?_
 rintro u h3 ⟨l', o3, hp, hs, f3, x3⟩
 have hll := hp.length_eq
 refine (zvp o3 (by omega)).to ?_
 rintro w h4 ⟨rw4, b4, hw, ln4⟩
 rw [zHp hp hs] at rw4
 have X4 : Ext h0 h4 := (X2.trans x3).but_ b4 fun o e => by have := f3 o e; have := X2.len; omega
 have hwl := rw4.rd.tlen
 have o4 : Obj h4 h0.length [i64 0, .sl Sl.nil] := (o1.ext (x2.trans x3)).but b4 (fun e => by
  have := f3 _ e
  have := X2.len
  have := x1.len
  have := x2.len
  omega)
 refine zl fun h5 o5 x5 n5 => ?_
 refine o5.stA fun h6 o6 b6 n6 => ?_
 have y6 : Ext h4 h6 := x5.but_ b6 (zn (Nat.le_refl _))
 refine o6.ldA rfl ?_
 refine zg (o6.ldI rfl rfl ?_)
 have ho := o4.ext y6
 have hol := o4.lt
 have hdl := WO l
 have hfw : Fr h0.length w := fun o e => by have := f3 _ (hw _ e); have := X2.len; omega
 refine zc (fun hc => ?_) (fun hc => ?_)
 ·refine zg (o6.ldS rfl rfl ?_)
  refine ho.stA fun h7 o7 b7 n7 => ?_
  have o67 : Obj h7 h4.length [i64 c, .sl w] := o6.but b7 (fun e => by have := Option.some.inj e; omega)
  have hcell : cell h7 (Pt.add ⟨some h4.length, 2, 0⟩ 1) = cell h6 (Pt.add ⟨some h4.length, 2, 0⟩ 1) := by rw [o67.cellE (n := 2) rfl, o6.cellE (n := 2) rfl]
  refine ⟨hcell, ?_⟩
  refine o7.ldA rfl ⟨w, ?_, (rw4.ext y6).but b7 (fun i ei e => ?_), hfw, (X4.trans y6).but_ b7 (zn (Nat.le_refl _))⟩
  ·have : decide ((w.len : Int) ≤ 16) = decide (fitV c l) := by
    rw [decide_eq_decide]
    unfold fitV
    rw [hwl]
    exact ⟨fun h => ⟨hc, by omega⟩, fun h => by have := h.2; omega⟩
   rw [this]
  ·have := f3 _ (hw _ ei)
   have := X2.len
   have := x1.len
   have := x2.len
   have := Option.some.inj e
   omega
 ·refine ho.stA fun h7 o7 b7 n7 => ?_
  refine o7.ldA rfl ⟨w, ?_, (rw4.ext y6).but b7 (fun i ei e => ?_), hfw, (X4.trans y6).but_ b7 (zn (Nat.le_refl _))⟩
  ·have : decide (fitV c l) = false := decide_eq_false fun h => hc h.1
   rw [this]
  ·have := f3 _ (hw _ ei)
   have := X2.len
   have := x1.len
   have := x2.len
   have := Option.some.inj e
   omega
open Classical in
theorem znw (r : Rd h0 s 4 (tcs l)) (hl : l.length ≤ 1000000) :
  callV SP zot [i64 c, .sl s] h0 fun v h' => ∃ u, v = .tuple [.agg (if fitV c l then [i64 c, .sl u] else [i64 0, .sl Sl.nil]), i64 (if fitV c l then 0 else 3)] ∧ (fitV c l → Pre h' u 4 (tcs (dsT l)) ∧ Fr h0.length u) ∧ Ext h0 h' := by
 apply zuD
 unfold WG
 refine zl fun h1 o1 x1 n1 => ?_
 refine (zCs (c := c) (r.ext x1) hl).to ?_
 rintro _ h2 ⟨u, rfl, ru, fu, x2⟩
 refine ⟨_, rfl, _, rfl, _, rfl, _, rfl, ?_⟩
 refine zl fun h3 o3 x3 n3 => ?_
 refine o3.stA fun h4 o4 b4 n4 => ?_
 have y4 : Ext h2 h4 := x3.but_ b4 (zn (Nat.le_refl _))
 have ho := o1.ext (x2.trans y4)
 have X := (x1.trans x2).trans y4
 by_cases hf : fitV c l
 ·simp only [if_pos hf]
  rw [decide_eq_true hf]
  refine yE (fun e => by cases e) (fun _ => ?_)
  refine o4.ldA rfl ?_
  refine ho.stA fun h5 o5 b5 n5 => ?_
  refine o5.ldA rfl ⟨u, rfl, fun _ => ?_, X.but_ b5 (zn (Nat.le_refl _))⟩
  exact ⟨(ru.ext y4).but b5 (fun i ei e => by have := fu _ ei; have := Option.some.inj e; omega), fu.le (by omega)⟩
 ·simp only [if_neg hf]
  rw [decide_eq_false hf]
  refine yE (fun _ => ?_) (fun e => by cases e)
  refine ho.stA fun h5 o5 b5 n5 => ?_
  exact o5.ldA rfl ⟨u, rfl, fun h => absurd h hf, X.but_ b5 (zn (Nat.le_refl _))⟩
end
end Go.Proofs.YtlcgclmobfdbcaaGreat.Cl
set_option linter.unusedVariables false
set_option linter.unusedSimpArgs false
namespace Go.Proofs.YtlcgclmobfdbcaaGreat.Cl
open Go
def PwRes (R : Int × Int × List Tile) (h0 : H) (v : AVal) (h' : H) : Prop := ∃ u, v = .tuple [.agg (SetC R.2.1 u), i64 R.1] ∧ Pre h' u 4 (tcs R.2.2) ∧ Fr h0.length u ∧ Ext h0 h'
section
variable {h0 : H} {s : Sl} {c : Int} {ts : List Tile} {n : Int}
theorem PwRes.err {R : Int × Int × List Tile} {g : H} {o : Nat} {cs : List AVal} (p : Obj g o cs) (hcs : cs.length = 2) {k : Int} (hR : R = (k, 0, [])) (hx : h0.length ≤ o) (x : Ext h0 g) :
  stN ⟨some o, 2, 0⟩ 2 [.int .i64 0, .sl Sl.nil] g fun h9 => ldA ⟨some o, 2, 0⟩ 2 h9 fun cs10 => PwRes R h0 (.tuple [.agg cs10, .int .i64 k]) h9 := by
 refine p.stA (fun h6 o6 b6 n6 => ?_) hcs
 refine o6.ldA rfl ⟨Sl.nil, ?_, ?_, Fr.nil _, x.but_ b6 (zn hx)⟩
 ·rw [hR]; rfl
 ·rw [hR]; exact Pre.nil _ _
open Classical in
noncomputable def chR (φ : Tile → Tile) (c : Int) (ts : List Tile) : Int × Int × List Tile := if setOK c ts then (0, c, dsT (ts.map φ)) else (1, 0, [])
theorem zva {φ : Tile → Tile} (h : setOK c ts) : chR φ c ts = (0, c, dsT (ts.map φ)) := by unfold chR; rw [if_pos h]
theorem zHw {φ : Tile → Tile} (h : ¬ setOK c ts) : chR φ c ts = (1, 0, []) := by unfold chR; rw [if_neg h]
theorem zjx {φ : Tile → Tile} (h : setOK c ts) : fitV c (ts.map φ) := by
 refine ⟨h.1.2, ?_⟩
 have h1 := WO (ts.map φ)
 have h2 := h.2.1
 rw [List.length_map] at h1
 omega
theorem zuZ (r : Rd h0 s 4 (tcs ts)) (sz : ts.length ≤ 1048576) (g : Nat) (cap : List AVal) (φ : Tile → Tile)
  (hg : ∀ t h, Ext h0 h → callA SP g (.agg (tc t) :: cap) h fun cs h' => cs = tc (φ t) ∧ Ext h h') :
  callV SP zCP [.agg (SetC c s), .func g cap] h0 (PwRes (chR φ c ts) h0) := by
 have hsl := r.tlen
 apply zwO
 unfold zaR
 refine zi fun h1 o1 x1 n1 => ?_
 refine zl fun h2 o2 x2 n2 => ?_
 have p1 := o1.ext x2
 have X := x1.trans x2
 have hx1 := x1.len
 have hx2 := x2.len
 refine p1.ldA rfl ?_
 refine (zdZ (c := c) (r.ext X) (by omega)).to ?_
 rintro b h3 ⟨hb, x3⟩
 have X3 := X.trans x3
 refine zF (fun hq => PwRes.err (o2.ext x3) rfl (zHw fun h => by rw [hb.2 h] at hq; cases hq) (by omega) X3) (fun hq => ?_)
 have hs := hb.1 hq
 have h16 := hs.2.1
 refine zm (by rfl) fun u h4 ou lu uo e4 => ?_
 have x4 : Ext h3 h4 := by rw [e4]; exact Ext.app _ _
 refine zg ((p1.ext (x3.trans x4)).ldS rfl rfl ?_)
 refine zpw _ _ _ _ _ _ _ (fun u i q => ∃ z : Nat, i = z ∧ z ≤ ts.length ∧ Ow q u 4 (tcs ((ts.take z).map φ)) ∧ Fr h3.length u ∧ Ext h3 q) (fun _ i _ => ((ts.length : Int) - i).toNat) ?_ _ _ ⟨0, rfl, by omega, by simpa [tcs] using ou, fun o e => by rw [uo] at e; cases e; omega, x4⟩
 rintro X0 u _ q ⟨z, rfl, hz, ou, fu, y⟩ hX
 have Y := X3.trans y
 unfold zpy
 refine zc (fun hi => ?_) (fun hi => ?_)
 ·have hzl : z < ts.length := by omega
  refine (r.ext Y).tileG (by omega) (by omega) ?_
  rw [wK hzl]
  refine zl fun q1 p1 v1 l1 => ?_
  refine p1.stA fun q2 p2 d2 l2 => ?_
  have v2 : Ext q q2 := v1.but_ d2 (zn (Nat.le_refl _))
  refine p2.ldA rfl ?_
  refine wi ?_
  refine (hg _ q2 (Y.trans v2)).to ?_
  rintro _ q3 ⟨rfl, v3⟩
  refine ⟨rfl, ?_⟩
  have v23 := v2.trans v3
  have hul := ou.rd.tlen
  rw [List.length_map, List.length_take] at hul
  refine Y6 (t := φ ts[z]) (ou.ext v23) (by rw [List.length_map, List.length_take]; unfold lim; omega) fun u' q4 ou4 b4 hu4 l4 => ?_
  rw [zd (by omega) (by omega)]
  have hy := y.len
  have hv := v23.len
  refine hX _ _ _ ⟨z + 1, by push_cast; rfl, by omega, ?_, fu.push (h := q3) (by omega) hu4, (y.trans v23).but_ b4 fun o e => fu o e⟩ (by omega)
  rw [List.take_succ_eq_append_getElem hzl, List.map_append]
  exact ou4
 ·have hzU : z = ts.length := by omega
  rw [hzU, List.take_length] at ou
  unfold zzW
  have q1 := p1.ext (x3.trans y)
  have q2 := o2.ext (x3.trans y)
  refine zg (q1.ldI rfl rfl ?_)
  refine (znw (c := c) ou.rd (by rw [List.length_map]; omega)).to ?_
  rintro _ g1 ⟨w, rfl, hw, y1⟩
  refine ⟨_, rfl, _, rfl, _, rfl, _, rfl, ?_⟩
  have hf : fitV c (ts.map φ) := zjx hs
  obtain ⟨pw, fw⟩ := hw hf
  simp only [if_pos hf]
  have hY := Y.len
  have hy := y.len
  have hx3 := x3.len
  refine (q2.ext y1).stA fun g2 p2 c2 m2 => ?_
  refine p2.ldA rfl ⟨w, by rw [zva hs]; rfl, ?_, fw.le (by omega), (Y.trans y1).but_ c2 (zn (by omega))⟩
  rw [zva hs]
  exact pw.but c2 fun i ei e => by have := fw _ ei; have := Option.some.inj e; omega
theorem zCr (t : Tile) {a b d e : Nat} (ha : a < 4) (hb : b < 4) (hd : d < 4) (he : e < 4) {h : H} : callA SP zCN [.agg (tc t), i64 a, i64 b, i64 d, i64 e] h fun r h' => r = tc (sd t a, sd t b, sd t d, sd t e) ∧ Ext h h' := by
 apply zwM
 unfold zaN
 refine zi fun h1 o1 x1 n1 => ?_
 refine zl fun h2 o2 x2 n2 => ?_
 have p1 := o1.ext x2
 refine p1.sdI (by omega) (by omega) ?_
 refine p1.sdI (by omega) (by omega) ?_
 refine p1.sdI (by omega) (by omega) ?_
 refine p1.sdI (by omega) (by omega) ?_
 simp only [Int.toNat_natCast]
 refine o2.stA fun h3 o3 b3 n3 => ?_
 refine o3.ldA rfl ⟨_, rfl, rfl, (x1.trans x2).but_ b3 (zn (by have := x1.len; omega))⟩
theorem setOK.img {φ : Tile → Tile} (h : setOK c ts) (hφ : ∀ t k, k < 4 → ∃ j, j < 4 ∧ sd (φ t) k = sd t j) : setOK c (dsT (ts.map φ)) := by
 have hf := zjx (φ := φ) h
 refine Zc h.1.1 h.1.2 hf.2 (qj ltT_sto _) fun t ht k hk => ?_
 obtain ⟨a, ha, rfl⟩ := List.mem_map.1 (mem_dsort.1 ht)
 obtain ⟨j, hj, e⟩ := hφ a k hk
 rw [e]
 exact h.ts.2 a ha j hj
end
def mrd (t : Tile) : Tile := (sd t 2, sd t 1, sd t 0, sd t 3)
theorem zeF (t : Tile) (k : Nat) (hk : k < 4) : ∃ j, j < 4 ∧ sd (mrd t) k = sd t j := by
 have hk' : k = 0 ∨ k = 1 ∨ k = 2 ∨ k = 3 := by omega
 rcases hk' with rfl | rfl | rfl | rfl
 ·exact ⟨2, by omega, rfl⟩
 ·exact ⟨1, by omega, rfl⟩
 ·exact ⟨0, by omega, rfl⟩
 ·exact ⟨3, by omega, rfl⟩
theorem zCC {a b : Tile} (h : mrd a = mrd b) : a = b := by
 obtain ⟨a0, a1, a2, a3⟩ := a
 obtain ⟨b0, b1, b2, b3⟩ := b
 simp only [mrd, sd, Prod.mk.injEq] at h ⊢
 omega
section
variable {h0 : H} {s : Sl} {c : Int} {ts : List Tile}
theorem zhe (t : Tile) (h : H) : callA SP zCO [.agg (tc t)] h fun cs h' => cs = tc (mrd t) ∧ Ext h h' := by
 apply zwN
 unfold zaP
 refine zi fun h1 o1 x1 n1 => ?_
 refine zl fun h2 o2 x2 n2 => ?_
 refine (o1.ext x2).ldA rfl ?_
 refine (zCr t (a := 2) (b := 1) (d := 0) (e := 3) (by omega) (by omega) (by omega) (by omega)).to ?_
 rintro _ h3 ⟨rfl, x3⟩
 refine (o2.ext x3).stA fun h4 o4 b4 n4 => ?_
 refine o4.ldA rfl ⟨_, rfl, rfl, ((x1.trans x2).trans x3).but_ b4 (zn (by have := x1.len; omega))⟩
theorem Zk (r : Rd h0 s 4 (tcs ts)) (sz : ts.length ≤ 1048576) : callV SP zCX [.agg (SetC c s)] h0 (PwRes (chR mrd c ts) h0) := by
 apply zyk
 unfold zdG
 refine zi fun h1 o1 x1 n1 => ?_
 refine zl fun h2 o2 x2 n2 => ?_
 have X := x1.trans x2
 have hx1 := x1.len
 refine (o1.ext x2).ldA rfl ?_
 refine (zuZ (c := c) (r.ext X) sz zCO [] mrd fun t h _ => zhe t h).to ?_
 rintro _ h3 ⟨u, rfl, pu, fu, x3⟩
 refine ⟨_, rfl, _, rfl, _, rfl, _, rfl, ?_⟩
 have hX := X.len
 refine (o2.ext x3).stA fun h4 o4 b4 n4 => ?_
 refine o4.ldA rfl ⟨u, rfl, pu.but b4 fun i ei e => by have := fu _ ei; have := Option.some.inj e; omega, fu.le (by omega), (X.trans x3).but_ b4 (zn (by omega))⟩
end
end Go.Proofs.YtlcgclmobfdbcaaGreat.Cl
set_option linter.unusedVariables false
set_option linter.unusedSimpArgs false
namespace Go.Proofs.YtlcgclmobfdbcaaGreat.Cl
open Go
section
variable {c : Int} {ts us : List Tile} {W H : Nat}
theorem zgM {α : Type} {f g : α → Nat} : ∀ {l : List α}, (∀ a ∈ l, f a ≤ g a) → (l.map f).sum ≤ (l.map g).sum
 | [], _ => by simp
 | a :: l, h => by
  have h1 := h a (by simp)
  have h2 := zgM (l := l) fun b hb => h b (by simp [hb])
  simp only [List.map_cons, List.sum_cons]
  omega
theorem zmQ : ∀ (n : Nat) (s x : Int), (seqs c ts W n s x).length ≤ fw (PW c ts W) n s
 | 0, s, x => by
  unfold seqs
  by_cases h : s = x
  ·rw [zj h]; simp [fw]
  ·rw [zK h]; simp
 | n + 1, s, x => by
  have e : fw (PW c ts W) (n + 1) s = ((zh ts W).map fun w => if cd c ts 1 w = s then fw (PW c ts W) n (cd c ts 3 w) else 0).sum := by
   show ((PW c ts W).map fun e => if e.1 = s then fw (PW c ts W) n e.2 else 0).sum = _
   conv => lhs; arg 1; rw [PW]
   rw [List.map_map]; rfl
  rw [e]
  unfold seqs
  rw [List.length_flatMap]
  refine zgM fun w _ => ?_
  by_cases h : cd c ts 1 w = s
  ·rw [zj h, if_pos h, List.length_map]
   exact zmQ n _ _
  ·rw [zK h]; simp
theorem zgL {a b : Int} : ((yp c ts b.toNat a.toNat).length : Int) ≤ (cyl c ts a b : Int) := by
 have : (yp c ts b.toNat a.toNat).length ≤ cyl c ts a b := by
  have e : cyl c ts a b = ((zh ts b.toNat).map fun w => fw (PW c ts b.toNat) (a.toNat - 1) (cd c ts 3 w)).sum := by
   show ((PW c ts b.toNat).map fun e => fw (PW c ts b.toNat) (a.toNat - 1) e.2).sum = _
   conv => lhs; arg 1; rw [PW]
   rw [List.map_map]; rfl
  rw [e]
  unfold yp
  rw [List.length_flatMap]
  refine zgM fun w _ => ?_
  rw [List.length_map]
  exact zmQ _ _ _
 omega
noncomputable def imx (ts us : List Tile) (i : Int) : Int := ((us.findIdx fun a => decide (a = mrd (tat ts i)) : Nat) : Int)
noncomputable def mirT (ts us : List Tile) (T : List (List Int)) : List (List Int) := T.map fun w => w.reverse.map (imx ts us)
theorem zjl (hm : ∀ t ∈ ts, mrd t ∈ us) {i : Int} (h : 0 ≤ i ∧ i < (ts.length : Int)) : (0 ≤ imx ts us i ∧ imx ts us i < (us.length : Int)) ∧ tat us (imx ts us i) = mrd (tat ts i) := by
 have h1 : i.toNat < ts.length := by omega
 have e1 : tat ts i = ts[i.toNat] := vq (List.getElem?_eq_getElem h1)
 have h2 : mrd (tat ts i) ∈ us := hm _ (by rw [e1]; exact List.getElem_mem h1)
 have h3 : us.findIdx (fun a => decide (a = mrd (tat ts i))) < us.length := List.findIdx_lt_length_of_exists ⟨_, h2, by simp⟩
 have h4 := List.findIdx_getElem (w := h3)
 refine ⟨⟨by unfold imx; omega, by unfold imx; omega⟩, ?_⟩
 unfold imx
 rw [vq (by rw [Int.toNat_natCast]; exact List.getElem?_eq_getElem h3)]
 simpa using h4
theorem zCL (hn : ts.Nodup) (hm : ∀ t ∈ ts, mrd t ∈ us) {i j : Int} (hi : 0 ≤ i ∧ i < (ts.length : Int)) (hj : 0 ≤ j ∧ j < (ts.length : Int)) (e : imx ts us i = imx ts us j) : i = j := by
 have h1 := (zjl hm hi).2
 have h2 := (zjl hm hj).2
 rw [e, h2] at h1
 have h3 := zCC h1
 rw [vq (List.getElem?_eq_getElem (show i.toNat < ts.length by omega)), vq (List.getElem?_eq_getElem (show j.toNat < ts.length by omega))] at h3
 refine Classical.byContradiction fun hne => ?_
 have hp := List.pairwise_iff_getElem.1 hn
 rcases Nat.lt_trichotomy i.toNat j.toNat with hlt | heq | hlt
 ·exact hp i.toNat j.toNat (by omega) (by omega) hlt h3.symm
 ·omega
 ·exact hp j.toNat i.toNat (by omega) (by omega) hlt h3
theorem zFW {T : List (List Int)} (hT : ∀ w ∈ T, w.length = W) {y x : Nat} (hy : y < T.length) (hx : x < W) : G (mirT ts us T) y x = imx ts us (G T y (W - 1 - x)) := by
 have hl : T[y].length = W := hT _ (List.getElem_mem hy)
 have e1 : rw_ T y = T[y] := by unfold rw_; rw [List.getD_eq_getElem?_getD, List.getElem?_eq_getElem hy]; rfl
 have e2 : rw_ (mirT ts us T) y = T[y].reverse.map (imx ts us) := by
  unfold rw_ mirT
  rw [List.getD_eq_getElem?_getD, List.getElem?_map, List.getElem?_eq_getElem hy]; rfl
 unfold G
 rw [e1, e2, List.getD_eq_getElem?_getD, List.getD_eq_getElem?_getD, List.getElem?_map, List.getElem?_reverse (by omega), hl, List.getElem?_eq_getElem (show W - 1 - x < T[y].length by omega)]
 rfl
theorem zvU (S : wh c ts) (S' : wh c us) (hm : ∀ t ∈ ts, mrd t ∈ us) (hH : 1 ≤ H) (hW : 1 ≤ W) {T : List (List Int)} (hT : T ∈ yp c ts W H) : mirT ts us T ∈ yp c us W H := by
 obtain ⟨h1, h2, h3⟩ := (wV S hH hW).1 hT
 have hw : ∀ w ∈ T, w.length = W := fun w h => (h2 w h).1
 have hin : ∀ y x, y < H → x < W → 0 ≤ G T y x ∧ G T y x < (ts.length : Int) := fun y x hy hx => by
  have hwy := h2 _ (wP (show y < T.length by omega))
  have : G T y x ∈ rw_ T y := by
   unfold G
   rw [List.getD_eq_getElem?_getD, List.getElem?_eq_getElem (by rw [hwy.1]; exact hx)]
   exact List.getElem_mem _
  exact hwy.2 _ this
 have tile : ∀ y x, y < H → x < W → ∀ k, S_ us (mirT ts us T) y x k = sd (mrd (tat ts (G T y (W - 1 - x)))) k := fun y x hy hx k => by
  unfold S_
  rw [zFW hw (by omega) hx, (zjl hm (hin y _ hy (by omega))).2]
 refine (wV S' hH hW).2 ⟨by unfold mirT; rw [List.length_map, h1], fun w hw' => ?_, fun y x hy hx => ⟨?_, ?_⟩⟩
 ·obtain ⟨v, hv, rfl⟩ := List.mem_map.1 hw'
  refine ⟨by rw [List.length_map, List.length_reverse, hw v hv], fun x hx => ?_⟩
  obtain ⟨z, hz, rfl⟩ := List.mem_map.1 hx
  exact (zjl hm ((h2 v hv).2 z (List.mem_reverse.1 hz))).1
 ·have hx1 : (x + 1) % W < W := Nat.mod_lt _ (by omega)
  rw [tile y x hy hx, tile y _ hy hx1]
  have h := (h3 y (W - 1 - (x + 1) % W) hy (by omega)).1
  have e : (W - 1 - (x + 1) % W + 1) % W = W - 1 - x := by
   by_cases e : x + 1 < W
   ·rw [Nat.mod_eq_of_lt e, show W - 1 - (x + 1) + 1 = W - 1 - x by omega, Nat.mod_eq_of_lt (by omega)]
   ·have e' : x + 1 = W := by omega
    rw [e', Nat.mod_self, show W - 1 - 0 + 1 = W by omega, Nat.mod_self]; omega
  rw [e] at h
  exact h.symm
 ·have hy1 : (y + 1) % H < H := Nat.mod_lt _ (by omega)
  rw [tile y x hy hx, tile _ x hy1 hx]
  exact (h3 y (W - 1 - x) hy (by omega)).2
theorem zCD (hn : ts.Nodup) (hm : ∀ t ∈ ts, mrd t ∈ us) {w v : List Int} (hw : ∀ x ∈ w, 0 ≤ x ∧ x < (ts.length : Int)) (hv : ∀ x ∈ v, 0 ≤ x ∧ x < (ts.length : Int)) (e : w.map (imx ts us) = v.map (imx ts us)) : w = v := by
 induction w generalizing v with
 | nil => cases v with | nil => rfl | cons => simp at e
 | cons a w ih =>
  cases v with
  | nil => simp at e
  | cons b v =>
   rw [List.map_cons, List.map_cons, List.cons.injEq] at e
   rw [zCL hn hm (hw a (by simp)) (hv b (by simp)) e.1, ih (fun x h => hw x (by simp [h])) (fun x h => hv x (by simp [h])) e.2]
theorem zvV (hn : ts.Nodup) (hm : ∀ t ∈ ts, mrd t ∈ us) {T V : List (List Int)} (hT : ∀ w ∈ T, Wd ts W w) (hV : ∀ w ∈ V, Wd ts W w) (e : mirT ts us T = mirT ts us V) : T = V := by
 induction T generalizing V with
 | nil => cases V with | nil => rfl | cons => simp [mirT] at e
 | cons w T ih =>
  cases V with
  | nil => simp [mirT] at e
  | cons v V =>
   unfold mirT at e
   rw [List.map_cons, List.map_cons, List.cons.injEq] at e
   have h1 := zCD hn hm (fun x h => (hT w (by simp)).2 x (List.mem_reverse.1 h)) (fun x h => (hV v (by simp)).2 x (List.mem_reverse.1 h)) e.1
   rw [List.reverse_inj.1 h1, ih (fun x h => hT x (by simp [h])) (fun x h => hV x (by simp [h])) e.2]
theorem zyY (S : wh c ts) (S' : wh c us) (hn : ts.Nodup) (hm : ∀ t ∈ ts, mrd t ∈ us) (hH : 1 ≤ H) (hW : 1 ≤ W) : (yp c ts W H).length ≤ (yp c us W H).length := by
 have hnd : ((yp c ts W H).map (mirT ts us)).Nodup := by
  refine List.pairwise_map.2 ?_
  refine (zkk H).imp_of_mem fun {a b} ha hb hne e => hne ?_
  exact zvV hn hm ((wV S hH hW).1 ha).2.1 ((wV S hH hW).1 hb).2.1 e
 have := zeE _ (yp c us W H) hnd fun x hx => by
  obtain ⟨T, hT, rfl⟩ := List.mem_map.1 hx
  exact zvU S S' hm hH hW hT
 rwa [List.length_map] at this
theorem zCB (t : Tile) : mrd (mrd t) = t := rfl
theorem ziX {l : List Tile} (h : l.Pairwise ltT) : l.Nodup := h.imp fun {a b} hab e => by subst e; exact ltT_sto.irr a hab
theorem zFV (h : setOK c ts) (hH : 1 ≤ H) (hW : 1 ≤ W) : (yp c (dsT (ts.map mrd)) W H).length = (yp c ts W H).length := by
 have h' : setOK c (dsT (ts.map mrd)) := h.img zeF
 have m1 : ∀ t ∈ ts, mrd t ∈ dsT (ts.map mrd) := fun t ht => mem_dsort.2 (List.mem_map_of_mem ht)
 have m2 : ∀ t ∈ dsT (ts.map mrd), mrd t ∈ ts := fun t ht => by
  obtain ⟨a, ha, rfl⟩ := List.mem_map.1 (mem_dsort.1 ht)
  rw [zCB]; exact ha
 exact Nat.le_antisymm (zyY h'.sides h.sides (ziX h'.pw) m2 hH hW) (zyY h.sides h'.sides (ziX h.pw) m1 hH hW)
theorem wE {β : Type} {f : Nat → Option β} {r : β} : ∀ (m : Nat), (List.range m).findSome? f = some r → ∃ n, n < m ∧ f n = some r ∧ ∀ j, j < n → f j = none
 | 0, h => by simp at h
 | m + 1, h => by
  rw [List.range_succ, List.findSome?_append] at h
  cases hq : (List.range m).findSome? f with
  | some r' =>
   rw [hq] at h
   have hr : r' = r := by simpa using h
   subst hr
   obtain ⟨n, h1, h2, h3⟩ := wE m hq
   exact ⟨n, by omega, h2, h3⟩
  | none =>
   rw [hq] at h
   refine ⟨m, by omega, ?_, fun j hj => List.findSome?_eq_none_iff.1 hq j (List.mem_range.2 hj)⟩
   simpa using h
theorem first_none {a b : Int} : zZ c ts a b = none ↔ yp c ts b.toNat a.toNat = [] := by
 unfold zZ; exact List.head?_eq_none_iff
theorem zjy {a b : Int} {T : List (List Int)} (h : zZ c ts a b = some T) : T ∈ yp c ts b.toNat a.toNat := List.mem_of_head? h
theorem ziU {n : Nat} {T : List (List Int)} (h : rowT c ts n = some T) : ∃ a b : Nat, 1 ≤ a ∧ a ≤ 3 ∧ b ≤ 3 ∧ a * b = n ∧ T ∈ yp c ts b a := by
 obtain ⟨k, hk, h⟩ := List.exists_of_findSome?_eq_some h
 have := List.mem_range.1 hk
 unfold valT at h
 split at h
 ·next hh =>
  have h2 := zjy h
  rw [Int.toNat_natCast, Int.toNat_natCast] at h2
  refine ⟨k + 1, n / (k + 1), by omega, by omega, hh.2, ?_, h2⟩
  have := Nat.div_add_mod n (k + 1)
  rw [hh.1] at this
  omega
 ·cases h
theorem zyS {a b : Nat} (a1 : 1 ≤ a) (a3 : a ≤ 3) (b3 : b ≤ 3) (h : yp c ts b a ≠ []) : rowT c ts (a * b) ≠ none := fun hn => by
 have h1 := List.findSome?_eq_none_iff.1 hn (a - 1) (List.mem_range.2 (by omega))
 unfold valT at h1
 have e1 : a - 1 + 1 = a := by omega
 have e2 : a * b / a = b := Nat.mul_div_cancel_left b (by omega)
 rw [e1, if_pos ⟨Nat.mul_mod_right a b, by rw [e2]; exact b3⟩, e2] at h1
 have h2 := first_none.1 h1
 rw [Int.toNat_natCast, Int.toNat_natCast] at h2
 exact h h2
theorem V6 (S : wh c ts) {a b : Nat} (a1 : 1 ≤ a) (a3 : a ≤ 3) (b1 : 1 ≤ b) (b3 : b ≤ 3) (h : yp c ts b a ≠ []) : ∃ ws, yH c ts = some ws ∧ 1 ≤ ws.length ∧ ws.length * (rw_ ws 0).length ≤ a * b := by
 have hab : a * b ≤ 3 * 3 := Nat.mul_le_mul a3 b3
 have hab1 : 1 * 1 ≤ a * b := Nat.mul_le_mul a1 b1
 cases hq : yH c ts with
 | none =>
  have := List.findSome?_eq_none_iff.1 hq (a * b - 1) (List.mem_range.2 (by omega))
  rw [show a * b - 1 + 1 = a * b by omega] at this
  exact absurd this (zyS a1 a3 b3 h)
 | some ws =>
  obtain ⟨n, hn, h1, h2⟩ := wE 9 hq
  have hle : n ≤ a * b - 1 := by
   refine Classical.byContradiction fun hlt => ?_
   have := h2 (a * b - 1) (by omega)
   rw [show a * b - 1 + 1 = a * b by omega] at this
   exact zyS a1 a3 b3 h this
  obtain ⟨a', b', p1, p2, p3, p4, p5⟩ := ziU h1
  have b1' : 1 ≤ b' := by
   rcases Nat.eq_zero_or_pos b' with e | e
   ·subst e; omega
   ·exact e
  obtain ⟨q1, q2, q3⟩ := (wV S p1 b1').1 p5
  refine ⟨ws, rfl, by omega, ?_⟩
  have : (rw_ ws 0).length = b' := (q2 _ (wP (by omega))).1
  rw [q1, this, p4]
  omega
theorem zkF (S : wh c ts) {ws : List (List Int)} (h : yH c ts = some ws) : ∃ a b : Nat, a < 3 ∧ b < 3 ∧ yp c ts (b + 1) (a + 1) ≠ [] := by
 obtain ⟨n, hn, h1, h2⟩ := wE 9 h
 obtain ⟨a, b, p1, p2, p3, p4, p5⟩ := ziU h1
 have b1 : 1 ≤ b := by
  rcases Nat.eq_zero_or_pos b with e | e
  ·subst e; omega
  ·exact e
 refine ⟨a - 1, b - 1, by omega, by omega, ?_⟩
 rw [show a - 1 + 1 = a by omega, show b - 1 + 1 = b by omega]
 exact List.ne_nil_of_mem p5
theorem zkl (h : setOK c ts) (hH : 1 ≤ H) (hH3 : H ≤ 3) (hW : 1 ≤ W) (hW3 : W ≤ 3) {T : List (List Int)} (hT : T ∈ yp c ts W H) : T.length = H ∧ zIe c ts T := by
 obtain ⟨h1, h2, h3⟩ := (wV h.sides hH hW).1 hT
 obtain ⟨R, hwd⟩ := zmA hH hH3 hW hW3 h1 h2
 refine ⟨h1, ⟨h, fun y x hy hx => ?_, ⟨by omega, by omega⟩, fun y hy => ?_⟩, ?_⟩
 ·have hwy := h2 _ (wP hy)
  have : G T y x ∈ rw_ T y := by
   unfold G
   rw [List.getD_eq_getElem?_getD, List.getElem?_eq_getElem hx]
   exact List.getElem_mem _
  exact hwy.2 _ this
 ·have e1 := (h2 _ (wP hy)).1
  have e2 := (h2 _ (wP (show 0 < T.length by omega))).1
  rw [e1, e2]
  exact ⟨rfl, hW, by omega⟩
 ·rw [zmz R, h1, hwd]
  exact h3
end
end Go.Proofs.YtlcgclmobfdbcaaGreat.Cl
set_option linter.unusedVariables false
set_option linter.unusedSimpArgs false
namespace Go.Proofs.YtlcgclmobfdbcaaGreat.Cl
open Go
def extR (c : Int) (ts : List Tile) (first : Int) : Nat → Int → Int → Int → PL
 | 0, last, ab, be => if first = last then [(ab, be)] else []
 | m + 1, last, ab, be => (List.range ts.length).flatMap fun (k : Nat) => if E_ ts (k : Int) 0 = last then extR c ts first m (E_ ts (k : Int) 2) (ab * c + E_ ts (k : Int) 1) (be * c + E_ ts (k : Int) 3) else []
theorem zkd (c : Int) (ts : List Tile) (k : Nat) (w : List Int) (x : Int) : cd c ts k (w ++ [x]) = cd c ts k w * c + E_ ts x k := by
 unfold cd
 rw [List.map_append, List.map_cons, List.map_nil, WQ]
theorem VT {c : Int} {ts : List Tile} : ∀ (m : Nat) (w : List Int), 0 < w.length → (rounds ts m w).map (fun w => (cd c ts 1 w, cd c ts 3 w)) = extR c ts (E_ ts (gt w 0) 0) m (E_ ts (gt w (w.length - 1)) 2) (cd c ts 1 w) (cd c ts 3 w)
 | 0, w, hw => by
  unfold rounds extR vS
  by_cases h : E_ ts (gt w (w.length - 1)) 2 = E_ ts (gt w 0) 0
  ·rw [zj h, if_pos h.symm]; rfl
  ·rw [zK h, if_neg fun e => h e.symm]; rfl
 | m + 1, w, hw => by
  unfold rounds extR
  rw [List.map_flatMap]
  refine flatMap_congr' fun k hk => ?_
  have h1 : hC ts w (k : Int) ↔ E_ ts (k : Int) 0 = E_ ts (gt w (w.length - 1)) 2 := ⟨fun h => (h hw).symm, fun h _ => h.symm⟩
  by_cases h : hC ts w (k : Int)
  ·rw [zj h, if_pos (h1.1 h), VT m (w ++ [(k : Int)]) (by simp), xP hw, zkd, zkd]
   have : (w ++ [(k : Int)]).length - 1 = w.length := by simp
   rw [this, zox]
  ·rw [zK h, if_neg fun e => h (h1.2 e)]; rfl
def RI (c : Int) (ts : List Tile) (W : Nat) : PL := (List.range c.toNat).flatMap fun (a : Nat) => extR c ts (a : Int) W (a : Int) 0 0
theorem wM {α β : Type} (f : α → List β) (g : β → Nat) : ∀ l : List α, ((l.flatMap f).map g).sum = (l.map fun a => ((f a).map g).sum).sum
 | [] => rfl
 | a :: l => by
  rw [List.flatMap_cons, List.map_append, List.sum_append, wM f g l]; rfl
theorem zmU {c : Int} {ts : List Tile} {W : Nat} (S : wh c ts) (hW : 1 ≤ W) : Same (RI c ts W) (PW c ts W) := by
 intro g
 obtain ⟨m, rfl⟩ : ∃ m, W = m + 1 := ⟨W - 1, by omega⟩
 have e1 : PW c ts (m + 1) = (List.range ts.length).flatMap fun (k : Nat) => extR c ts (E_ ts (k : Int) 0) m (E_ ts (k : Int) 2) (0 * c + E_ ts (k : Int) 1) (0 * c + E_ ts (k : Int) 3) := by
  unfold PW zh
  rw [rounds, List.map_flatMap]
  refine flatMap_congr' fun k hk => ?_
  rw [zj (show hC ts [] (k : Int) from fun h => absurd h (by simp)), VT m _ (by simp)]
  have h1 := zkd c ts 1 [] (k : Int)
  have h3 := zkd c ts 3 [] (k : Int)
  rw [h1, h3]
  rfl
 rw [e1, wM]
 unfold RI
 rw [wM]
 have e2 : ∀ a : Nat, ((extR c ts (a : Int) (m + 1) (a : Int) 0 0).map g).sum = ((List.range ts.length).map fun (k : Nat) => if E_ ts (k : Int) 0 = (a : Int) then ((extR c ts (a : Int) m (E_ ts (k : Int) 2) (0 * c + E_ ts (k : Int) 1) (0 * c + E_ ts (k : Int) 3)).map g).sum else 0).sum := fun a => by
  rw [extR, wM]
  refine xC fun k _ => ?_
  by_cases h : E_ ts (k : Int) 0 = (a : Int)
  ·rw [if_pos h, if_pos h]
  ·rw [if_neg h, if_neg h]; rfl
 rw [xC fun a _ => e2 a]
 refine YE (S := c.toNat) (fun k : Nat => E_ ts (k : Int) 0) (fun k a => ((extR c ts a m (E_ ts (k : Int) 2) (0 * c + E_ ts (k : Int) 1) (0 * c + E_ ts (k : Int) 3)).map g).sum) (List.range ts.length) fun k hk => ?_
 have := S.2 (k : Int) 0 (by omega) (by omega) (by have := List.mem_range.1 hk; omega)
 have := S.1
 omega
theorem zCk {c : Int} {ts : List Tile} {W : Nat} (S : wh c ts) (hN : ts.length ≤ 16) (hW : 1 ≤ W ∧ W ≤ 3) : (RI c ts W).length ≤ 4096 := by
 have := zmU S hW.1 fun _ => 1
 have e : ∀ R : PL, (R.map fun _ => 1).sum = R.length := fun R => by induction R with | nil => rfl | cons a R ih => simp only [List.map_cons, List.sum_cons, ih, List.length_cons]; omega
 rw [e, e] at this
 rw [this]
 unfold PW
 rw [List.length_map]
 exact z7 hN hW.2 []
theorem Xy {α : Type} (g : Nat → List α) {k n : Nat} (h : k < n) : ((List.range k).flatMap g).length + (g k).length ≤ ((List.range n).flatMap g).length := by
 obtain ⟨d, rfl⟩ : ∃ d, n = k + 1 + d := ⟨n - (k + 1), by omega⟩
 rw [List.range_add, List.flatMap_append, List.length_append, List.range_succ, List.flatMap_append, List.length_append]
 simp
structure REnv (h : H) (ox oc os of_ : Nat) (c : Int) (s : Sl) (L : PL) : Prop where
 vs : Obj h os (SetC c s)
 vf : Var h of_ (.func zou [.ptr (pt oc), .ptr ⟨some os, 2, 0⟩, .ptr (pt of_)])
 out : ∃ x, x.o = some ox ∧ Var h oc (.sl x) ∧ Ow h x 2 (pcs L)
theorem REnv.ext {h h' : H} {ox oc os of_ : Nat} {c : Int} {s : Sl} {L : PL} (e : REnv h ox oc os of_ c s L) (x : Ext h h') : REnv h' ox oc os of_ c s L := by
 obtain ⟨y, a, b, d⟩ := e.out
 exact ⟨e.vs.ext x, e.vf.ext x, y, a, b.ext x, d.ext x⟩
section
variable {hb : H} {c : Int} {s : Sl} {ts : List Tile} {ox oc os of_ : Nat} {first : Int}
theorem zes (r : Rd hb s 4 (tcs ts)) (S : wh c ts) (hc : c ≤ 6) (hN : ts.length ≤ 16) (hn : hb.length ≤ oc ∧ hb.length ≤ ox) (hd : ox ≠ oc ∧ ox ≠ os ∧ ox ≠ of_ ∧ oc ≠ os ∧ oc ≠ of_) :
  ∀ (m : Nat) (last ab be : Int) (L : PL) (h : H), m ≤ 3 → (0 ≤ ab ∧ ab < 6 ^ (3 - m)) → (0 ≤ be ∧ be < 6 ^ (3 - m)) → L.length + (extR c ts first m last ab be).length ≤ 1000000 → REnv h ox oc os of_ c s L → Ext hb h →
  callV SP zou [i64 first, i64 last, i64 ab, i64 be, i64 m, .ptr (pt oc), .ptr ⟨some os, 2, 0⟩, .ptr (pt of_)] h fun _ h' => REnv h' ox oc os of_ c s (L ++ extR c ts first m last ab be) ∧ Ext hb h'
 | 0, last, ab, be, L, h, hm, ha, hb', hL, e, x => by
  apply zgj
  unfold Zq
  refine zu (fun _ => ?_) (fun hne => absurd rfl hne)
  unfold extR at hL ⊢
  refine zu (fun hf => ?_) (fun hf => ?_)
  ·rw [if_pos hf] at hL ⊢
   obtain ⟨y, yo, vy, oy⟩ := e.out
   refine vy.ldS ⟨rfl, ?_⟩
   refine zm (by rfl) fun t h1 ot lt to e1 => ?_
   have x1 : Ext h h1 := by rw [e1]; exact Ext.app _ _
   have hyl := oy.rd.plen
   refine yw (by omega) (oy.ext x1) ot.rd (by rw [lt, hyl]; simp at hL; unfold lim; omega) fun y' h2 oy' ly' b2 k1 k2 => ?_
   have hxl := oy.lt yo
   have hcl := vy.lt
   have v2 := (vy.ext x1).but b2 (by rw [yo]; intro e; exact hd.1 (Option.some.inj e))
   refine v2.st _ fun h3 v3 b3 l3 => ?_
   have yo' := k1 ox yo
   have c2 : Chg (fun i => i = ox ∨ i = oc) h h3 := ((x1.chg _).trans (b2.chg fun i e => .inl (by rw [yo] at e; exact (Option.some.inj e).symm))).trans (b3.chg fun i e => .inr (Option.some.inj e).symm)
   refine ⟨⟨e.vs.chg c2 (by rintro (q | q); exact hd.2.1 q.symm; exact hd.2.2.2.1 q.symm), e.vf.chg c2 (by rintro (q | q); exact hd.2.2.1 q.symm; exact hd.2.2.2.2 q.symm), y', yo', v3, ?_⟩, x.chg_ c2 (by rintro i (rfl | rfl); exact hn.2; exact hn.1)⟩
   rw [zCy]
   exact oy'.but b3 (.inl (by rw [yo']; intro e; exact hd.1 (Option.some.inj e).symm))
  ·rw [if_neg hf, List.append_nil]
   exact ⟨e, x⟩
 | m + 1, last, ab, be, L, h, hm, ha, hb', hL, e, x => by
  have hrl := r.tlen
  apply zgj
  unfold Zq
  refine zu (fun hne => absurd hne (by omega)) (fun _ => ?_)
  refine zg (e.vs.ldS rfl rfl ?_)
  generalize hg : (fun k : Nat => if E_ ts (k : Int) 0 = last then extR c ts first m (E_ ts (k : Int) 2) (ab * c + E_ ts (k : Int) 1) (be * c + E_ ts (k : Int) 3) else []) = g
  have hflat : extR c ts first (m + 1) last ab be = (List.range ts.length).flatMap g := by rw [← hg]; rfl
  rw [hflat] at hL ⊢
  refine zmc _ _ _ _ _ _ _ _ _ _ _ (fun k h => ∃ z : Nat, k = z ∧ z ≤ ts.length ∧ REnv h ox oc os of_ c s (L ++ (List.range z).flatMap g) ∧ Ext hb h) (fun k _ => (ts.length - k).toNat) ?_ _ ⟨0, rfl, by omega, by simpa using e, x⟩
  clear e x
  rintro X _ h ⟨z, rfl, hz, e, x⟩ hX
  unfold zir
  refine zc (fun hi => ?_) (fun hi => ?_)
  rotate_left
  ·rw [show z = ts.length by omega] at e
   exact ⟨e, x⟩
  have hz' : z < ts.length := by omega
  have hpre := Xy g hz'
  have rh := r.ext x
  refine rh.tileG (by omega) (by omega) ?_
  refine zl fun h3 o3 x3 _ => ?_
  refine o3.stA fun h4 o4 b4 _ => ?_
  have x4 : Ext h h4 := x3.but_ b4 (zn (Nat.le_refl _))
  have e4 := e.ext x4
  refine o4.sdI (by omega) (by omega) ?_
  have hst : ((z : Int) + 1) = ((z + 1 : Nat) : Int) := by push_cast; rfl
  have hSk := fun k hk => S.2 (z : Int) k hk (by omega) (by omega)
  refine zu (fun hw => ?_) (fun hw => ?_)
  ·have hgz : g z = extR c ts first m (E_ ts (z : Int) 2) (ab * c + E_ ts (z : Int) 1) (be * c + E_ ts (z : Int) 3) := by rw [← hg]; exact if_pos hw
   refine e4.vf.ldV ?_
   refine o4.sdI (by omega) (by omega) ?_
   refine zg (e4.vs.ldI rfl rfl ?_)
   refine o4.sdI (by omega) (by omega) ?_
   refine zg (e4.vs.ldI rfl rfl ?_)
   refine o4.sdI (by omega) (by omega) ?_
   have s1 := hSk 1 (by omega)
   have s3 := hSk 3 (by omega)
   have p6 : (6 : Int) ^ (3 - (m + 1)) * 6 = 6 ^ (3 - m) := by rw [show 3 - m = 3 - (m + 1) + 1 by omega, Int.pow_succ]
   have p7 : (6 : Int) ^ (3 - m) ≤ 6 ^ 3 := by
    match m, hm with
    | 0, _ => decide
    | 1, _ => decide
    | 2, _ => decide
   have p8 : (6 : Int) ^ 3 = 216 := by decide
   have m1 : ab * c ≤ ab * 6 := Int.mul_le_mul_of_nonneg_left hc ha.1
   have m2 : 0 ≤ ab * c := Int.mul_nonneg ha.1 (by have := S.1; omega)
   have m3 : be * c ≤ be * 6 := Int.mul_le_mul_of_nonneg_left hc hb'.1
   have m4 : 0 ≤ be * c := Int.mul_nonneg hb'.1 (by have := S.1; omega)
   change 0 ≤ sd (tat ts (z : Int)) 1 ∧ sd (tat ts (z : Int)) 1 < c at s1
   change 0 ≤ sd (tat ts (z : Int)) 3 ∧ sd (tat ts (z : Int)) 3 < c at s3
   rw [zd (n := ab * c) (by omega) (by omega), zd (n := be * c) (by omega) (by omega)]
   show viaF _ [_, _, .int .i64 (w64 (ab * c + sd (tat ts (z : Int)) 1)), .int .i64 (w64 (be * c + sd (tat ts (z : Int)) 3)), _] _
   rw [zd (n := ab * c + sd (tat ts (z : Int)) 1) (by omega) (by omega), zd (n := be * c + sd (tat ts (z : Int)) 3) (by omega) (by omega), zd (n := ((m + 1 : Nat) : Int) - 1) (by omega) (by omega), show ((m + 1 : Nat) : Int) - 1 = (m : Int) by omega]
   refine wi ?_
   refine (zes r S hc hN hn hd m (E_ ts (z : Int) 2) (ab * c + E_ ts (z : Int) 1) (be * c + E_ ts (z : Int) 3) (L ++ (List.range z).flatMap g) h4 (by omega) ⟨?_, ?_⟩ ⟨?_, ?_⟩ ?_ e4 (x.trans x4)).to ?_
   ·change 0 ≤ ab * c + sd (tat ts (z : Int)) 1; omega
   ·change ab * c + sd (tat ts (z : Int)) 1 < _; omega
   ·change 0 ≤ be * c + sd (tat ts (z : Int)) 3; omega
   ·change be * c + sd (tat ts (z : Int)) 3 < _; omega
   ·rw [← hgz, List.length_append]; omega
   rintro _ h5 ⟨e5, x5⟩
   rw [← hgz, List.append_assoc] at e5
   rw [zd (n := (z : Int) + 1) (by omega) (by omega)]
   refine hX _ _ ⟨z + 1, hst, hz', ?_, x5⟩ (by omega)
   rw [List.range_succ, List.flatMap_append]
   simpa using e5
  ·have hgz : g z = [] := by rw [← hg]; exact if_neg hw
   rw [zd (n := (z : Int) + 1) (by omega) (by omega)]
   refine hX _ _ ⟨z + 1, hst, hz', ?_, x.trans x4⟩ (by omega)
   rw [List.range_succ, List.flatMap_append]
   simpa [hgz] using e4
theorem zvH {h0 : H} {W : Nat} (r : Rd h0 s 4 (tcs ts)) (S : wh c ts) (hc : c ≤ 6) (hN : ts.length ≤ 16) (hW : 1 ≤ W ∧ W ≤ 3) :
  callS SP zCQ [.agg (SetC c s), i64 W] h0 fun u h' => Rd h' u 2 (pcs (RI c ts W)) ∧ Ext h0 h' := by
 have hlen := zCk S hN hW
 apply zwQ
 unfold zaV
 refine zi fun h1 o1 x1 l1 => ?_
 refine zm (by rfl) fun y h2 oy ly yo e2 => ?_
 have x2 : Ext h1 h2 := by rw [e2]; exact Ext.app _ _
 have l2 : h2.length = h1.length + 1 := by rw [e2]; simp
 refine zS fun h3 v3 x3 l3 => ?_
 refine v3.st _ fun h4 v4 b4 l4 => ?_
 refine zS fun h5 v5 x5 l5 => ?_
 refine v5.st _ fun h6 v6 b6 l6 => ?_
 have C : Chg (fun i => h2.length ≤ i) h2 h6 := (((x3.chg _).trans (b4.chg fun i e => by cases e; exact Nat.le_refl _)).trans (x5.chg _)).trans (b6.chg fun i e => by cases e; omega)
 have X2 := x1.trans x2
 have X : Ext h0 h6 := X2.chg_ C fun i hi => by have := X2.len; omega
 have os : Obj h6 h0.length (SetC c s) := (o1.ext x2).chg C (by omega)
 have oy6 : Ow h6 y 2 (pcs []) := (oy.chg C fun i e => by rw [yo] at e; cases e; omega)
 have vc : Var h6 h2.length (.sl y) := (v4.ext x5).but b6 (fun e => by have := Option.some.inj e; omega)
 have e6 : REnv h6 h1.length h2.length h0.length h4.length c s [] := ⟨os, v6, y, yo, vc, oy6⟩
 refine zg (os.ldI rfl rfl ?_)
 have hc1 := S.1
 refine zpz _ _ _ _ _ _ (fun k h => ∃ z : Nat, k = z ∧ z ≤ c.toNat ∧ REnv h h1.length h2.length h0.length h4.length c s ((List.range z).flatMap fun (a : Nat) => extR c ts (a : Int) W (a : Int) 0 0) ∧ Ext h0 h) (fun k _ => (c - k).toNat) ?_ _ ⟨0, rfl, by omega, e6, X⟩
 rintro X _ h ⟨z, rfl, hz, e, x⟩ hX
 unfold zpB zzZ
 refine zc (fun hi => ?_) (fun hi => ?_)
 ·have hz' : z < c.toNat := by omega
  have hpre := Xy (fun (a : Nat) => extR c ts (a : Int) W (a : Int) 0 0) hz'
  have hlen' : ((List.range c.toNat).flatMap fun (a : Nat) => extR c ts (a : Int) W (a : Int) 0 0).length ≤ 4096 := hlen
  have p1 : (1 : Int) ≤ 6 ^ (3 - W) := by
   rcases hW with ⟨w1, w3⟩
   match W, w1, w3 with
   | 1, _, _ => decide
   | 2, _, _ => decide
   | 3, _, _ => decide
  refine e.vf.ldV (wi ?_)
  refine (zes (hb := h0) (first := (z : Int)) r S hc hN ⟨by omega, by omega⟩ ⟨by omega, by omega, by omega, by omega, by omega⟩ W (z : Int) 0 0 _ h hW.2 ⟨by omega, by omega⟩ ⟨by omega, by omega⟩ (by omega) e x).to ?_
  rintro _ h7 ⟨e7, x7⟩
  rw [zd (n := (z : Int) + 1) (by omega) (by omega)]
  refine hX _ _ ⟨z + 1, by push_cast; rfl, hz', ?_, x7⟩ (by omega)
  rw [List.range_succ, List.flatMap_append]
  simpa using e7
 ·obtain ⟨u, uo, vu, ou⟩ := e.out
  rw [show z = c.toNat by omega] at ou
  exact vu.ldS ⟨_, rfl, ou.rd, x⟩
end
end Go.Proofs.YtlcgclmobfdbcaaGreat.Cl
set_option linter.unusedVariables false
set_option linter.unusedSimpArgs false
namespace Go.Proofs.YtlcgclmobfdbcaaGreat.Cl
open Go
theorem zet {S : SatT} {T : Tab} {p : RngP} {es : List (AVal × AVal)} {F : Frame → Prop} {h : H} (G : List Nat → Frame → Prop)
  (hend : ∀ seen fr, G seen fr → seen.Nodup → (∀ i ∈ seen, i < es.length) → (∀ i, i < es.length → i ∈ seen) → F (clr [p.d2, p.d3] (mask p.mm fr)))
  (hstep : ∀ seen fr i k v, G seen fr → i ∉ seen → es[i]? = some (k, v) → zr S T p.ops.toList p.ops.toList (fun fr' h' => h' = h ∧ G (i :: seen) fr') ((clr [p.d2, p.d3, p.d4, p.d5] (mask p.mm fr)).set p.d6 v) h) :
  ∀ (N : Nat) (seen : List Nat) (fr : Frame), seen.Nodup → (∀ i ∈ seen, i < es.length) → N + seen.length = es.length + 1 → G seen fr → zmZ S T p es F h N seen fr
 | 0, seen, fr, hn, hl, hN, g => by
  have : seen.length ≤ (List.range es.length).length := hn.length_le_of_subset fun i hi => List.mem_range.2 (hl i hi)
  rw [List.length_range] at this
  omega
 | N + 1, seen, fr, hn, hl, hN, g => by
  refine ⟨fun hall => hend seen fr g hn hl hall, fun i k v he hi => ?_⟩
  have hil : i < es.length := by
   rcases Nat.lt_or_ge i es.length with h | h
   ·exact h
   ·rw [List.getElem?_eq_none h] at he; cases he
  refine Lin.mono (qf _ _ _ _) (K := fun q => q.2 = h ∧ G (i :: seen) q.1) (K' := fun q => q.2 = h ∧ zmZ S T p es F h N (i :: seen) q.1) ?_ (hstep seen fr i k v g hi he)
  rintro ⟨fr', h'⟩ ⟨e, g'⟩
  refine ⟨e, zet G hend hstep N (i :: seen) fr' (List.nodup_cons.2 ⟨hi, hn⟩) (fun j hj => ?_) (by simp only [List.length_cons]; omega) g'⟩
  rcases List.mem_cons.1 hj with rfl | hj
  ·exact hil
  ·exact hl j hj
noncomputable def zja : Code → Array Oper | .region _ o _ => o | _ => #[]
def fl (x : AVal) : Frame := List.replicate 16 .undef ++ x :: List.replicate 65 .undef
def fl2 (a b : Int) : Frame := List.replicate 16 .undef ++ i64 (mnI 1000000000000001 (w64 (a + b))) :: .undef :: i64 b :: (List.replicate 55 .undef ++ [i64 a, i64 b, i64 (w64 (a + b)), i64 (mnI 1000000000000001 (w64 (a + b))), .undef, .undef, .undef, .undef])
noncomputable def rpC : RngP := ⟨.tmp 10, 68, 69, 69, 70, 71, 72, 73, 18, 6, zja (sq Tryz.f15 14 16205), [16]⟩
theorem zFO : zHE tab rpC (sq Tryz.f15 8 252) (sq Tryz.f15 8 253) := by
 refine ⟨by (refine cast (α := True) ?_ trivial; kernel_rfl), by decide, 21, 22, 23, 24, 7, zja (sq Tryz.f15 8 252), zja (sq Tryz.f15 11 2024), zja (sq Tryz.f15 14 16204), by kernel_rfl, by kernel_rfl, by kernel_rfl, by kernel_rfl, by kernel_rfl, ?_⟩
 have ed : rpC.ops.toList.map (·.dst) = [some 74, some 75, some 76, some 77, some 16] := by kernel_rfl
 intro o ho d hd e
 have : o.dst ∈ rpC.ops.toList.map (·.dst) := List.mem_map_of_mem ho
 rw [ed, e] at this
 simp only [rpC, List.mem_cons, List.not_mem_nil, or_false, Option.some.injEq] at this hd
 omega
theorem zCt (a b : Int) (K : Frame → H → Prop) (h : H) : zr SP tab rpC.ops.toList rpC.ops.toList K ((clr [rpC.d2, rpC.d3, rpC.d4, rpC.d5] (fl (i64 a))).set rpC.d6 (i64 b)) h = K (fl2 a b) h := by kernel_rfl
theorem zwp (a b : Int) : mask [16] (fl2 a b) = fl (i64 (mnI 1000000000000001 (w64 (a + b)))) := by kernel_rfl
theorem zDa (a : Int) : mask [16] (clr [rpC.d2, rpC.d3] (fl (i64 a))) = fl (i64 a) := by kernel_rfl
section
variable {h : H} {o : Nat} {es : PL} {f : Int → Nat} {B : Int → Prop}
theorem zuW (mo : MpI h o es) (cn : Counts es f B) {fr : Frame} {K : Int → H → Prop} (hf : ev fr (.tmp 10) = .map (some o)) (h0 : mask [16] (clr [68, 69] fr) = fl (i64 0)) (h1 : ∀ n, mask [16] (fr.set 16 (i64 n)) = fl (i64 n)) (hl : fr.length = 82)
  (hk : K (sat ((es.map fun e => f e.1).sum) : Int) h) : zev SP tab [16, 16] (sq Tryz.f15 8 252) (sq Tryz.f15 8 253) K fr h := by
 refine ⟨rpC, o, mpE es, _, zFO, ?_, hf, mo, ⟨(mpE es).length + 1, ?_⟩, hk⟩
 ·intro d hd
  simp only [rpC, List.mem_cons, List.not_mem_nil, or_false] at hd
  omega
 have hel : (mpE es).length = es.length := List.length_map _
 let gv : Nat → Nat := fun i => f (es.getD i (0, 0)).1
 refine zet (fun seen fr => mask [16] fr = fl (i64 (sat ((seen.map gv).sum) : Int))) ?_ ?_ _ [] _ List.nodup_nil (by simp) (by simp) ?_
 ·intro seen fr2 hg hn hlt hall
  show mask [16] (clr _ (mask [16] fr2)) = mask [16] (fr.set 16 (i64 _))
  rw [hg, h1, zDa]
  have hp : seen.Perm (List.range es.length) := (List.perm_ext_iff_of_nodup hn List.nodup_range).2 fun i => by
   rw [List.mem_range, ← hel]
   exact ⟨hlt i, hall i⟩
  rw [zvN gv hp, znd (fun e : Int × Int => f e.1) (0, 0) es]
 ·intro seen fr2 i k v hg hi he
  have hil : i < es.length := by
   rw [← hel]
   rcases Nat.lt_or_ge i (mpE es).length with h | h
   ·exact h
   ·rw [List.getElem?_eq_none h] at he; cases he
  have hv : v = i64 (sat (gv i) : Int) := by
   unfold mpE at he
   rw [List.getElem?_map, List.getElem?_eq_getElem hil] at he
   simp only [Option.map_some, Option.some.injEq, Prod.mk.injEq] at he
   rw [← he.2, cn.sum _ (List.getElem_mem hil)]
   simp only [gv]
   rw [List.getD_eq_getElem?_getD, List.getElem?_eq_getElem hil]; rfl
  subst hv
  show zr SP tab rpC.ops.toList rpC.ops.toList _ ((clr _ (mask [16] fr2)).set rpC.d6 (i64 _)) h
  rw [hg, zCt]
  refine ⟨rfl, ?_⟩
  rw [zwp, ziR, List.map_cons, List.sum_cons, Nat.add_comm]
 ·show mask [16] (clr [68, 69] fr) = _
  rw [h0]; rfl
end
end Go.Proofs.YtlcgclmobfdbcaaGreat.Cl
set_option linter.unusedVariables false
set_option linter.unusedSimpArgs false
namespace Go.Proofs.YtlcgclmobfdbcaaGreat.Cl
open Go
def bpre (R : PL) (n z : Nat) (k : Int) : Nat := ((R.take z).map fun e => if e.2 = k then bw R n e.1 else 0).sum
theorem zgC {R : PL} {n z : Nat} {k : Int} (h : z < R.length) : bpre R n (z + 1) k = bpre R n z k + if R[z].2 = k then bw R n R[z].1 else 0 := by
 unfold bpre
 rw [List.take_succ_eq_append_getElem h, List.map_append, List.sum_append]
 simp
theorem zke {R : PL} {n : Nat} {k : Int} : bpre R n R.length k = bw R (n + 1) k := by unfold bpre; rw [List.take_length, bw]
theorem zyH (R : PL) (z : Nat) (k : Int) : bpre R 0 z k ≤ R.length := by
 unfold bpre
 refine Nat.le_trans (YZ _ _ 1 fun e _ => ?_) (by rw [Nat.mul_one]; exact List.length_take_le' _ _)
 show (if e.2 = k then 1 else 0) ≤ 1
 split <;> omega
theorem Counts.cong {es f g B C} (c : Counts es f B) (h : ∀ k, f k = g k) (hB : ∀ k, C k → B k) : Counts es g C := ⟨c.1, fun k => by rw [c.2.1, h], fun k hk => c.2.2 k (hB k hk)⟩
section
variable {h0 : H} {c : Int} {s : Sl} {ts : List Tile} {a b : Int}
theorem zvK {g : H} {o : Nat} {e : Int × Int} (x : Obj g o (pc e)) (i : Nat) (hi : i < 2) {K : Int → Prop} (hk : K ([e.1, e.2].getD i 0)) : ixA ⟨some o, 2, 0⟩ 2 1 (i : Int) fun p => Cl.ldI .i64 p g K := by
 match i, hi with
 | 0, _ => exact qJ x rfl (by omega) (by omega) (by rfl) hk
 | 1, _ => exact qJ x rfl (by omega) (by omega) (by rfl) hk
theorem yA (r : Rd h0 s 4 (tcs ts)) (sz : ts.length ≤ 1048576) (ba : yN a) (bb : yN b) :
  callV SP zkO [.agg (SetC c s), i64 a, i64 b] h0 fun v h' => v = .tuple [i64 (zz c ts a b), i64 (zy c ts a b)] ∧ Ext h0 h' := by
 apply zyq
 unfold zdI
 refine zi fun h1 o1 x1 n1 => ?_
 refine zS fun h2 v2 x2 n2 => ?_
 refine zS fun h3 v3 x3 n3 => ?_
 have o3 := o1.ext (x2.trans x3)
 have w2 := v2.ext x3
 have x13 := x1.trans (x2.trans x3)
 refine o3.ldA rfl ?_
 refine (wG (r.ext x13) (by omega) _ _ (zmv a b) fun _ h x => ?_).to ?_
 ·apply zwS
  unfold zaZ
  refine (w2.ext x).ldI ?_
  refine vZ ?_
  refine zc (fun h1 => ?_) (fun h1 => ⟨_, rfl, ⟨fun f => by simp at f, fun f => absurd f.1 h1⟩, Ext.refl _⟩)
  refine (v3.ext x).ldI ?_
  refine vZ ⟨_, rfl, ?_, Ext.refl _⟩
  rw [decide_eq_true_eq]
  exact ⟨fun f => ⟨h1, f⟩, fun f => f.2⟩
 rintro n h4 ⟨rfl, x4⟩
 have X := x13.trans x4
 refine zL (fun hq => ⟨?_, X⟩) (fun hq => ?_)
 ·rw [zz, zy, zK (zO hq), zK (zO hq)]
 obtain ⟨hs, hz⟩ := zN hq
 obtain ⟨H_, rfl⟩ : ∃ H_ : Nat, a = H_ := ⟨a.toNat, by have := hz.1.1; omega⟩
 obtain ⟨W, rfl⟩ : ∃ W : Nat, b = W := ⟨b.toNat, by have := hz.2.1; omega⟩
 have hW : 1 ≤ W ∧ W ≤ 3 := by have := hz.2; omega
 have hH : 1 ≤ H_ ∧ H_ ≤ 5 := by have := hz.1; omega
 have S := hs.sides
 have hN : ts.length ≤ 16 := hs.2.1
 have hc6 : c ≤ 6 := hs.1.2
 refine (o3.ext x4).ldA rfl ?_
 refine (v3.ext x4).ldI ?_
 refine (zvH (r.ext X) S hc6 hN hW).to ?_
 rintro u h5 ⟨ru, x5⟩
 generalize hR : RI c ts W = R at ru
 have hRl : R.length ≤ 4096 := by rw [← hR]; exact zCk S hN hW
 have hul := ru.plen
 have hcyl : cyl c ts H_ W = tot R (H_ - 1) := by
  unfold cyl
  rw [Int.toNat_natCast, Int.toNat_natCast, ← hR]
  exact (zvx (zmU S hW.1) _).symm
 have hin : ∀ e ∈ R, ∃ d ∈ R, d.2 = e.2 := fun e he => ⟨e, he, rfl⟩
 have w5 := w2.ext (x4.trans x5)
 have X5 := X.trans x5
 refine zyV fun h6 m6 x6 l6 => ?_
 refine ztv _ _ _ _ _ _ _ (fun i g => ∃ z : Nat, i = z ∧ z ≤ R.length ∧ Ext h5 g ∧ h6.length ≤ g.length ∧ ∃ es, MpI g h5.length es ∧ Counts es (bpre R 0 z) fun k => k ∈ (R.take z).map (·.2)) (fun i _ => (R.length - i).toNat) ?_ _ ⟨0, rfl, by omega, x6, Nat.le_refl _, [], m6, ⟨List.nodup_nil, fun k => rfl, fun k hk => by simp at hk⟩⟩
 rintro X0 _ g ⟨z, rfl, hz0, xg, lg, es, mg, cg⟩ hX
 unfold ztB
 refine zc (fun hi => ?_) (fun hi => ?_)
 ·have hz1 : z < R.length := by omega
  refine (ru.ext xg).ldP hz1 ?_
  refine zl fun g1 q1 y1 k1 => ?_
  refine q1.stA fun g2 q2 b2 k2 => ?_
  have y2 : Ext g g2 := y1.but_ b2 (zn (Nat.le_refl _))
  refine zvK q2 1 (by omega) ?_
  show WW .i64 _ (i64 R[z].2) _ _
  refine znq (mg.ext y2) _ ?_
  have hb0 := zyH R z R[z].2
  have hv : w64 (lkI R[z].2 es + 1) = (sat (bpre R 0 z R[z].2 + 1) : Int) := by
   rw [cg.2.1, zd (by have := VQ (bpre R 0 z R[z].2); omega) (by have := VQ (bpre R 0 z R[z].2); omega), YJ _ (by omega), YJ _ (by omega)]
   push_cast; rfl
  rw [hv]
  refine zyX (mg.ext y2) _ _ fun g3 m3 b3 k3 => ?_
  rw [zd (n := (z : Int) + 1) (by omega) (by omega)]
  have hy := y2.len
  refine hX _ _ ⟨z + 1, by push_cast; rfl, hz1, (xg.trans y2).but_ b3 (zn (Nat.le_refl _)), by omega, _, m3, (cg.put R[z].2 1).cong (fun k => ?_) fun k hk => ?_⟩ (by omega)
  ·rw [zgC hz1]; rfl
  ·rw [List.take_succ_eq_append_getElem hz1, List.map_append, List.mem_append] at hk
   exact hk.imp id fun h => by simpa using h
 ·unfold zBS
  rw [show z = R.length by omega] at cg
  refine (w5.ext xg).ldI ?_
  rw [zd (n := (H_ : Int) - 1) (by omega) (by omega)]
  refine ztu _ _ _ _ (fun m i g => ∃ z : Nat, i = z ∧ z ≤ H_ - 1 ∧ Ext h5 g ∧ ∃ o es, m = .map (some o) ∧ h5.length ≤ o ∧ MpI g o es ∧ Counts es (bw R (z + 1)) fun k => k ∈ R.map (·.2)) (fun _ i _ => (H_ - i).toNat) ?_ _ _ ⟨0, rfl, by omega, xg, _, es, rfl, Nat.le_refl _, mg, cg.cong (fun k => zke) fun k hk => by rw [List.take_length]; exact hk⟩
  clear hX cg mg xg lg hi
  rintro X2 _ _ g ⟨z, rfl, hz1, xg, o, es, rfl, ho, mg, cg⟩ hX
  unfold ztA
  refine zc (fun hi => ?_) (fun hi => ?_)
  ·refine zyV fun g1 m1 y1 k1 => ?_
   have hol := mg.lt
   refine ztt _ _ X2 _ _ _ _ _ _ _ (fun i g' => ∃ w : Nat, i = w ∧ w ≤ R.length ∧ Ext g g' ∧ g1.length ≤ g'.length ∧ ∃ es', MpI g' g.length es' ∧ Counts es' (bpre R (z + 1) w) fun k => k ∈ (R.take w).map (·.2)) (fun i _ => (R.length - i).toNat) ?_ _ ⟨0, rfl, by omega, y1, Nat.le_refl _, [], m1, ⟨List.nodup_nil, fun k => rfl, fun k hk => by simp at hk⟩⟩
   rintro X4 _ g' ⟨w, rfl, hw, xg', lg', es', mg', cg'⟩ hY
   unfold ztz zBP zBQ
   refine zc (fun hj => ?_) (fun hj => ?_)
   ·have hw1 : w < R.length := by omega
    refine (ru.ext (xg.trans xg')).ldP hw1 ?_
    refine zl fun q1 p1 y2 k2 => ?_
    refine p1.stA fun q2 p2 b2 k3 => ?_
    have y3 : Ext g' q2 := y2.but_ b2 (zn (Nat.le_refl _))
    refine zvK p2 1 (by omega) ?_
    refine zvK p2 1 (by omega) ?_
    show WW .i64 _ (i64 R[w].2) _ _
    refine znq (mg'.ext y3) _ ?_
    refine zvK p2 0 (by omega) ?_
    show WW .i64 _ (i64 R[w].1) _ _
    refine znq (mg.ext (xg'.trans y3)) _ ?_
    rw [cg'.2.1, cg.2.1, ziR]
    refine zyX (mg'.ext y3) _ _ fun q3 m3 b3 k4 => ?_
    rw [zd (n := (w : Int) + 1) (by omega) (by omega)]
    have hy := y3.len
    refine hY _ _ ⟨w + 1, by push_cast; rfl, hw1, (xg'.trans y3).but_ b3 (zn (Nat.le_refl _)), by omega, _, m3, (cg'.put R[w].2 (bw R (z + 1) R[w].1)).cong (fun k => ?_) fun k hk => ?_⟩ (by omega)
    ·rw [zgC hw1]
    ·rw [List.take_succ_eq_append_getElem hw1, List.map_append, List.mem_append] at hk
     exact hk.imp id fun h => by simpa using h
   ·rw [show w = R.length by omega] at cg'
    rw [zd (n := (z : Int) + 1) (by omega) (by omega)]
    refine hX _ _ _ ⟨z + 1, by push_cast; rfl, by omega, xg.trans xg', g.length, es', rfl, xg.len, mg', cg'.cong (fun k => zke) fun k hk => by rw [List.take_length]; exact hk⟩ (by omega)
  ·have hzH : z + 1 = H_ := by omega
   unfold zBR
   refine zuW mg cg (by rfl) (by kernel_rfl) (fun n => by kernel_rfl) (by rfl) ?_
   have hsum : (es.map fun e => bw R (z + 1) e.1).sum = cyl c ts H_ W := by
    have : (es.map fun e => bw R (z + 1) e.1) = (es.map (·.1)).map fun k => bw R (z + 1) k := by rw [List.map_map]; rfl
    rw [this, zHx cg.1 fun e he => cg.2.2 _ (List.mem_map.2 ⟨e, he, rfl⟩), hcyl, show z = H_ - 1 by omega]
   rw [hsum]
   apply zwP
   unfold zaT
   refine zc (fun hb => ?_) (fun hb => ?_)
   ·refine ⟨_, rfl, _, rfl, _, rfl, _, rfl, ?_, X5.trans xg⟩
    rw [zz, zy, zj ⟨hs, hz⟩, zj ⟨hs, hz⟩, if_neg, if_neg]
    ·have := sat_big.1 hb; omega
    ·have := sat_big.1 hb; omega
   ·refine ⟨_, rfl, _, rfl, _, rfl, _, rfl, ?_, X5.trans xg⟩
    have hle : cyl c ts H_ W ≤ 1000000000000000 := by
     rcases Nat.lt_or_ge 1000000000000000 (cyl c ts H_ W) with h | h
     ·exact absurd (sat_big.2 h) hb
     ·exact h
    rw [zz, zy, zj ⟨hs, hz⟩, zj ⟨hs, hz⟩, if_pos hle, if_pos hle, YJ _ hle]
end
end Go.Proofs.YtlcgclmobfdbcaaGreat.Cl
set_option linter.unusedVariables false
set_option linter.unusedSimpArgs false
namespace Go.Proofs.YtlcgclmobfdbcaaGreat.Cl
open Go
def DrV (h : H) (cs : List AVal) (h' : H) : Prop := ∃ u c ts, cs = SetC c u ∧ Rd h' u 4 (tcs ts) ∧ ts.length ≤ 17 ∧ Ext h h'
section
variable {h : H}
theorem YC {s : Sl} {q : List Int} (r : CodeB h s q) : callV SP i_f4 [.sl s] h (DrT2 h) := by
 apply zDz
 unfold zhz
 refine zl fun h1 o1 x1 n1 => ?_
 refine (zeO (r.ext x1)).to ?_
 rintro _ h2 ⟨u, c, ts, n, m, rfl, ru, hl, hn, hm, fu, x2⟩
 refine ⟨_, rfl, _, rfl, _, rfl, _, rfl, _, rfl, _, rfl, ?_⟩
 refine VZ fun h3 o3 x3 n3 => ?_
 refine wQ (o1.ext (x2.trans x3)) rfl (ru.ext x3) (fun e => by have := fu _ e; omega) fun h4 ru4 b4 n4 => ?_
 exact ⟨u, c, ts, n, m, rfl, ru4, hl, hn, hm, fu.le (by omega), (x1.trans (x2.trans x3)).but_ b4 (zn (Nat.le_refl _))⟩
theorem YB {s : Sl} {q : List Int} (r : CodeB h s q) : callA SP zwo [.sl s] h (DrV h) := by
 apply zyh
 unfold zdA
 refine zl fun h1 o1 x1 n1 => ?_
 refine (r.ext x1).from.to ?_
 rintro _ h2 ⟨rfl, r2, x2⟩
 have hq := r2.lt
 refine (Xn r2).to ?_
 rintro _ h3 ⟨u, c, ts, rfl, ru, hw, fu, r3, c3⟩
 have hc3 := c3.1
 refine (zyK (n := h2.length) r3 ru hw fu hc3 hq).to ?_
 rintro _ h4 ⟨v, d, us, rfl, rv, hus, fv, r4, c4⟩
 have hc4 := c4.1
 have Y : Chg (fun i => i = h1.length) h2 h4 := c3.trans c4
 refine wQ ((o1.ext x2).chg Y (by omega)) rfl rv (fun e => by have := fv _ e; omega) fun h5 rv5 b5 n5 => ?_
 have hx2 := x2.len
 exact ⟨_, rfl, v, d, us, rfl, rv5, hus, ((x1.trans x2).chg_ Y fun i e => by omega).but_ b5 (zn (Nat.le_refl _))⟩
theorem xA {s : Sl} {q : List Int} (r : CodeB h s q) : callV SP znU [.sl s] h (DrT2 h) := by
 apply zxq
 unfold zbV
 refine zl fun h1 o1 x1 n1 => ?_
 refine (r.ext x1).from.to ?_
 rintro _ h2 ⟨rfl, r2, x2⟩
 have hq := r2.lt
 refine (zeO ((r.ext x1).ext x2)).to ?_
 rintro _ h3 ⟨u, c, ts, n, m, rfl, ru, hl, hn, hm, fu, x3⟩
 have hx3 := x3.len
 have hx2 := x2.len
 refine ⟨_, rfl, _, rfl, _, rfl, _, rfl, _, rfl, _, rfl, ?_⟩
 refine vD fun h4 o4 x4 n4 => ?_
 refine (ya ((r2.ext x3).ext x4) 3).to ?_
 rintro t h5 ⟨_, r5, b5, n5⟩
 have X4 := x1.trans (x2.trans (x3.trans x4))
 have p4 := o1.ext (x2.trans (x3.trans x4))
 have ru4 := ru.ext x4
 refine zu (fun _ => ?_) (fun _ => ?_)
 ·refine zm (by rfl) fun w h6 ow lw wo e6 => ?_
  have x6 : Ext h5 h6 := by rw [e6]; exact Ext.app _ _
  have n6 : h6.length = h5.length + 1 := by rw [e6]; simp
  refine (Y7 (r5.ext x6) (l := [4, 5, 6]) ow.rd (by rw [wo]; exact zp (by omega)) (by simp)).to ?_
  rintro k h7 ⟨hk, r7, b7, n7⟩
  have C : Chg (fun i => i = h1.length) h4 h7 := ((b5.chg fun i e => (Option.some.inj e).symm).trans (x6.chg _)).trans (b7.chg fun i e => (Option.some.inj e).symm)
  refine (o4.chg C (by omega)).ldA rfl ?_
  refine wQ (p4.chg C (by omega)) rfl (ru4.chg C fun i e => by have := fu i e; omega) (fun e => by have := fu _ e; omega) fun h8 ru8 b8 n8 => ?_
  have hkb : yN k := by
   unfold yN
   simp at hk; omega
  exact ⟨u, c, ts, k, m, rfl, ru8, hl, hkb, hm, fu.le (by omega), (X4.chg_ C fun i e => by omega).but_ b8 (zn (Nat.le_refl _))⟩
 ·have C : Chg (fun i => i = h1.length) h4 h5 := b5.chg fun i e => (Option.some.inj e).symm
  refine (o4.chg C (by omega)).ldA rfl ?_
  refine wQ (p4.chg C (by omega)) rfl (ru4.chg C fun i e => by have := fu i e; omega) (fun e => by have := fu _ e; omega) fun h8 ru8 b8 n8 => ?_
  exact ⟨u, c, ts, n, m, rfl, ru8, hl, hn, hm, fu.le (by omega), (X4.chg_ C fun i e => by omega).but_ b8 (zn (Nat.le_refl _))⟩
theorem Zz {s : Sl} {q : List Int} (r : CodeB h s q) : callV SP znS [.sl s] h (DrGT h) := by
 apply zxo
 unfold zbR
 refine zl fun h1 o1 x1 n1 => ?_
 refine (r.ext x1).from.to ?_
 rintro _ h2 ⟨rfl, r2, x2⟩
 have hq := r2.lt
 refine (zeM r2).to ?_
 rintro _ h3 ⟨u, c, ts, w, rows, rfl, ru, hl, fu, rw_, hr, hrl, r3, c3⟩
 refine ⟨_, rfl, _, rfl, _, rfl, _, rfl, ?_⟩
 refine VZ fun h4 o4 x4 n4 => ?_
 have hx2 := x2.len
 refine wQ (((o1.ext x2).chg c3 (by omega)).ext x4) rfl (ru.ext x4) (fun e => by have := fu _ e; omega) fun h5 ru5 b5 n5 => ?_
 have c35 : Chg (fun i => i = h.length) h4 h5 := b5.chg fun i e => (Option.some.inj e).symm
 exact ⟨u, c, ts, w, rows, rfl, ru5, hl, ((rw_.chg (x4.chg fun _ => False) fun _ _ f => f).chg c35 fun i hi e => by omega).rd, hr, hrl, (((x1.trans x2).chg_ c3 fun i e => by omega).trans x4).but_ b5 (zn (Nat.le_refl _))⟩
theorem vn {s : Sl} {q : List Int} (r : CodeB h s q) : callV SP znQ [.sl s] h (DrGT h) := by
 apply zxm
 unfold zbN
 refine zl fun h1 o1 x1 n1 => ?_
 refine (r.ext x1).from.to ?_
 rintro _ h2 ⟨rfl, r2, x2⟩
 have hq := r2.lt
 refine (zeM r2).to ?_
 rintro _ h3 ⟨u, c, ts, w, rows, rfl, ru, hl, fu, rw_, hr, hrl, r3, c3⟩
 refine ⟨_, rfl, _, rfl, _, rfl, _, rfl, ?_⟩
 refine VZ fun h4 o4 x4 n4 => ?_
 have hx2 := x2.len
 refine wQ (((o1.ext x2).chg c3 (by omega)).ext x4) rfl (ru.ext x4) (fun e => by have := fu _ e; omega) fun h5 ru5 b5 n5 => ?_
 have c35 : Chg (fun i => i = h.length) h4 h5 := b5.chg fun i e => (Option.some.inj e).symm
 exact ⟨u, c, ts, w, rows, rfl, ru5, hl, ((rw_.chg (x4.chg fun _ => False) fun _ _ f => f).chg c35 fun i hi e => by omega).rd, hr, hrl, (((x1.trans x2).chg_ c3 fun i e => by omega).trans x4).but_ b5 (zn (Nat.le_refl _))⟩
end
section
variable {h0 : H} {c : Int} {s q : Sl} {ts : List Tile} {rows : List (List Int)}
noncomputable def xG (c : Int) (ts : List Tile) (rows : List (List Int)) : Bool := bP ((setOK c ts ∧ Nums ts.length rows) ∧ yl ts rows)
theorem Yy (r : Rd h0 s 4 (tcs ts)) (rr : RdSS h0 q rows) (sz : ts.length ≤ 1048576) (szr : rows.length ≤ 1048576) (sd : ∀ l ∈ rows, l.length ≤ 1048576) :
  callV SP zCY [.agg (SetC c s), .sl q] h0 fun v h' => v = .tuple [.bool (xG c ts rows), i64 (zG (setOK c ts) (Nums ts.length rows))] ∧ Ext h0 h' := by
 apply zyt
 unfold zdL
 refine zi fun h1 o1 x1 n1 => ?_
 refine zS fun h2 v2 x2 n2 => ?_
 have o2 := o1.ext x2
 have x12 := x1.trans x2
 refine o2.ldA rfl ?_
 refine (wG (r.ext x12) (by omega) _ _ (Nums ts.length rows) fun _ h x => ?_).to ?_
 ·apply zwU
  unfold zbd
  refine (o2.ext x).ldA rfl ?_
  refine (v2.ext x).ldS ?_
  refine (vY (r.ext (x12.trans x)) (rr.ext (x12.trans x)) sz szr sd).to ?_
  exact fun b h' e => ⟨_, rfl, e⟩
 rintro n h3 ⟨rfl, x3⟩
 have X := x12.trans x3
 refine zL (fun hq => ⟨?_, X⟩) (fun hq => ?_)
 ·have := zO hq
  unfold xG
  rw [zve fun f => this f.1]
 have hc := zN hq
 refine (o2.ext x3).ldA rfl ?_
 refine (v2.ext x3).ldS ?_
 refine (Xs (r.ext X) (rr.ext X) hc.2).to ?_
 rintro b h4 ⟨hb, x4⟩
 refine ⟨?_, X.trans x4⟩
 rw [hq]
 unfold xG
 rw [zvd (A := (setOK c ts ∧ Nums ts.length rows) ∧ yl ts rows) (hb.trans ⟨fun f => ⟨hc, f⟩, fun f => f.2⟩)]
end
end Go.Proofs.YtlcgclmobfdbcaaGreat.Cl
