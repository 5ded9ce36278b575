/- The clean machine: results of calls out of the weakest precondition; loops. No claim is stated here. -/
import Derived.Test.YtdmhchgaeepdmaaClL
set_option linter.unusedVariables false
set_option linter.unusedSimpArgs false
namespace Go.Proofs.Ytdmhchgaeepdmaa.Cl
open Go
section
variable {P : Program} {T : Tab} {S : SatT} {M : Nat → List Nat}
abbrev LinF (F : (Frame → H → Prop) → Prop) : Prop := Lin fun (K : Frame × H → Prop) => F fun fr h => K (fr, h)
abbrev LinE (F : Kont → Prop) : Prop := Lin fun (K : Ex × Frame × H → Prop) => F fun e fr h => K (e, fr, h)
theorem op_bind {β : Type} (o : Oper) (fr : Frame) (h : H) {G : AVal → H → (β → Prop) → Prop} (hG : ∀ v h, Lin (G v h)) : Lin fun K => opK S T o fr h fun v h => G v h K :=
  Lin.bind (F := fun (K : AVal × H → Prop) => opK S T o fr h fun v h => K (v, h)) (G := fun x K => G x.1 x.2 K) (opK_lin o fr) fun x => hG x.1 x.2
theorem runOps_lin (ops : List Oper) : ∀ (l : List Oper) (fr : Frame) (h : H), LinF fun k => runOps S T ops l k fr h
  | [], fr, h => Lin.ret (fr, h)
  | o :: os, fr, h => by
    have ih := runOps_lin ops os
    unfold runOps
    cases hg : o.guard with
    | none => exact op_bind o fr h fun v h => ih _ h
    | some g =>
      obtain ⟨j, want⟩ := g
      simp only
      cases hd : dstOf ops j with
      | none => exact Lin.no
      | some d =>
        simp only
        cases hv : fr.getD d .undef with
        | bool b =>
          simp only
          cases b <;> cases want <;> simp only [cond_true, cond_false]
          · exact op_bind o _ h fun v h => ih _ h
          · exact ih _ h
          · exact ih _ h
          · exact op_bind o _ h fun v h => ih _ h
        | gone => exact ih _ h
        | _ => exact Lin.no
theorem chkK_lin {β : Type} (o : Oper) (fr : Frame) (h h' : H) {F : (β → Prop) → Prop} (hF : Lin F) : Lin fun K => chkK T o fr h h' (F K) := by
  unfold chkK
  split
  · split
    · exact Lin.bif_ _ (hF.and _) (hF.and _)
    · exact hF
  · split
    · exact hF.and _
    · exact hF
  · exact hF
theorem chkPast_lin {β : Type} (b : List Nat) (i : Nat) (o : Oper) (fr : Frame) (h : H) {F : (β → Prop) → Prop} (hF : Lin F) : ∀ l, Lin fun K => chkPast T b i o fr h l (F K)
  | [] => hF
  | (k, h0) :: l => by
    unfold chkPast
    generalize unord b i k = c
    cases c
    · exact chkPast_lin b i o fr h hF l
    · exact chkK_lin o fr h h0 (chkPast_lin b i o fr h hF l)
theorem chkPend_lin {β : Type} (b : List Nat) (k : Nat) (h' : H) {F : (β → Prop) → Prop} (hF : Lin F) : ∀ l, Lin fun K => chkPend T b k h' l (F K)
  | [] => hF
  | (i, o, fr, h) :: l => by
    unfold chkPend
    generalize unord b i k = c
    cases c
    · exact chkPend_lin b k h' hF l
    · exact chkK_lin o fr h h' (chkPend_lin b k h' hF l)
theorem stepDraw_lin {β : Type} (b : List Nat) (i : Nat) (o : Oper) (past : List (Nat × H)) (pend : List (Nat × Oper × Frame × H)) (fr : Frame) (h : H)
    {G : List (Nat × H) → List (Nat × Oper × Frame × H) → AVal → H → (β → Prop) → Prop} (hG : ∀ p q v h, Lin (G p q v h)) :
    Lin fun K => stepDraw S T b i o past pend fr h fun p q v h => G p q v h K := by
  unfold stepDraw
  generalize isMut o.op = c
  generalize isRead o.op = d
  cases c
  · cases d
    · exact op_bind o fr h (G := fun v h K => G past pend v h K) fun v h => hG _ _ _ _
    · exact op_bind o fr h (G := fun v h' K => chkPast T b i o fr h past (G past ((i, o, fr, h) :: pend) v h' K)) fun v h' => chkPast_lin b i o fr h (hG _ _ _ _) past
  · exact op_bind o fr h (G := fun v h' K => chkPend T b i h' pend (G ((i, h) :: past) pend v h' K)) fun v h' => chkPend_lin b i h' (hG _ _ _ _) pend
theorem runDraw_lin (ops : List Oper) (b : List Nat) : ∀ (l : List (Oper × Nat)) past pend (fr : Frame) (h : H), LinF fun k => runDraw S T ops b l past pend k fr h
  | [], _, _, fr, h => Lin.ret (fr, h)
  | (o, i) :: os, past, pend, fr, h => by
    have ih := runDraw_lin ops b os
    unfold runDraw
    cases hg : o.guard with
    | none => exact stepDraw_lin b i o past pend fr h fun p q v h => ih p q _ h
    | some g =>
      obtain ⟨j, want⟩ := g
      simp only
      cases hd : dstOf ops j with
      | none => exact Lin.no
      | some d =>
        simp only
        cases hv : fr.getD d .undef with
        | bool c =>
          simp only
          cases c <;> cases want <;> simp only [cond_true, cond_false]
          · exact stepDraw_lin b i o past pend _ h fun p q v h => ih p q _ h
          · exact ih _ _ _ h
          · exact ih _ _ _ h
          · exact stepDraw_lin b i o past pend _ h fun p q v h => ih p q _ h
        | gone => exact ih _ _ _ h
        | _ => exact Lin.no
theorem opA_bind {β : Type} (o : Oper) (fr : Frame) (h : H) (n : Nat) {G : AVal → H → (β → Prop) → Prop} (hG : ∀ v h, Lin (G v h)) : Lin fun K => opA S T o fr h n fun v h => G v h K := by
  unfold opA
  refine op_bind o fr [] (G := fun v h1 K => match h1 with | [x] => G (v.at_ n) (h.set n x) K | _ => False) fun v h1 => ?_
  match h1 with
  | [x] => exact hG _ _
  | [] => exact Lin.no
  | _ :: _ :: _ => exact Lin.no
theorem chkPendE_lin {β : Type} (b : List Nat) (k : Nat) (past : List (Nat × H)) (h' : H) {F : (β → Prop) → Prop} (hF : Lin F) : ∀ l, Lin fun K => chkPendE T b k past h' l (F K)
  | [] => hF
  | (i, o, fr, h) :: l => by
    unfold chkPendE
    generalize (unord b i k && lastDep b past i) = c
    cases c
    · exact chkPendE_lin b k past h' hF l
    · exact chkK_lin o fr h h' (chkPendE_lin b k past h' hF l)
theorem chkPastE_lin {β : Type} (b : List Nat) (i : Nat) (o : Oper) (fr : Frame) (h : H) {F : (β → Prop) → Prop} (hF : Lin F) : ∀ l nx, Lin fun K => chkPastE T b i o fr h nx l (F K)
  | [], nx => hF
  | (k, h0) :: l, nx => by
    unfold chkPastE
    generalize unord b i k = c
    cases c
    · exact chkPastE_lin b i o fr h hF l _
    · cases nx with
      | none => exact chkK_lin o fr h h0 (chkPastE_lin b i o fr h hF l _)
      | some h1 => exact chkK_lin o fr h h1 (chkK_lin o fr h h0 (chkPastE_lin b i o fr h hF l _))
theorem stepSlot_lin {β : Type} (b : List Nat) (n i : Nat) (o : Oper) (past : List (Nat × H)) (pend : List (Nat × Oper × Frame × H)) (fr : Frame) (h : H)
    {G : List (Nat × H) → List (Nat × Oper × Frame × H) → AVal → H → (β → Prop) → Prop} (hG : ∀ p q v h, Lin (G p q v h)) :
    Lin fun K => stepSlot S T b n i o past pend fr h fun p q v h => G p q v h K := by
  unfold stepSlot
  generalize isAlloc o.op = a
  generalize isMut o.op = c
  generalize isRead o.op = d
  cases a
  · cases c
    · cases d
      · exact op_bind o fr h (G := fun v h K => G past pend v h K) fun v h => hG _ _ _ _
      · exact op_bind o fr h (G := fun v h' K => chkPastE T b i o fr h none past (G past ((i, o, fr, h) :: pend) v h' K)) fun v h' => chkPastE_lin b i o fr h (hG _ _ _ _) past none
    · exact op_bind o fr h (G := fun v h' K => chkPendE T b i past h pend (chkPend T b i h' pend (G ((i, h) :: past) pend v h' K))) fun v h' => chkPendE_lin b i past h (chkPend_lin b i h' (hG _ _ _ _) pend) pend
  · exact opA_bind o fr h (n + i) (G := fun v h' K => chkPendE T b i past h pend (chkPend T b i h' pend (G ((i, h) :: past) pend v h' K))) fun v h' => chkPendE_lin b i past h (chkPend_lin b i h' (hG _ _ _ _) pend) pend
theorem runSlot_lin (ops : List Oper) (b : List Nat) (n : Nat) : ∀ (l : List (Oper × Nat)) past pend (fr : Frame) (h : H), LinF fun k => runSlot S T ops b n l past pend k fr h
  | [], _, _, fr, h => Lin.ret (fr, h)
  | (o, i) :: os, past, pend, fr, h => by
    have ih := runSlot_lin ops b n os
    unfold runSlot
    cases hg : o.guard with
    | none => exact stepSlot_lin b n i o past pend fr h fun p q v h => ih p q _ h
    | some g =>
      obtain ⟨j, want⟩ := g
      simp only
      cases hd : dstOf ops j with
      | none => exact Lin.no
      | some d =>
        simp only
        cases hv : fr.getD d .undef with
        | bool c =>
          simp only
          cases c <;> cases want <;> simp only [cond_true, cond_false]
          · exact stepSlot_lin b n i o past pend _ h fun p q v h => ih p q _ h
          · exact ih _ _ _ h
          · exact ih _ _ _ h
          · exact stepSlot_lin b n i o past pend _ h fun p q v h => ih p q _ h
        | gone => exact ih _ _ _ h
        | _ => exact Lin.no
theorem drawK_lin (ops : List Oper) (fr : Frame) (h : H) : LinF fun k => drawK S T ops k fr h := by
  unfold drawK
  generalize okD ops (befs ops []) = c
  cases c
  · unfold slotK
    generalize okE ops (befs ops []) (late ops) = d
    cases d
    · exact Lin.no
    · exact runSlot_lin _ _ _ _ _ _ _ _
  · exact runDraw_lin _ _ _ _ _ _ _
theorem toE {F : (Frame → H → Prop) → Prop} (hF : LinF F) : LinE fun k => F (k .normal) := Lin.map hF fun p => (Ex.normal, p.1, p.2)
theorem bindE {F : Kont → Prop} (hF : LinE F) {G : Kont → Kont} (hG : ∀ e fr h, LinE fun k => G k e fr h) : LinE fun k => F (G k) :=
  Lin.bind (F := fun (K : Ex × Frame × H → Prop) => F fun e fr h => K (e, fr, h)) (G := fun x K => G (fun e fr h => K (e, fr, h)) x.1 x.2.1 x.2.2) hF fun x => hG x.1 x.2.1 x.2.2
theorem retE (e : Ex) (fr : Frame) (h : H) : LinE fun k => k e fr h := Lin.ret (e, fr, h)
theorem cwp_lin : ∀ (c : Code) (m : List Nat) (fr : Frame) (h : H), LinE fun k => cwp S T M m c k fr h
  | .skip, m, fr, h => retE _ _ _
  | .region _ ops d, m, fr, h => by
    cases d
    · exact toE (runOps_lin _ _ _ _)
    · exact toE (drawK_lin _ _ _)
  | .seq a b, m, fr, h => bindE (cwp_lin a m fr h) (G := fun k => kSeq (cwp S T M m b k) k) fun e fr h => by
    cases e
    · exact cwp_lin b m fr h
    · exact retE _ _ _
    · exact retE _ _ _
  | .cond c a b, m, fr, h => by
    unfold cwp
    cases ev fr c with
    | bool t => cases t; exact cwp_lin b m fr h; exact cwp_lin a m fr h
    | _ => exact Lin.no
  | .block id a, m, fr, h => bindE (cwp_lin a (M id) fr h) (G := fun k => kBlk id k) fun e fr h => by
    cases e with
    | normal => exact retE _ _ _
    | ret => exact retE _ _ _
    | exit j =>
      unfold kBlk
      simp only
      generalize (j == id) = c
      cases c <;> exact retE _ _ _
  | .loop a, m, fr, h => by
    refine Lin.exists_ fun n => ?_
    have key : ∀ n fr h, LinE fun k => iter (fun X fr h => cwp S T M m a (kSeq (fun fr h => X (mask m fr) h) k) fr h) n fr h := by
      intro n
      induction n with
      | zero => intro fr h; exact Lin.no
      | succ n ih =>
        intro fr h
        refine bindE (cwp_lin a m fr h) (G := fun k => kSeq (fun fr h => iter (fun X fr h => cwp S T M m a (kSeq (fun fr h => X (mask m fr) h) k) fr h) n (mask m fr) h) k) fun e fr h => ?_
        cases e
        · exact ih _ h
        · exact retE _ _ _
        · exact retE _ _ _
    exact key n _ h
  | .exit id, m, fr, h => retE _ _ _
  | .ret, m, fr, h => retE _ _ _
  | .rangeFunc _ _ _ _, m, fr, h => Lin.no
  | .scope _, m, fr, h => Lin.no
  | .label _, m, fr, h => Lin.no
  | .goto _, m, fr, h => Lin.no
  | .refuse _, m, fr, h => Lin.no
theorem resK_lin (fr : Frame) (h : H) : ∀ rs : List ResultVar, Lin fun K => resK T rs fr h K
  | [] => Lin.ret []
  | .tmp t :: l => Lin.map (resK_lin fr h l) fun vs => fr.getD t .undef :: vs
  | .cell a t :: l => by
    unfold resK
    cases fr.getD a .undef with
    | ptr p => exact Lin.bind (ldT_lin t p) fun v => Lin.map (resK_lin fr h l) fun vs => v :: vs
    | _ => exact Lin.no
theorem kFun_lin (rs : List ResultVar) (e : Ex) (fr : Frame) (h : H) : Lin fun (K : AVal × H → Prop) => kFun T rs (fun v h => K (v, h)) e fr h := by
  cases e
  · exact Lin.map (resK_lin fr h rs) fun vs => (one vs, h)
  · exact Lin.no
  · exact Lin.map (resK_lin fr h rs) fun vs => (one vs, h)
theorem fun_lin (c : Code) (m : List Nat) (rs : List ResultVar) (fr : Frame) (h : H) : Lin fun (K : AVal × H → Prop) => cwp S T M m c (kFun T rs fun v h => K (v, h)) fr h :=
  Lin.bind (F := fun (K : Ex × Frame × H → Prop) => cwp S T M m c (fun e fr h => K (e, fr, h)) fr h) (G := fun x K => kFun T rs (fun v h => K (v, h)) x.1 x.2.1 x.2.2) (cwp_lin c m fr h) fun x => kFun_lin rs x.1 x.2.1 x.2.2
/-- What the body of a function brings about, its calls bring about. -/
theorem Sat.ex (hT : TOK P T) (hmix : P.follows .mixedOrders = true) (M : Nat → List Nat) {f : Nat} {fn : Func} {c : Code} (hfn : P.funcs[f]? = some fn) (hb : fn.body = some c) (hcall : ∀ (a : Array Value) (w : World), (callFunc f a).run P w = .ok (.enter f a) w)
    {args : List AVal} {h : H} {K : AVal → H → Prop} (hH : cwp (Sat P) T M [] c (kFun T fn.results.toList K) (fr0 fn args) h) : ∃ v h2, Sat P f args h v h2 ∧ K v h2 := by
  have hl := fun_lin (S := Sat P) (T := T) (M := M) c [] fn.results.toList (fr0 fn args) h
  obtain ⟨⟨v, h2⟩, hk, hx⟩ := Lin.wit hl (K := fun p => K p.1 p.2) hH
  refine ⟨v, h2, Sat.body hT hmix M hfn hb hcall (Lin.mono hl (K := fun y => y = (v, h2)) (K' := fun p => ∀ μ' w', Rel μ' p.2 w' → ∀ x, VR μ' p.2 p.1 x → ∀ μ w, Tr μ h w μ' p.2 w' → ∃ μ2, Tr μ h w μ2 h2 w' ∧ VR μ2 h2 v x) ?_ hx), hk⟩
  rintro _ rfl μ' w' r x hx μ w t
  exact ⟨μ', t, hx⟩
theorem calls_of {f : Nat} {fn : Func} {c : Code} (hfn : P.funcs[f]? = some fn) (hb : fn.body = some c) (hn : (fn.name == "runtime.NumGoroutine") = false) (a : Array Value) (w : World) : (callFunc f a).run P w = .ok (.enter f a) w := by
  unfold callFunc
  rw [Sem.run_bind, show Sem.run P program w = .ok P w from rfl]
  simp only [Result.andThen_ok]
  rw [hfn]
  simp only [hn, hb, Option.isNone_some]
  rfl
theorem loop_rule {σ : Type} {F : (Frame → H → Prop) → Frame → H → Prop} (enc : σ → Frame) (I : σ → H → Prop) (m : σ → H → Nat)
    (hs : ∀ X s h, I s h → (∀ s' h', I s' h' → m s' h' < m s h → X (enc s') h') → F X (enc s) h) (s : σ) {h : H} (h0 : I s h) : loopK F (enc s) h := by
  refine ⟨m s h + 1, ?_⟩
  have key : ∀ n s h, m s h < n → I s h → iter F n (enc s) h := by
    intro n
    induction n with
    | zero => intro s h hm; omega
    | succ n ih =>
      intro s h hm hi
      exact hs _ s h hi fun s' h' hi' hm' => ih s' h' (by omega) hi'
  exact key _ s h (by omega) h0
theorem loop_unroll {m m2 : List Nat} {c : Code} {k : Kont} {fr : Frame} {h : H}
    (hb : cwp S T M m c (kSeq (fun fr h => loopK (fun X fr h => cwp S T M m c (kSeq (fun fr h => X (mask m2 fr) h) k) fr h) (mask m2 fr) h) k) fr h) :
    loopK (fun X fr h => cwp S T M m c (kSeq (fun fr h => X (mask m2 fr) h) k) fr h) fr h := by
  obtain ⟨R, hR⟩ := cwp_lin (S := S) (T := T) (M := M) c m fr h
  obtain ⟨⟨e, fr', h'⟩, h1, h2⟩ := (hR fun x => kSeq _ k x.1 x.2.1 x.2.2).1 hb
  cases e with
  | normal =>
    obtain ⟨n, h2⟩ := h2
    exact ⟨n + 1, (hR fun x => kSeq _ k x.1 x.2.1 x.2.2).2 ⟨(.normal, fr', h'), h1, h2⟩⟩
  | exit i => exact ⟨1, (hR fun x => kSeq _ k x.1 x.2.1 x.2.2).2 ⟨(.exit i, fr', h'), h1, h2⟩⟩
  | ret => exact ⟨1, (hR fun x => kSeq _ k x.1 x.2.1 x.2.2).2 ⟨(.ret, fr', h'), h1, h2⟩⟩
end
end Go.Proofs.Ytdmhchgaeepdmaa.Cl
