/- The clean machine: each operation leads to what it tells, and reads what it names. No claim is stated here. -/
import Derived.Test.YtdmhchgaeepdmaaClH
set_option linter.unusedVariables false
set_option linter.unusedSimpArgs false
namespace Go.Proofs.Ytdmhchgaeepdmaa.Cl
open Go

/-- F hands on one of the x of R. -/
def Lin {α : Type} (F : (α → Prop) → Prop) : Prop := ∃ R : α → Prop, ∀ K, F K ↔ ∃ x, R x ∧ K x
namespace Lin
variable {α β : Type}
theorem ret (x : α) : Lin fun K => K x := ⟨fun y => y = x, fun K => by simp⟩
theorem no : Lin fun (_ : α → Prop) => False := ⟨fun _ => False, fun K => by simp⟩
theorem ex (A : α → Prop) : Lin fun K => ∃ x, A x ∧ K x := ⟨A, fun K => Iff.rfl⟩
theorem and {F : (α → Prop) → Prop} (A : Prop) (h : Lin F) : Lin fun K => A ∧ F K := by
  obtain ⟨R, hR⟩ := h
  refine ⟨fun x => A ∧ R x, fun K => ?_⟩
  show (A ∧ F K) ↔ _
  rw [hR]
  constructor
  · rintro ⟨a, x, b, c⟩; exact ⟨x, ⟨a, b⟩, c⟩
  · rintro ⟨x, ⟨a, b⟩, c⟩; exact ⟨a, x, b, c⟩
theorem exists_ {γ : Type} {F : γ → (α → Prop) → Prop} (h : ∀ g, Lin (F g)) : Lin fun K => ∃ g, F g K := by
  obtain ⟨R, hR⟩ : ∃ R : γ → α → Prop, ∀ g K, F g K ↔ ∃ x, R g x ∧ K x := ⟨fun g => Classical.choose (h g), fun g => Classical.choose_spec (h g)⟩
  refine ⟨fun x => ∃ g, R g x, fun K => ?_⟩
  constructor
  · rintro ⟨g, hg⟩
    obtain ⟨x, a, b⟩ := (hR g K).1 hg
    exact ⟨x, ⟨g, a⟩, b⟩
  · rintro ⟨x, ⟨g, a⟩, b⟩
    exact ⟨g, (hR g K).2 ⟨x, a, b⟩⟩
theorem bind {F : (α → Prop) → Prop} {G : α → (β → Prop) → Prop} (hF : Lin F) (hG : ∀ x, Lin (G x)) : Lin fun K => F fun x => G x K := by
  obtain ⟨R, hR⟩ := hF
  obtain ⟨R', hR'⟩ : ∃ R' : α → β → Prop, ∀ x K, G x K ↔ ∃ y, R' x y ∧ K y := ⟨fun g => Classical.choose (hG g), fun g => Classical.choose_spec (hG g)⟩
  refine ⟨fun y => ∃ x, R x ∧ R' x y, fun K => ?_⟩
  show (F fun x => G x K) ↔ _
  rw [hR]
  constructor
  · rintro ⟨x, a, b⟩
    obtain ⟨y, c, d⟩ := (hR' x K).1 b
    exact ⟨y, ⟨x, a, c⟩, d⟩
  · rintro ⟨y, ⟨x, a, c⟩, d⟩
    exact ⟨x, a, (hR' x K).2 ⟨y, c, d⟩⟩
theorem map {F : (α → Prop) → Prop} (hF : Lin F) (g : α → β) : Lin fun K => F fun x => K (g x) := bind hF fun x => ret (g x)
theorem bif_ {F G : (α → Prop) → Prop} (b : Bool) (hF : Lin F) (hG : Lin G) : Lin fun K => bif b then F K else G K := by cases b; exact hG; exact hF
end Lin
theorem Lin.wit {α : Type} {F : (α → Prop) → Prop} (hF : Lin F) {K : α → Prop} (h : F K) : ∃ x, K x ∧ F fun y => y = x := by
  obtain ⟨R, hR⟩ := hF
  obtain ⟨x, h1, h2⟩ := (hR K).1 h
  exact ⟨x, h2, (hR _).2 ⟨x, h1, rfl⟩⟩
theorem Lin.mono {α : Type} {F : (α → Prop) → Prop} (hF : Lin F) {K K' : α → Prop} (hk : ∀ x, K x → K' x) (h : F K) : F K' := by
  obtain ⟨R, hR⟩ := hF
  obtain ⟨x, h1, h2⟩ := (hR K).1 h
  exact (hR _).2 ⟨x, h1, hk x h2⟩
/-- The same, of what hands on a value and a heap. -/
def Lin2 {α : Type} (F : (α → H → Prop) → Prop) : Prop := Lin fun (K : α × H → Prop) => F fun a h => K (a, h)
theorem Lin.two {α : Type} {F : (α → H → Prop) → Prop} (h : Lin2 F) : ∃ R : α → H → Prop, ∀ K, F K ↔ ∃ x h, R x h ∧ K x h := by
  obtain ⟨R, hR⟩ := h
  refine ⟨fun a h => R (a, h), fun K => ?_⟩
  have := hR fun p => K p.1 p.2
  simp only at this
  rw [this]
  constructor
  · rintro ⟨⟨a, h⟩, b, c⟩; exact ⟨a, h, b, c⟩
  · rintro ⟨a, h, b, c⟩; exact ⟨(a, h), b, c⟩
section
variable {T : Tab} {S : SatT} {h : H}
theorem ldT_lin (t p) : Lin (ldT T t p h) := by
  unfold ldT
  split
  · exact (Lin.ex fun n => cell h p = some (.int _ n)).map _
  · exact (Lin.ex fun n => cell h p = some (.bool n)).map _
  · exact (Lin.ex fun n => cell h p = some (.sl n)).map _
  · exact (Lin.ex fun n => cell h p = some (.ptr n)).map _
  · exact (Lin.ex fun n => range h p.o p.n p.off _ = some n).map _
  · exact (Lin.ex fun n => range h p.o p.n p.off _ = some n).map _
  · exact Lin.ex fun n => cell h p = some n
  · exact Lin.ex fun n => cell h p = some n
  · exact Lin.ex fun n => cell h p = some n
  · exact Lin.no
theorem fillK_lin (pl n) : ∀ ps Z, Lin (fillK T pl n ps Z)
  | [], Z => Lin.ret Z
  | (i, v) :: ps, Z => by
    show Lin fun K => fillK T pl n ((i, v) :: ps) Z K
    unfold fillK
    split
    · exact Lin.no
    · refine Lin.bif_ _ (Lin.bif_ _ ?_ (Lin.bif_ _ (fillK_lin pl n ps _) Lin.no)) Lin.no
      split
      · exact (fillK_lin pl n ps _).and _
      · exact Lin.no
theorem binI_lin (op k a b) : Lin (binI op k a b) := by
  cases op <;> first | exact Lin.ret _ | exact (Lin.ret _).and _
theorem binK_lin (op t x y yc) : Lin (binK T op t x y yc) := by
  unfold binK
  split
  · exact Lin.bif_ _ (binI_lin _ _ _ _) Lin.no
  · split <;> first | exact Lin.ret _ | exact Lin.no
  · split <;> first | exact Lin.ret _ | exact Lin.no
  · refine Lin.bif_ _ ?_ Lin.no
    split <;> first | exact Lin.ret _ | exact Lin.no
  · refine Lin.bif_ _ ?_ Lin.no
    split <;> first | exact Lin.ret _ | exact Lin.no
  · have key : ∀ k n a b (g : Bool → AVal), Lin fun (K : AVal → Prop) => eqA k n a b fun r => K (g r) := fun k n a b g => by
      unfold eqA
      exact Lin.exists_ fun l => Lin.exists_ fun m => ((((Lin.ret _).and _).and _).and _).and _
    split
    · exact key _ _ _ _ _
    · exact key _ _ _ _ _
    · exact Lin.no
  · exact Lin.no
theorem pickK_lin (c a b) : Lin (pickK c a b) := by
  unfold pickK
  split
  · split
    · exact Lin.ret _
    · exact Lin.bif_ _ (Lin.ret _) (Lin.ret _)
  · exact Lin.no
theorem partT_lin (t cs i) : Lin (partT T t cs i) := by
  have key : ∀ {α : Type} (A : α → Prop) (f : α → AVal), Lin fun (K : AVal → Prop) => ∃ n, 0 ≤ i ∧ A n ∧ K (f n) := fun A f => Lin.exists_ fun n => ((Lin.ret (f n)).and (A n)).and _
  unfold partT
  split <;> first
    | exact key _ _
    | exact (Lin.ret _).and _
    | exact Lin.no
theorem exT_lin (t vs i) : Lin (exT T t vs i) := by
  have key : ∀ {α : Type} (A : α → Prop) (f : α → AVal), Lin fun (K : AVal → Prop) => ∃ n, A n ∧ K (f n) := fun A f => Lin.exists_ fun n => (Lin.ret (f n)).and (A n)
  unfold exT
  split <;> exact key _ _
theorem foldI_lin (f k) : ∀ l a, Lin (foldI f k a l)
  | [], a => Lin.ret _
  | v :: l, a => by
    cases v <;> first | exact Lin.no | skip
    show Lin fun K => foldI f k a (_ :: l) K
    unfold foldI
    exact Lin.bif_ _ (foldI_lin f k l _) Lin.no
theorem callK_lin (t f args) : Lin2 (callK S T t f args h) := by
  have key : ∀ {α : Type} (g : α → AVal), Lin fun (K : AVal × H → Prop) => ∃ v h', S f args h (g v) h' ∧ K (g v, h') := fun g => Lin.exists_ fun v => Lin.exists_ fun h' => (Lin.ret _).and _
  unfold Lin2 callK
  split <;> exact key _
theorem stT_lin (t p v) : Lin (stT T t p v h) := by
  unfold stT
  refine Lin.bif_ _ ?_ (Lin.bif_ _ (Lin.ex fun h' => put1 h p v = some h') Lin.no)
  split
  · exact Lin.exists_ fun h' => ((Lin.ret h').and _).and _
  · exact Lin.no
theorem app_lin (s x z) : Lin2 (app s x z h) := by
  unfold Lin2 app
  exact Lin.exists_ fun xs => Lin.exists_ fun s' => Lin.exists_ fun h' => ((((Lin.ret (s', h')).and _).and _).and _).and _
theorem copyS_lin (s x z) : Lin2 (copyS s x z h) := by
  unfold Lin2 copyS
  exact Lin.exists_ fun xs => Lin.exists_ fun h' => ((((Lin.ret (_, h')).and _).and _).and _).and _
theorem clearS_lin (s z) : Lin (clearS s z h) := by
  unfold clearS
  split
  · exact Lin.ret _
  · exact Lin.exists_ fun h' => ((Lin.ret h').and _).and _
theorem Lin.pair {α : Type} {F : (α → Prop) → Prop} (hF : Lin F) (g : α → AVal × H) : Lin2 fun (K : AVal → H → Prop) => F fun x => K (g x).1 (g x).2 := hF.map g
theorem Lin2.pair {α : Type} {F : (α → H → Prop) → Prop} (hF : Lin2 F) (g : α → AVal) : Lin2 fun (K : AVal → H → Prop) => F fun x h => K (g x) h := Lin.map hF fun p => (g p.1, p.2)
theorem Lin2.no {α : Type} : Lin2 fun (_ : α → H → Prop) => False := Lin.no
theorem Lin2.ret {α : Type} (v : α) (h : H) : Lin2 fun (K : α → H → Prop) => K v h := Lin.ret (v, h)
theorem Lin2.bif_ {α : Type} {F G : (α → H → Prop) → Prop} (b : Bool) (hF : Lin2 F) (hG : Lin2 G) : Lin2 fun K => bif b then F K else G K := Lin.bif_ b hF hG
theorem opK_lin (o : Oper) (fr : Frame) : Lin2 (opK S T o fr h) := by
  unfold opK
  cases o.op with
  | move x => exact Lin2.ret _ _
  | assign x => exact Lin2.ret _ _
  | pick c a b => exact (pickK_lin _ _ _).pair fun v => (v, h)
  | alloc t => exact Lin2.bif_ _ (Lin2.ret _ _) Lin2.no
  | box t x =>
    refine Lin2.bif_ _ ?_ (Lin2.bif_ _ (Lin2.ret _ _) Lin2.no)
    split
    · exact (Lin2.ret (α := AVal) _ _).and _
    · exact Lin2.no
  | build t ps =>
    dsimp only
    split
    · exact (fillK_lin _ _ _ _).pair fun cs => (.agg cs, h)
    · exact Lin2.bif_ _ ((fillK_lin _ _ _ _).pair fun cs => (.agg cs, h)) Lin2.no
    · exact Lin2.no
  | buildSlice t n ps =>
    dsimp only
    split
    · exact Lin2.bif_ _ ((fillK_lin _ _ _ _).pair fun cs => (_, _)) Lin2.no
    · exact Lin2.no
  | load t a =>
    dsimp only
    split
    · exact (ldT_lin _ _).pair fun v => (v, h)
    · exact Lin2.no
  | store t a x =>
    dsimp only
    split
    · exact (stT_lin _ _ _).pair fun h => (.gone, h)
    · exact Lin2.no
  | nilCheck x => exact (Lin2.ret (α := AVal) _ _).and _
  | binOp op t x y _ => exact (binK_lin _ _ _ _ _).pair fun v => (v, h)
  | unOp op t x => dsimp only; split <;> first | exact Lin2.ret _ _ | exact Lin2.no
  | convert s d x => dsimp only; split <;> first | exact Lin2.ret _ _ | exact Lin2.no
  | makeFunc fn first cap => dsimp only; split <;> first | exact Lin2.bif_ _ (Lin2.ret _ _) Lin2.no | exact Lin2.no
  | makeSlice t n c => dsimp only; split <;> first | exact Lin2.bif_ _ ((Lin2.ret (α := AVal) _ _).and _) Lin2.no | exact Lin2.no
  | slice t x lo hi mx =>
    have k1 : ∀ s z a b, Lin2 fun (K : AVal → H → Prop) => cut s z a b h fun s => K (.sl s) h := fun s z a b => by
      unfold cut
      exact ((((Lin2.ret (α := AVal) _ _).and _).and _).and _).and _
    have k2 : ∀ s n z a b, Lin2 fun (K : AVal → H → Prop) => cutA s n z a b fun s => K (.sl s) h := fun s n z a b => by
      unfold cutA
      exact (((Lin2.ret (α := AVal) _ _).and _).and _).and _
    dsimp only
    split
    · split
      · exact Lin2.bif_ _ (k1 _ _ _ _) Lin2.no
      · exact Lin2.no
    · split
      · exact Lin2.bif_ _ (k2 _ _ _ _ _) Lin2.no
      · exact Lin2.no
    · exact Lin2.no
  | fieldAddr t x f =>
    dsimp only
    split
    · split
      · exact (Lin2.ret (α := AVal) _ _).and _
      · exact Lin2.no
    · exact Lin2.no
  | field t x f =>
    dsimp only
    split
    · split
      · exact (partT_lin _ _ _).pair fun v => (v, h)
      · exact Lin2.no
    · exact Lin2.no
  | indexAddr t x i =>
    dsimp only
    split
    · exact (((Lin2.ret (α := AVal) _ _).and _).and _).and _
    · exact Lin2.bif_ _ (((Lin2.ret (α := AVal) _ _).and _).and _) Lin2.no
    · exact Lin2.no
  | index t x i =>
    dsimp only
    split
    · exact Lin2.bif_ _ (((partT_lin _ _ _).pair fun v => (v, h)).and _) Lin2.no
    · exact Lin2.no
  | extract x i =>
    dsimp only
    exact Lin.exists_ fun vs => ((exT_lin _ _ _).pair fun v => (v, h)).and _
  | call c =>
    dsimp only
    split
    · exact callK_lin _ _ _
    · unfold viaF
      exact Lin.exists_ fun f => Lin.exists_ fun cap => (callK_lin _ _ _).and _
    · split <;> first | exact Lin2.ret _ _ | exact Lin2.no
    · split <;> first | exact Lin2.bif_ _ ((app_lin _ _ _).pair _) Lin2.no | exact Lin2.no
    · split <;> first | exact Lin2.bif_ _ ((copyS_lin _ _ _).pair _) Lin2.no | exact Lin2.no
    · split <;> first | exact Lin2.bif_ _ ((clearS_lin _ _).pair fun h => (_, h)) Lin2.no | exact Lin2.no
    · split <;> first | exact (foldI_lin _ _ _ _).pair fun v => (v, h) | exact Lin2.no
    · split <;> first | exact (foldI_lin _ _ _ _).pair fun v => (v, h) | exact Lin2.no
    · exact Lin2.no
  | _ => exact Lin2.no
end
end Go.Proofs.Ytdmhchgaeepdmaa.Cl
