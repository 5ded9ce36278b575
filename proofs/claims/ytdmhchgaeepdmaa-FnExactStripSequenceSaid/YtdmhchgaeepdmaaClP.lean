/- The clean machine: from what holds of a law in it to what the law's calls return. No claim is stated here. -/
import Derived.Test.YtdmhchgaeepdmaaClO
import Derived.ChangeStays
import Derived.ReadAgain
import Derived.ChangeOld
import Derived.Below
set_option linter.unusedVariables false
set_option linter.unusedSimpArgs false
namespace Go.Proofs.Ytdmhchgaeepdmaa.Cl
open Go Go.RowKit
section
variable {H' : Type} {enc : TypeId × Value → H'} {P : Program} {W : World}
theorem VRs.head {μ h c d} (v : VRs μ h [c] [d]) : VR μ h c d := by
  simp only [VRs] at v
  obtain ⟨d', ds, e, h1, h2⟩ := v
  cases e; exact h1
/-- An argument of a type, out of its cells. -/
def argV (P : Program) (t : TypeId) (as : List AVal) : AVal := match P.underlying t with
  | some (.struct _) => .agg as
  | some (.array _ _) => .agg as
  | _ => as.headD .undef
def ArgIs (P : Program) (h : H) (t : TypeId) (a : AVal) : Prop := ∃ as pd, Den P h t as pd ∧ a = argV P t as
theorem opens_args (m : Nat) {W0 : World} {r0 : Reach} {b0 : Nat} : ∀ (ts : List TypeId), (ts.all (simpleT P m)) = true → ∀ (vs : List Value) (ds : List (DataW H')) ps, (∀ (j : Nat) t v, ts[j]? = some t → vs[j]? = some v → Value.okWide P W0 r0 b0 t v) → DataW.TrodAll enc P W 0 (fun _ => true) true ts vs ds ps →
    ∀ μ h, Rel μ h W → RoOnly h → ∃ (μ' : Mu) (h' : H) (as : List AVal), Grow W μ h μ' h' ∧ VRs μ' h' as vs ∧ as.length = ts.length ∧ ∀ (i : Nat) t a, ts[i]? = some t → as[i]? = some a → ArgIs P h' t a
  | [], _, vs, ds, ps, _, ht, μ, h, r, o => by
    cases vs with
    | nil => exact ⟨μ, h, [], Grow.refl r o, VRs.nil, rfl, fun i t a e => by simp at e⟩
    | cons v vs => cases ds <;> exact ht.elim
  | t :: ts, hs, vs, ds, ps, hok, ht, μ, h, r, o => by
    cases vs with
    | nil => cases ds <;> exact ht.elim
    | cons v vs =>
      cases ds with
      | nil => exact ht.elim
      | cons d ds =>
        obtain ⟨p, q, ⟨fuel, h1⟩, h2, rfl⟩ := ht
        rw [List.all_cons, Bool.and_eq_true] at hs
        obtain ⟨μ1, h1', as, pd, g1, v1, d1⟩ := opens rfl m t hs.1 fuel _ _ h1 μ h r o
        obtain ⟨μ2, h2', as2, g2, v2, l2, e2⟩ := opens_args m ts hs.2 vs ds q (fun j t v a b => hok (j + 1) t v (by simpa using a) (by simpa using b)) h2 μ1 h1' g1.rel g1.ro
        have hv : VR μ1 h1' (argV P t as) v := by
          have ho := hok 0 t v rfl rfl
          unfold Value.okWide at ho
          unfold argV
          split at ho
          · next fs hu =>
            obtain ⟨cs, rfl, _, _⟩ := ho
            rw [hu]
            simp only [VR]
            exact ⟨cs, rfl, v1, by rw [List.all_eq_true]; exact d1.cells⟩
          · next n e hu =>
            obtain ⟨cs, rfl, _, _⟩ := ho
            rw [hu]
            simp only [VR]
            exact ⟨cs, rfl, v1, by rw [List.all_eq_true]; exact d1.cells⟩
          · next n1 n2 =>
            have key : (∃ k, P.underlying t = some (.int k)) ∨ P.underlying t = some .bool ∨ (∃ e, P.underlying t = some (.slice e)) → v.cells.toList = [v] := by
              intro hu
              cases v <;> first
                | rfl
                | (exfalso
                   rcases hu with ⟨k, hu⟩ | hu | ⟨e, hu⟩ <;> (unfold Cell.okWide Cell.ok at ho; rw [hu] at ho; simp at ho))
            cases d1 with
            | int hu hw => rw [key (.inl ⟨_, hu⟩)] at v1; rw [hu]; exact VRs.head v1
            | bool hu => rw [key (.inr (.inl hu))] at v1; rw [hu]; exact VRs.head v1
            | arr hu => exact absurd hu (n2 _ _)
            | struct hu => exact absurd hu (n1 _)
            | sl hu => rw [key (.inr (.inr ⟨_, hu⟩))] at v1; rw [hu]; exact VRs.head v1
        refine ⟨μ2, h2', argV P t as :: as2, g1.trans g2, VRs.cons (VR.step g2.step hv) v2, by simp [l2], fun i t' a x1 x2 => ?_⟩
        cases i with
        | zero =>
          simp at x1 x2
          subst x1 x2
          exact ⟨as, pd, d1.ext g2.ext, rfl⟩
        | succ i => exact e2 i t' a (by simpa using x1) (by simpa using x2)
theorem mine_ro {μ : Mu} {h : H} (o : RoOnly h) (b : Nat) : ¬ Mine μ h b := by
  rintro ⟨i, t, m, e, h1, _⟩
  unfold inf at e
  split at e
  · next h2 => obtain ⟨_, h⟩ := o i _ h2; cases h
  · next h2 => cases e; exact h1 rfl
  · next h2 => obtain ⟨_, h⟩ := o i _ h2; cases h
  · cases e
theorem rel_nil (μ : Mu) (W : World) : Rel μ [] W :=
  ⟨fun o cs e => by simp at e, fun o cs e => by simp at e, fun o es e => by simp at e, fun o o' t m t' m' e => by simp [inf] at e⟩
theorem law_calls {f : Nat} {ts : List TypeId} (m : Nat) (hs : ts.all (simpleT P m) = true)
    (hlaw : ∀ (h : H) (as : List AVal), as.length = ts.length → (∀ (i : Nat) t a, ts[i]? = some t → as[i]? = some a → ArgIs P h t a) → callB (Sat P) f as h fun b _ => b = true)
    {args : Array Value} {ds : List (DataW H')} {ps : List MemPlace} {r0 : Reach} {b0 : Nat} (hok : ∀ (j : Nat) t v, ts[j]? = some t → args[j]? = some v → Value.okWide P W r0 b0 t v) (ht : DataW.TrodAll enc P W 0 (fun _ => true) true ts args.toList ds ps) :
    Calls P f args W fun e W' => e = .returned (.bool true) ∧ Below W.heap.size W W' := by
  obtain ⟨μ, h, as, g, v, l, ha⟩ := opens_args (P := P) (W := W) (enc := enc) m ts hs args.toList ds ps (fun j t v a b => hok j t v a (by simpa using b)) ht (fun _ => ⟨0, 0, 0⟩) [] (rel_nil _ _) (fun o v e => by simp at e)
  obtain ⟨b, h', hsat, rfl⟩ := hlaw h as l ha
  refine (hsat.2 μ W args.toList g.rel v).mono fun e W' ⟨x, μ', he, tr, hx⟩ => ?_
  simp only [VR] at hx
  subst hx
  exact ⟨he, tr.keep.os, tr.keep.tape, tr.keep.output, tr.keep.size, fun k hk => tr.keep.block k hk (mine_ro g.ro k)⟩
theorem sameAt_below {W' : World} (b : Below W.heap.size W W') {p : MemPlace} (hp : p.block < W.heap.size) : W.sameAt W' p := by
  cases p with
  | cell c off =>
    show W'.cell? _ = W.cell? _
    unfold World.cell?
    rw [b.block c hp]
  | map c => exact b.block c hp
/-- The arguments read behind the call as they read before. -/
theorem args_stay (hl : laidOutB P = true) (hm : mapsRowed P = true) (hsl : ((List.range P.types.size).all fun t => match P.underlying t with | some (.slice e) => decide (0 < P.cellsOf e) | _ => true) = true) {W' : World} (b : Below W.heap.size W W') :
    ∀ {ts : List TypeId} {vs : List Value} {ds : List (DataW H')} {ps : List MemPlace}, (∀ t ∈ ts, t < P.types.size) → DataW.TrodAll enc P W 0 (fun _ => true) true ts vs ds ps → DataW.TrodAll enc P W' 0 (fun b => decide (b < W.heap.size)) true ts vs ds ps
  | [], [], [], ps, _, h => h
  | t :: ts, v :: vs, d :: ds, ps, ht, ⟨p, q, ⟨n, h1⟩, h2, e⟩ => by
    have hlt := DataW.trod_lt n _ _ _ h1
    exact ⟨p, q, ⟨n, DataW.trod_stays (kids_rows hl hm) (fun ht hu => slices_full_of P hsl _ _ ht hu) (fun e => by cases e) (ht t (by simp)) h1 (fun p hp => sameAt_below b (hlt p hp)) (fun p hp => decide_eq_true (hlt p hp))⟩, args_stay hl hm hsl b (fun t h => ht t (by simp [h])) h2, e⟩
theorem lt_of_all {ts : List TypeId} (h : (ts.all fun t => decide (t < P.types.size)) = true) : ∀ t ∈ ts, t < P.types.size := fun t ht => by
  simpa using List.all_eq_true.1 h t ht
end
end Go.Proofs.Ytdmhchgaeepdmaa.Cl
