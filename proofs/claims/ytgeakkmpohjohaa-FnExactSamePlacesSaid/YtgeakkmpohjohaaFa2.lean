/- Texts of the clean machine, joined. No claim is stated here. -/
import Derived.Test.YtgeakkmpohjohaaFa1
import Derived.ChangeArms
import Derived.OpenShut
import Derived.DataReads
import Derived.ChangeStays
import Derived.ReadAgain
import Derived.ChangeOld
import Derived.Below
/- The clean machine: arguments that are read are laid into its heap. No claim is stated here. -/
set_option linter.unusedVariables false
set_option linter.unusedSimpArgs false
namespace Go.Proofs.Ytgeakkmpohjohaa.Cl
open Go
/-- Read data. -/
inductive PD where
  | int (k : IntKind) (n : Int)
  | bool (b : Bool)
  | agg (l : List PD)
  | sl (l : List PD)
inductive Den (P : Program) (h : H) : TypeId → List AVal → PD → Prop where
  | int {t k n} : P.underlying t = some (.int k) → (Lit.int k n).wf = true → Den P h t [.int k n] (.int k n)
  | bool {t b} : P.underlying t = some .bool → Den P h t [.bool b] (.bool b)
  | arr {t n e} {ass : List (List AVal)} {ds : List PD} : P.underlying t = some (.array n e) → ass.length = n → ds.length = n → (∀ (i : Nat) a d, ass[i]? = some a → ds[i]? = some d → Den P h e a d) → Den P h t ass.flatten (.agg ds)
  | struct {t} {fs : Array Field} {ass : List (List AVal)} {ds : List PD} : P.underlying t = some (.struct fs) → ass.length = fs.size → ds.length = fs.size → (∀ (i : Nat) f a d, fs[i]? = some f → ass[i]? = some a → ds[i]? = some d → Den P h f.type a d) → Den P h t ass.flatten (.agg ds)
  | sl {t e} {s : Sl} {ass : List (List AVal)} {ds : List PD} : P.underlying t = some (.slice e) → ass.length = s.len → ds.length = s.len → s.len ≤ maxLen → Rd h s (P.cellsOf e) ass.flatten → (∀ (i : Nat) a d, ass[i]? = some a → ds[i]? = some d → Den P h e a d) → Den P h t [.sl s] (.sl ds)
theorem Den.ext {P : Program} {h h' : H} (x : Ext h h') {t as d} (r : Den P h t as d) : Den P h' t as d := by
  induction r with
  | int a b => exact .int a b
  | bool a => exact .bool a
  | arr a b c _ ih => exact .arr a b c ih
  | struct a b c _ ih => exact .struct a b c ih
  | sl a b c d e _ ih => exact .sl a b c d (e.ext x) ih
theorem flatten_all {ass : List (List AVal)} (h : ∀ a ∈ ass, ∀ v ∈ a, v.isCell = true) : ∀ v ∈ ass.flatten, v.isCell = true := by
  intro v hv
  rw [List.mem_flatten] at hv
  obtain ⟨a, ha, hv⟩ := hv
  exact h a ha v hv
theorem mem_at {α β : Type} {l : List α} {m : List β} (e : l.length = m.length) {a : α} (h : a ∈ l) : ∃ (i : Nat) (b : β), l[i]? = some a ∧ m[i]? = some b := by
  obtain ⟨i, hi, rfl⟩ := List.mem_iff_getElem.1 h
  exact ⟨i, m[i]'(by omega), List.getElem?_eq_getElem hi, List.getElem?_eq_getElem (by omega)⟩
theorem Den.cells {P : Program} {h : H} {t as d} (r : Den P h t as d) : ∀ v ∈ as, v.isCell = true := by
  induction r with
  | int a b => intro v hv; simp at hv; subst hv; rfl
  | bool a => intro v hv; simp at hv; subst hv; rfl
  | arr a b c _ ih =>
    refine flatten_all fun x hx => ?_
    obtain ⟨i, d, h1, h2⟩ := mem_at (b.trans c.symm) hx
    exact ih i x d h1 h2
  | @struct t fs ass ds a b c _ ih =>
    refine flatten_all fun x hx => ?_
    obtain ⟨i, d, h1, h2⟩ := mem_at (b.trans c.symm) hx
    have hi : i < fs.size := by have := (List.getElem?_eq_some_iff.1 h1).1; omega
    exact ih i fs[i] x d (Array.getElem?_eq_getElem hi) h1 h2
  | sl a b c d e _ ih => intro v hv; simp at hv; subst hv; rfl
/-! ### what can be laid -/
def offsOK (P : Program) : Nat → List Field → Nat → Bool
  | off, [], tot => off == tot
  | off, f :: l, tot => f.offset == off && offsOK P (off + P.cellsOf f.type) l tot
def simpleT (P : Program) : Nat → TypeId → Bool
  | 0, _ => false
  | m + 1, t => match P.underlying t with
    | some (.int _) => true
    | some .bool => true
    | some (.slice e) => decide (0 < P.cellsOf e) && simpleT P m e
    | some (.array n e) => simpleT P m e && P.cellsOf t == n * P.cellsOf e
    | some (.struct fs) => (fs.toList.all fun f => simpleT P m f.type) && offsOK P 0 fs.toList (P.cellsOf t)
    | _ => false
def RoOnly (h : H) : Prop := ∀ (o : Nat) v, h[o]? = some v → ∃ cs, v = .ro cs
structure Grow (W : World) (μ : Mu) (h : H) (μ' : Mu) (h' : H) : Prop where
  rel : Rel μ' h' W
  ro : RoOnly h'
  ext : Ext h h'
  same : ∀ o, o < h.length → μ' o = μ o
theorem Grow.refl {W μ h} (r : Rel μ h W) (o : RoOnly h) : Grow W μ h μ h := ⟨r, o, Ext.refl h, fun _ _ => rfl⟩
theorem Grow.trans {W μ h μ1 h1 μ2 h2} (a : Grow W μ h μ1 h1) (b : Grow W μ1 h1 μ2 h2) : Grow W μ h μ2 h2 :=
  ⟨b.rel, b.ro, a.ext.trans b.ext, fun o ho => by rw [b.same o (Nat.lt_of_lt_of_le ho a.ext.len), a.same o ho]⟩
theorem Grow.step {W μ h μ' h'} (g : Grow W μ h μ' h') : Step μ h μ' h' :=
  ⟨g.ext.len, fun o e => by have := isSome_lt e; unfold inf at e ⊢; rw [g.ext.get this]; exact e, fun o t m ho e => ⟨t, m, by unfold inf at e ⊢; rw [g.ext.get ho] at e; exact e, Nat.le_refl _, fun _ => ⟨rfl, g.same o ho⟩, .inl rfl⟩⟩
section
variable {H' : Type} {enc : TypeId × Value → H'} {P : Program} {W : World}
def Opens (P : Program) (W : World) (μ : Mu) (h : H) (t : TypeId) (cs : List Value) : Prop :=
  ∃ μ' h' as pd, Grow W μ h μ' h' ∧ VRs μ' h' as cs ∧ Den P h' t as pd
theorem opens_list {Q : TypeId × List Value → Prop} (ih : ∀ it, Q it → ∀ μ h, Rel μ h W → RoOnly h → Opens P W μ h it.1 it.2) : ∀ (items : List (TypeId × List Value)), (∀ it ∈ items, Q it) → ∀ μ h, Rel μ h W → RoOnly h →
    ∃ (μ' : Mu) (h' : H) (ass : List (List AVal)) (pds : List PD), Grow W μ h μ' h' ∧ VRs μ' h' ass.flatten (items.map (·.2)).flatten ∧ ass.length = items.length ∧ pds.length = items.length ∧
      ∀ (i : Nat) it a d, items[i]? = some it → ass[i]? = some a → pds[i]? = some d → Den P h' it.1 a d ∧ VRs μ' h' a it.2
  | [], _, μ, h, r, o => ⟨μ, h, [], [], Grow.refl r o, VRs.nil, rfl, rfl, fun i it a d e => by simp at e⟩
  | it :: items, hq, μ, h, r, o => by
    obtain ⟨μ1, h1, as, pd, g1, v1, d1⟩ := ih it (hq it (by simp)) μ h r o
    obtain ⟨μ2, h2, ass, pds, g2, v2, l1, l2, e2⟩ := opens_list ih items (fun x hx => hq x (by simp [hx])) μ1 h1 g1.rel g1.ro
    refine ⟨μ2, h2, as :: ass, pd :: pds, g1.trans g2, ?_, by simp [l1], by simp [l2], ?_⟩
    · simp only [List.flatten_cons, List.map_cons]
      exact (VRs.step g2.step v1).append v2
    · intro i it' a d x1 x2 x3
      cases i with
      | zero =>
        simp at x1 x2 x3
        subst x1 x2 x3
        exact ⟨d1.ext g2.ext, VRs.step g2.step v1⟩
      | succ i => exact e2 i it' a d (by simpa using x1) (by simpa using x2) (by simpa using x3)
theorem chunks_flatten {α : Type} (z : Nat) : ∀ (n : Nat) (cs : List α), cs.length = n * z → ((List.range n).map fun i => (cs.drop (i * z)).take z).flatten = cs
  | 0, cs, h => by simp at h; simp [h]
  | n + 1, cs, h => by
    have ih := chunks_flatten z n (cs.drop z) (by simp [h, Nat.add_mul])
    rw [List.range_succ_eq_map, List.map_cons, List.flatten_cons, List.map_map]
    have : ((fun i => (cs.drop (i * z)).take z) ∘ Nat.succ) = fun i => ((cs.drop z).drop (i * z)).take z := by
      funext i
      simp only [Function.comp, List.drop_drop]
      congr 2
      rw [Nat.succ_mul]; omega
    rw [this, ih]
    simp
theorem offs_flatten {α : Type} (P : Program) (cs : List α) : ∀ (l : List Field) (off tot : Nat), offsOK P off l tot = true → cs.length = tot → (l.map fun f => (cs.drop f.offset).take (P.cellsOf f.type)).flatten = cs.drop off
  | [], off, tot, h, hl => by
    simp only [offsOK, beq_iff_eq] at h
    simp; omega
  | f :: l, off, tot, h, hl => by
    simp only [offsOK, Bool.and_eq_true, beq_iff_eq] at h
    obtain ⟨h1, h2⟩ := h
    subst h1
    rw [List.map_cons, List.flatten_cons, offs_flatten P cs l _ tot h2 hl, ← List.drop_drop]
    exact List.take_append_drop _ _
theorem rel_ro {μ : Mu} {h : H} (r : Rel μ h W) (ro : RoOnly h) (l : Loc) {as : List AVal} {cs : List Value} (hv : VRs μ h as cs) (hc : ∀ v ∈ as, v.isCell = true) (hw : ∀ (i : Nat) d, cs[i]? = some d → W.cell? (place l i) = some d) :
    Grow W μ h (fun o => if o = h.length then l else μ o) (h ++ [.ro as]) := by
  have ro' : RoOnly (h ++ [.ro as]) := by
    intro o v e
    by_cases ho : o < h.length
    · rw [List.getElem?_append_left ho] at e; exact ro o v e
    · rw [List.getElem?_append_right (by omega)] at e
      have : o - h.length = 0 := by have := (List.getElem?_eq_some_iff.1 e).1; simp at this; omega
      rw [this] at e; simp at e; exact ⟨_, e.symm⟩
  have st : Step μ h (fun o => if o = h.length then l else μ o) (h ++ [.ro as]) :=
    ⟨by simp, fun o e => by rw [inf_push h _ o (isSome_lt e)]; exact e, fun o t m ho e => ⟨t, m, by unfold inf at e ⊢; rw [List.getElem?_append_left ho] at e; exact e, Nat.le_refl _, fun _ => ⟨rfl, by simp [Nat.ne_of_lt ho]⟩, .inl rfl⟩⟩
  refine ⟨⟨fun o cs e => ?_, fun o cs' e i v hv' => ?_, fun o es e => ?_, fun o o' t m t' m' e h1 => ?_⟩, ro', Ext.app _ _, fun o ho => by simp [Nat.ne_of_lt ho]⟩
  · obtain ⟨_, h⟩ := ro' o _ e; cases h
  · by_cases ho : o < h.length
    · rw [List.getElem?_append_left ho] at e
      obtain ⟨h1, d, h2, h3⟩ := r.ro o cs' e i v hv'
      refine ⟨h1, d, ?_, VR.step st h3⟩
      simpa [Nat.ne_of_lt ho] using h2
    · rw [List.getElem?_append_right (by omega)] at e
      have h0 : o - h.length = 0 := by have := (List.getElem?_eq_some_iff.1 e).1; simp at this; omega
      rw [h0] at e; simp at e
      subst e
      have : o = h.length := by omega
      subst this
      obtain ⟨d, h1, h2⟩ := hv.get hv'
      refine ⟨hc v (List.mem_of_getElem? hv'), d, ?_, VR.step st h2⟩
      simpa using hw i d h1
  · obtain ⟨_, h⟩ := ro' o _ e; cases h
  · exfalso
    unfold inf at e
    split at e
    · next h2 => obtain ⟨_, h⟩ := ro' o _ h2; cases h
    · next h2 => cases e; exact h1.1 rfl
    · next h2 => obtain ⟨_, h⟩ := ro' o _ h2; cases h
    · next h2 => obtain ⟨_, h⟩ := ro' o _ h2; cases h
    · cases e
theorem opens (hsz : P.types.size = P.types.size) : ∀ (m : Nat) (t : TypeId), simpleT P m t = true → ∀ (fuel : Nat) (cs : List Value) x, DataW.trod enc P W 0 (fun _ => true) true fuel t cs = some x → ∀ μ h, Rel μ h W → RoOnly h → Opens P W μ h t cs := by
  intro m
  induction m with
  | zero => intro t h; cases h
  | succ m ih =>
    intro t hs fuel cs x hx μ h r o
    unfold simpleT at hs
    split at hs
    · next k ht =>
      obtain ⟨n, rfl, _, hw⟩ := DataW.trod_int ht hx
      exact ⟨μ, h, [.int k n], .int k n, Grow.refl r o, VRs.cons (by simp [VR]) VRs.nil, .int ht hw⟩
    · next ht =>
      obtain ⟨b, rfl, _⟩ := DataW.trod_bool ht hx
      exact ⟨μ, h, [.bool b], .bool b, Grow.refl r o, VRs.cons (by simp [VR]) VRs.nil, .bool ht⟩
    · next e ht =>
      rw [Bool.and_eq_true, decide_eq_true_eq] at hs
      obtain ⟨hz, hs⟩ := hs
      rcases DataW.trod_slice ht hx with ⟨rfl, _⟩ | ⟨a, len, cap, elems, rest, n, rfl, rfl, _, _, hl, hcm, hlen, hel, _, _⟩
      · exact ⟨μ, h, [.sl Sl.nil], .sl [], Grow.refl r o, VRs.cons (by simp [VR, SR, Sl.nil]) VRs.nil, .sl (ass := []) ht rfl rfl (by simp [Sl.nil]) (Rd.nil _ _) (fun i a d e => by simp at e)⟩
      · have hch : ∀ i, i < len → ∃ c, W.cells? 0 (a.add (i * P.cellsOf e)) (P.cellsOf e) = some c ∧ ∃ y, DataW.trod enc P W 0 (fun _ => true) true n e c = some y := by
          intro i hi
          have := hel i hi
          rw [List.getElem?_eq_getElem (by omega)] at this
          obtain ⟨c, h1, h2⟩ := Option.bind_eq_some_iff.1 this
          exact ⟨c, h1, _, h2⟩
        obtain ⟨g, hg⟩ : ∃ g : Nat → List Value, ∀ i, i < len → W.cells? 0 (a.add (i * P.cellsOf e)) (P.cellsOf e) = some (g i) ∧ ∃ y, DataW.trod enc P W 0 (fun _ => true) true n e (g i) = some y :=
          ⟨fun i => if hi : i < len then Classical.choose (hch i hi) else [], fun i hi => by
            simp only [hi, dif_pos]
            exact Classical.choose_spec (hch i hi)⟩
        obtain ⟨μ1, h1, ass, pds, g1, v1, l1, l2, e1⟩ := opens_list (P := P) (W := W) (Q := fun it => it.1 = e ∧ ∃ y, DataW.trod enc P W 0 (fun _ => true) true n e it.2 = some y)
          (fun it ⟨q1, y, q2⟩ μ h r o => by rw [q1]; exact ih e hs n it.2 y q2 μ h r o) ((List.range len).map fun i => (e, g i)) (fun it hit => by
            obtain ⟨i, hi, rfl⟩ := List.mem_map.1 hit
            exact ⟨rfl, (hg i (List.mem_range.1 hi)).2⟩) μ h r o
        rw [List.length_map, List.length_range] at l1 l2
        have hits : ∀ i, i < len → ((List.range len).map fun i => (e, g i))[i]? = some (e, g i) := fun i hi => by
          rw [List.getElem?_map, List.getElem?_range hi]; rfl
        have hal : ∀ (i : Nat) c, ass[i]? = some c → c.length = P.cellsOf e := by
          intro i c hc
          have hi : i < len := by have := (List.getElem?_eq_some_iff.1 hc).1; omega
          obtain ⟨_, hv⟩ := e1 i _ c _ (hits i hi) hc (List.getElem?_eq_getElem (by omega))
          rw [← hv.len, (World.cells?_some (hg i hi).1).2.1]
        have hden : ∀ (i : Nat) c d, ass[i]? = some c → pds[i]? = some d → Den P h1 e c d := fun i c d hc hd => by
          have hi : i < len := by have := (List.getElem?_eq_some_iff.1 hc).1; omega
          exact (e1 i _ c d (hits i hi) hc hd).1
        have hcells : ∀ v ∈ ass.flatten, v.isCell = true := flatten_all fun c hc => by
          obtain ⟨i, d, q1, q2⟩ := mem_at (l1.trans l2.symm) hc
          exact (hden i c d q1 q2).cells
        have hfl : (((List.range len).map fun i => (e, g i)).map (·.2)).flatten = ((List.range len).map g).flatten := by rw [List.map_map]; rfl
        rw [hfl] at v1
        have hwat : ∀ (k : Nat) d, ((List.range len).map g).flatten[k]? = some d → W.cell? (a.add k) = some d ∧ k < len * P.cellsOf e := by
          have gl : ∀ i, i < len → (g i).length = P.cellsOf e := fun i hi => (World.cells?_some (hg i hi).1).2.1
          have key : ∀ n', n' ≤ len → ∀ (k : Nat) d, ((List.range n').map g).flatten[k]? = some d → W.cell? (a.add k) = some d ∧ k < n' * P.cellsOf e := by
            intro n'
            induction n' with
            | zero => intro _ k d hk; simp at hk
            | succ n' ihn =>
              intro hn k d hk
              rw [List.range_succ, List.map_append, List.flatten_append] at hk
              have hll : (((List.range n').map g).flatten).length = n' * P.cellsOf e := by
                rw [List.length_flatten, List.map_map]
                have : ∀ q, q ≤ len → ((List.range q).map (List.length ∘ g)).sum = q * P.cellsOf e := by
                  intro q
                  induction q with
                  | zero => intro _; simp
                  | succ q ihq =>
                    intro hq
                    rw [List.range_succ, List.map_append, List.sum_append, ihq (by omega)]
                    simp [gl q (by omega), Nat.add_mul]
                exact this n' (by omega)
              by_cases hk2 : k < n' * P.cellsOf e
              · rw [List.getElem?_append_left (by omega)] at hk
                obtain ⟨q1, q2⟩ := ihn (by omega) k d hk
                exact ⟨q1, by rw [Nat.add_mul]; omega⟩
              · rw [List.getElem?_append_right (by omega), hll] at hk
                simp only [List.map_cons, List.map_nil, List.flatten_cons, List.flatten_nil, List.append_nil] at hk
                have hk3 := (List.getElem?_eq_some_iff.1 hk).1
                rw [gl n' (by omega)] at hk3
                have := (World.cells?_some (hg n' (by omega)).1).2.2 (k - n' * P.cellsOf e) hk3
                rw [hk] at this
                refine ⟨?_, by rw [Nat.add_mul]; omega⟩
                rw [← this]
                congr 1
                unfold Addr.add
                have hne : P.cellsOf e ≠ 0 := by omega
                by_cases e0 : n' * P.cellsOf e = 0
                · have : k - n' * P.cellsOf e = k := by omega
                  simp [e0]
                · by_cases e3 : k - n' * P.cellsOf e = 0
                  · have : k = n' * P.cellsOf e := by omega
                    simp [e0, e3, this]
                  · have hk0 : k ≠ 0 := by omega
                    simp [e0, e3, hk0]; omega
          exact key len (Nat.le_refl _)
        have hfirst : 0 < len → a.spot = none := by
          intro h0
          obtain ⟨v0, hv0⟩ : ∃ v, ((List.range len).map g).flatten[0]? = some v := by
            have : 0 < (((List.range len).map g).flatten).length := by
              have gl := (World.cells?_some (hg 0 h0).1).2.1
              have hv : (g 0)[0]? = some ((g 0)[0]'(by omega)) := List.getElem?_eq_getElem (by omega)
              exact List.length_pos_of_mem (List.mem_flatten.2 ⟨g 0, List.mem_map_of_mem (List.mem_range.2 h0), List.mem_of_getElem? hv⟩)
            exact ⟨_, List.getElem?_eq_getElem this⟩
          have := (hwat 0 v0 hv0).1
          unfold Addr.add World.cell? at this
          simp only [if_true] at this
          split at this
          · cases hsp : a.spot with
            | none => rfl
            | some q => rw [hsp] at this; simp at this
          · cases this
        have g2 := rel_ro g1.rel g1.ro ⟨a.block, a.off, 0⟩ v1 hcells (fun k d hk => by
          obtain ⟨q1, q2⟩ := hwat k d hk
          have h0 : 0 < len := by
            rcases Nat.eq_zero_or_pos len with e0 | e0
            · subst e0; simp at hk
            · exact e0
          rw [← q1]
          congr 1
          unfold place Addr.add
          split
          · next e0 =>
            subst e0
            obtain ⟨b1, o1, s1⟩ := a
            have := hfirst h0
            simp only at this
            subst this
            rfl
          · rfl)
        have hflen : ass.flatten.length = len * P.cellsOf e := by
          rw [List.length_flatten]
          have : ∀ (l : List (List AVal)), (∀ c ∈ l, c.length = P.cellsOf e) → (l.map List.length).sum = l.length * P.cellsOf e := by
            intro l
            induction l with
            | nil => intro _; simp
            | cons c l ihl =>
              intro hl
              rw [List.map_cons, List.sum_cons, ihl (fun c hc => hl c (by simp [hc])), hl c (by simp), List.length_cons, Nat.add_mul]
              omega
          rw [this ass (fun c hc => by
            obtain ⟨i, hi, rfl⟩ := List.mem_iff_getElem.1 hc
            exact hal i _ (List.getElem?_eq_getElem hi)), l1]
        refine ⟨_, _, [.sl ⟨some h1.length, len * P.cellsOf e, 0, len, P.cellsOf e⟩], .sl pds, g1.trans g2, VRs.cons ?_ VRs.nil, .sl (ass := ass) ht l1 l2 (by show len ≤ maxLen; omega) ⟨hflen, .inr ⟨rfl, rfl, ?_⟩⟩ fun i c d q1 q2 => (hden i c d q1 q2).ext g2.ext⟩
        · simp only [VR, SR]
          refine ⟨by unfold inf; simp, hz, a, cap, rfl, hl, fun t m he => ?_⟩
          have : inf (h1 ++ [.ro ass.flatten]) h1.length = some (1, len * P.cellsOf e) := by unfold inf; simp [hflen]
          rw [this] at he
          cases he
          refine ⟨Nat.le_refl _, fun _ => ⟨?_, by simp, ?_, fun e0 => by cases e0⟩⟩
          · have := Nat.mul_le_mul_right (P.cellsOf e) hl; omega
          · by_cases h0 : len = 0
            · exact .inl ⟨by simp [h0], rfl⟩
            · refine .inr (.inr ?_)
              obtain ⟨b1, o1, s1⟩ := a
              have := hfirst (by omega)
              simp only at this
              subst this
              simp [place]
        · show Cl.range (h1 ++ [.ro ass.flatten]) (some h1.length) (len * P.cellsOf e) 0 (len * P.cellsOf e) = some ass.flatten
          rw [range_of (xs := ass.flatten) (by unfold Cl.cells; simp [hflen]) (by omega), List.drop_zero, ← hflen, List.take_length]
    · next n e ht =>
      rw [Bool.and_eq_true, beq_iff_eq] at hs
      obtain ⟨hs, hsz⟩ := hs
      obtain ⟨xs, mm, rfl, _, hcl, hxl, hel⟩ := DataW.trod_array ht hx
      obtain ⟨μ1, h1, ass, pds, g1, v1, l1, l2, e1⟩ := opens_list (P := P) (W := W) (Q := fun it => it.1 = e ∧ ∃ y, DataW.trod enc P W 0 (fun _ => true) true mm e it.2 = some y)
        (fun it ⟨q1, y, q2⟩ μ h r o => by rw [q1]; exact ih e hs mm it.2 y q2 μ h r o) ((List.range n).map fun i => (e, (cs.drop (i * P.cellsOf e)).take (P.cellsOf e))) (fun it hit => by
          obtain ⟨i, hi, rfl⟩ := List.mem_map.1 hit
          have hi := List.mem_range.1 hi
          exact ⟨rfl, xs[i]'(by omega), by rw [hel i hi]; exact List.getElem?_eq_getElem (by omega)⟩) μ h r o
      rw [List.length_map, List.length_range] at l1 l2
      rw [List.map_map] at v1
      have := chunks_flatten (P.cellsOf e) n cs (by omega)
      rw [show ((fun x : TypeId × List Value => x.2) ∘ fun i => (e, (cs.drop (i * P.cellsOf e)).take (P.cellsOf e))) = fun i => (cs.drop (i * P.cellsOf e)).take (P.cellsOf e) from rfl, this] at v1
      refine ⟨μ1, h1, _, .agg pds, g1, v1, .arr ht l1 l2 fun i a d q1 q2 => ?_⟩
      have hi : i < n := by have := (List.getElem?_eq_some_iff.1 q1).1; omega
      exact (e1 i _ a d (by rw [List.getElem?_map, List.getElem?_range hi]; rfl) q1 q2).1
    · next fs ht =>
      rw [Bool.and_eq_true, List.all_eq_true] at hs
      obtain ⟨hs, hoff⟩ := hs
      obtain ⟨xs, mm, rfl, _, hcl, hxl, hel⟩ := DataW.trod_struct ht hx
      obtain ⟨μ1, h1, ass, pds, g1, v1, l1, l2, e1⟩ := opens_list (P := P) (W := W) (Q := fun it => simpleT P m it.1 = true ∧ ∃ y, DataW.trod enc P W 0 (fun _ => true) true mm it.1 it.2 = some y)
        (fun it ⟨q1, y, q2⟩ μ h r o => ih it.1 q1 mm it.2 y q2 μ h r o) (fs.toList.map fun f => (f.type, (cs.drop f.offset).take (P.cellsOf f.type))) (fun it hit => by
          obtain ⟨f, hf, rfl⟩ := List.mem_map.1 hit
          obtain ⟨i, hi, rfl⟩ := List.mem_iff_getElem.1 hf
          have hi' : i < fs.size := by simpa using hi
          refine ⟨hs _ (List.getElem_mem _), xs[i]'(by omega), ?_⟩
          have := hel i fs[i] (Array.getElem?_eq_getElem hi')
          simp only [Array.getElem_toList]
          rw [this]; exact List.getElem?_eq_getElem (by omega)) μ h r o
      rw [List.length_map, Array.length_toList] at l1 l2
      rw [List.map_map] at v1
      have := offs_flatten P cs fs.toList 0 (P.cellsOf t) hoff hcl
      rw [show ((fun x : TypeId × List Value => x.2) ∘ fun f : Field => (f.type, (cs.drop f.offset).take (P.cellsOf f.type))) = fun f : Field => (cs.drop f.offset).take (P.cellsOf f.type) from rfl, this, List.drop_zero] at v1
      refine ⟨μ1, h1, _, .agg pds, g1, v1, .struct ht l1 l2 fun i f a d q0 q1 q2 => ?_⟩
      exact (e1 i (f.type, _) a d (by rw [List.getElem?_map, Array.getElem?_toList, q0]; rfl) q1 q2).1
    · cases hs
end
end Go.Proofs.Ytgeakkmpohjohaa.Cl

/- The clean machine: from what holds of a law in it to what the law's calls return. No claim is stated here. -/
set_option linter.unusedVariables false
set_option linter.unusedSimpArgs false
namespace Go.Proofs.Ytgeakkmpohjohaa.Cl
open Go Go.RowKit
section
variable {H' : Type} {enc : TypeId × Value → H'} {P : Program} {W : World}
theorem VRs.head {μ h c d} (v : VRs μ h [c] [d]) : VR μ h c d := by
  simp only [VRs] at v
  obtain ⟨d', ds, e, h1, h2⟩ := v
  cases e; exact h1
/-- An argument of a type, out of its cells. -/
def argV (P : Program) (t : TypeId) (as : List AVal) : AVal := match P.underlying t with
  | some (.struct _) => .agg as
  | some (.array _ _) => .agg as
  | _ => as.headD .undef
def ArgIs (P : Program) (h : H) (t : TypeId) (a : AVal) : Prop := ∃ as pd, Den P h t as pd ∧ a = argV P t as
theorem opens_args (m : Nat) {W0 : World} {r0 : Reach} {b0 : Nat} : ∀ (ts : List TypeId), (ts.all (simpleT P m)) = true → ∀ (vs : List Value) (ds : List (DataW H')) ps, (∀ (j : Nat) t v, ts[j]? = some t → vs[j]? = some v → Value.okWide P W0 r0 b0 t v) → DataW.TrodAll enc P W 0 (fun _ => true) true ts vs ds ps →
    ∀ μ h, Rel μ h W → RoOnly h → ∃ (μ' : Mu) (h' : H) (as : List AVal), Grow W μ h μ' h' ∧ VRs μ' h' as vs ∧ as.length = ts.length ∧ ∀ (i : Nat) t a, ts[i]? = some t → as[i]? = some a → ArgIs P h' t a
  | [], _, vs, ds, ps, _, ht, μ, h, r, o => by
    cases vs with
    | nil => exact ⟨μ, h, [], Grow.refl r o, VRs.nil, rfl, fun i t a e => by simp at e⟩
    | cons v vs => cases ds <;> exact ht.elim
  | t :: ts, hs, vs, ds, ps, hok, ht, μ, h, r, o => by
    cases vs with
    | nil => cases ds <;> exact ht.elim
    | cons v vs =>
      cases ds with
      | nil => exact ht.elim
      | cons d ds =>
        obtain ⟨p, q, ⟨fuel, h1⟩, h2, rfl⟩ := ht
        rw [List.all_cons, Bool.and_eq_true] at hs
        obtain ⟨μ1, h1', as, pd, g1, v1, d1⟩ := opens rfl m t hs.1 fuel _ _ h1 μ h r o
        obtain ⟨μ2, h2', as2, g2, v2, l2, e2⟩ := opens_args m ts hs.2 vs ds q (fun j t v a b => hok (j + 1) t v (by simpa using a) (by simpa using b)) h2 μ1 h1' g1.rel g1.ro
        have hv : VR μ1 h1' (argV P t as) v := by
          have ho := hok 0 t v rfl rfl
          unfold Value.okWide at ho
          unfold argV
          split at ho
          · next fs hu =>
            obtain ⟨cs, rfl, _, _⟩ := ho
            rw [hu]
            simp only [VR]
            exact ⟨cs, rfl, v1, by rw [List.all_eq_true]; exact d1.cells⟩
          · next n e hu =>
            obtain ⟨cs, rfl, _, _⟩ := ho
            rw [hu]
            simp only [VR]
            exact ⟨cs, rfl, v1, by rw [List.all_eq_true]; exact d1.cells⟩
          · next n1 n2 =>
            have key : (∃ k, P.underlying t = some (.int k)) ∨ P.underlying t = some .bool ∨ (∃ e, P.underlying t = some (.slice e)) → v.cells.toList = [v] := by
              intro hu
              cases v <;> first
                | rfl
                | (exfalso
                   rcases hu with ⟨k, hu⟩ | hu | ⟨e, hu⟩ <;> (unfold Cell.okWide Cell.ok at ho; rw [hu] at ho; simp at ho))
            cases d1 with
            | int hu hw => rw [key (.inl ⟨_, hu⟩)] at v1; rw [hu]; exact VRs.head v1
            | bool hu => rw [key (.inr (.inl hu))] at v1; rw [hu]; exact VRs.head v1
            | arr hu => exact absurd hu (n2 _ _)
            | struct hu => exact absurd hu (n1 _)
            | sl hu => rw [key (.inr (.inr ⟨_, hu⟩))] at v1; rw [hu]; exact VRs.head v1
        refine ⟨μ2, h2', argV P t as :: as2, g1.trans g2, VRs.cons (VR.step g2.step hv) v2, by simp [l2], fun i t' a x1 x2 => ?_⟩
        cases i with
        | zero =>
          simp at x1 x2
          subst x1 x2
          exact ⟨as, pd, d1.ext g2.ext, rfl⟩
        | succ i => exact e2 i t' a (by simpa using x1) (by simpa using x2)
theorem mine_ro {μ : Mu} {h : H} (o : RoOnly h) (b : Nat) : ¬ Mine μ h b := by
  rintro ⟨i, t, m, e, h1, _⟩
  unfold inf at e
  split at e
  · next h2 => obtain ⟨_, h⟩ := o i _ h2; cases h
  · next h2 => cases e; exact h1.1 rfl
  · next h2 => obtain ⟨_, h⟩ := o i _ h2; cases h
  · next h2 => obtain ⟨_, h⟩ := o i _ h2; cases h
  · cases e
theorem rel_nil (μ : Mu) (W : World) : Rel μ [] W :=
  ⟨fun o cs e => by simp at e, fun o cs e => by simp at e, fun o es e => by simp at e, fun o o' t m t' m' e => by simp [inf] at e⟩
theorem law_calls {f : Nat} {ts : List TypeId} (m : Nat) (hs : ts.all (simpleT P m) = true)
    (hlaw : ∀ (h : H) (as : List AVal), as.length = ts.length → (∀ (i : Nat) t a, ts[i]? = some t → as[i]? = some a → ArgIs P h t a) → callB (Sat P) f as h fun b _ => b = true)
    {args : Array Value} {ds : List (DataW H')} {ps : List MemPlace} {r0 : Reach} {b0 : Nat} (hok : ∀ (j : Nat) t v, ts[j]? = some t → args[j]? = some v → Value.okWide P W r0 b0 t v) (ht : DataW.TrodAll enc P W 0 (fun _ => true) true ts args.toList ds ps) :
    Calls P f args W fun e W' => e = .returned (.bool true) ∧ Below W.heap.size W W' := by
  obtain ⟨μ, h, as, g, v, l, ha⟩ := opens_args (P := P) (W := W) (enc := enc) m ts hs args.toList ds ps (fun j t v a b => hok j t v a (by simpa using b)) ht (fun _ => ⟨0, 0, 0⟩) [] (rel_nil _ _) (fun o v e => by simp at e)
  obtain ⟨b, h', hsat, rfl⟩ := hlaw h as l ha
  refine (hsat.2 μ W args.toList g.rel v).mono fun e W' ⟨x, μ', he, tr, hx⟩ => ?_
  simp only [VR] at hx
  subst hx
  exact ⟨he, tr.keep.os, tr.keep.tape, tr.keep.output, tr.keep.size, fun k hk => tr.keep.block k hk (mine_ro g.ro k)⟩
theorem sameAt_below {W' : World} (b : Below W.heap.size W W') {p : MemPlace} (hp : p.block < W.heap.size) : W.sameAt W' p := by
  cases p with
  | cell c off =>
    show W'.cell? _ = W.cell? _
    unfold World.cell?
    rw [b.block c hp]
  | map c => exact b.block c hp
/-- The arguments read behind the call as they read before. -/
theorem args_stay (hl : laidOutB P = true) (hm : mapsRowed P = true) (hsl : ((List.range P.types.size).all fun t => match P.underlying t with | some (.slice e) => decide (0 < P.cellsOf e) | _ => true) = true) {W' : World} (b : Below W.heap.size W W') :
    ∀ {ts : List TypeId} {vs : List Value} {ds : List (DataW H')} {ps : List MemPlace}, (∀ t ∈ ts, t < P.types.size) → DataW.TrodAll enc P W 0 (fun _ => true) true ts vs ds ps → DataW.TrodAll enc P W' 0 (fun b => decide (b < W.heap.size)) true ts vs ds ps
  | [], [], [], ps, _, h => h
  | t :: ts, v :: vs, d :: ds, ps, ht, ⟨p, q, ⟨n, h1⟩, h2, e⟩ => by
    have hlt := DataW.trod_lt n _ _ _ h1
    exact ⟨p, q, ⟨n, DataW.trod_stays (kids_rows hl hm) (fun ht hu => slices_full_of P hsl _ _ ht hu) (fun e => by cases e) (ht t (by simp)) h1 (fun p hp => sameAt_below b (hlt p hp)) (fun p hp => decide_eq_true (hlt p hp))⟩, args_stay hl hm hsl b (fun t h => ht t (by simp [h])) h2, e⟩
theorem lt_of_all {ts : List TypeId} (h : (ts.all fun t => decide (t < P.types.size)) = true) : ∀ t ∈ ts, t < P.types.size := fun t ht => by
  simpa using List.all_eq_true.1 h t ht
end
end Go.Proofs.Ytgeakkmpohjohaa.Cl
