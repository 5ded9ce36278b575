/- The clean machine: what writes and makes memory. No claim is stated here. -/
import Derived.Test.YtdmhchgaeepdmaaClC
set_option linter.unusedVariables false
set_option linter.unusedSimpArgs false
namespace Go.Proofs.Ytdmhchgaeepdmaa.Cl
open Go
section
variable {P : Program} {T : Tab} {μ : Mu} {h : H} {w : World}

/-! ### stores -/
theorem splice_one (cs : List AVal) (k : Nat) (v : AVal) (hk : k < cs.length) : splice cs k [v] = cs.set k v := by
  unfold splice
  apply List.ext_getElem?
  intro i
  rw [List.append_assoc, List.getElem?_append, List.getElem?_set]
  have ht : (cs.take k).length = k := by simp; omega
  rw [ht]
  by_cases h1 : i < k
  · rw [if_pos h1, List.getElem?_take, if_pos h1, if_neg (by omega)]
  · rw [if_neg h1]
    by_cases h2 : k = i
    · subst h2; simp [hk]
    · rw [if_neg h2, List.getElem?_append, if_neg (by simp; omega), List.getElem?_drop]
      congr 1
      simp
      omega
theorem put1_N {p : Pt} {v : AVal} {h' : H} (e : put1 h p v = some h') : putN h p.o p.n p.off [v] = some h' := by
  unfold put1 at e
  unfold putN
  split at e
  · next o ho =>
    simp only [Option.bind_eq_some_iff] at e ⊢
    obtain ⟨cs, h1, h2⟩ := e
    refine ⟨cs, h1, ?_⟩
    split at h2 <;> cases h2
    next hl => rw [splice_one _ _ _ hl]; simp; omega
  · cases e
theorem run_storeVar {t i} (hi : P.info? t = some i) {v : Value} (hs : v.cells.size = i.size) (a : Addr) :
    (storeVar t a v).run P w = (storeCells a v.cells.toList 0).run P w := by
  simp [storeVar, run_sizeOf hi, hs]
theorem store_cells (r : Rel μ h w) {p : Pt} {x : Value} (hp : PR μ h p x) {vs : List AVal} {ds : List Value} (hd : VRs μ h vs ds) (hall : vs.all AVal.isCell = true) {h' : H}
    (e : putN h p.o p.n p.off vs = some h') : ∃ a w', x = .pointer (some a) ∧ (storeCells a ds 0).run P w = .ok () w' ∧ Tr μ h w μ h' w' := by
  unfold PR at hp
  cases ho : p.o with
  | none => rw [ho] at e; simp [putN] at e
  | some o =>
    rw [ho] at hp e
    obtain ⟨_, a, rfl, hp⟩ := hp
    obtain ⟨h1, h2, h3, h4, h5⟩ := Tr.putN r e hd hall
    obtain rfl := (hp _ _ h1).2 rfl
    refine ⟨_, _, rfl, ?_, h5⟩
    exact run_storeCells_cells (P := P) (μ o).b ((μ o).off + p.off) ds 0 w (fun j hj => by have := (h3 j hj).1; simp only [place] at this; rwa [Nat.add_zero, Nat.add_assoc])
      (fun j hj => by have := (h3 j hj).2; simp only [place] at this; rwa [Nat.add_zero, Nat.add_assoc]) h4
theorem cells_of_isCell {v : AVal} {x : Value} (hv : VR μ h v x) (hc : v.isCell = true) : x.cells = #[x] := by
  have := hv.cell hc
  cases x <;> simp_all [Value.oneCell', Value.cells]
theorem isAggT_row (hT : TOK P T) {t} (hk : (tget T t).d ≠ .other) (e : isAggT T t = true) : ∃ th : Told P T t, isRowD th.d = true := by
  obtain ⟨th⟩ := hT.told t hk
  refine ⟨th, ?_⟩
  unfold isAggT at e
  split at e
  · next e2 => rw [tdOf_arr (P := P) (d := th.d) (by rw [← th.td, e2])]; rfl
  · next e2 => obtain ⟨fs, hu, _⟩ := tdOf_struct (P := P) (d := th.d) (by rw [← th.td, e2]); rw [hu]; rfl
  · cases e
theorem stT_sound (hT : TOK P T) (r : Rel μ h w) {t p x v x' K} (hp : PR μ h p x) (hv : VR μ h v x') (H : stT T t p v h K) :
    ∃ w' h', (Instr.storeAt t x x').run P w = .ok () w' ∧ K h' ∧ Tr μ h w μ h' w' := by
  unfold stT at H
  cases hA : isAggT T t with
  | true =>
    rw [hA] at H
    simp only [cond_true] at H
    have hk : (tget T t).d ≠ .other := fun e => by unfold isAggT at hA; rw [e] at hA; cases hA
    obtain ⟨th⟩ := hT.told t hk
    split at H
    · next cs =>
      obtain ⟨h', hl, he, hK⟩ := H
      simp only [VR] at hv
      obtain ⟨ds, rfl, hds, hall⟩ := hv
      obtain ⟨a, w', rfl, h1, h2⟩ := store_cells (P := P) r hp hds hall he
      refine ⟨w', h', ?_, hK, h2⟩
      have hs : (Value.agg ds).cells.size = th.i.size := by
        rw [← th.size, ← hl, ← hds.len]; simp [Value.cells]
      simp only [Instr.storeAt, Instr.sureAddr, Sem.run_bind, Sem.run_pure, Result.andThen_ok, run_storeVar th.hi hs]
      exact h1
    · exact H.elim
  | false =>
    rw [hA] at H
    simp only [cond_false] at H
    cases hb : (v.isCell && (tget T t).size == 1) with
    | false => rw [hb] at H; exact H.elim
    | true =>
      rw [hb] at H
      simp only [cond_true] at H
      rw [Bool.and_eq_true] at hb
      obtain ⟨hc, hs⟩ := hb
      have hs : (tget T t).size = 1 := by simpa using hs
      obtain ⟨th⟩ := hT.toldS t (by omega)
      obtain ⟨h', he, hK⟩ := H
      obtain ⟨a, w', rfl, h1, h2⟩ := store_cells (P := P) r hp (vs := [v]) (ds := [x']) (VRs.cons hv VRs.nil) (by simp [hc]) (put1_N he)
      refine ⟨w', h', ?_, hK, h2⟩
      have hcs := cells_of_isCell hv hc
      have hs' : x'.cells.size = th.i.size := by rw [hcs, ← th.size, hs]; rfl
      simp only [Instr.storeAt, Instr.sureAddr, Sem.run_bind, Sem.run_pure, Result.andThen_ok, run_storeVar th.hi hs', hcs]
      exact h1

/-! ### new objects -/
theorem run_newRow (e : TypeId) (c : Array Value) : (newRow e c).run P w = .ok ⟨w.heap.size, 0, none⟩ (w.alloc (.cells c e)) := rfl
theorem newPt_PR (c : Nat) (x : List AVal) : PR (μ.upd h.length ⟨w.heap.size, 0, c⟩) (h ++ [.own x]) ⟨some h.length, x.length, 0⟩ (.pointer (some ⟨w.heap.size, 0, none⟩)) := by
  refine ⟨by unfold inf; simp, _, rfl, fun t m e => ?_⟩
  unfold inf at e
  simp at e
  refine ⟨by simp; omega, fun _ => ?_⟩
  rw [upd_self]
  rfl
theorem alloc_sound (hT : TOK P T) (r : Rel μ h w) {t} (hk : tget T t ≠ TInfo.none) : ∃ x w' μ', (Instr.alloc t true (.tuple #[])).run P w = .ok x w' ∧
    Tr μ h w μ' (h ++ [.own (tget T t).zero]) w' ∧ PR μ' (h ++ [.own (tget T t).zero]) ⟨some h.length, (tget T t).zero.length, 0⟩ x := by
  obtain ⟨th⟩ := hT.told0 t hk
  have hz : (zeroValue t).run P w = .ok th.z w := by simp [zeroValue, typeInfo, th.hi, th.hz]
  have hall : (tget T t).zero.all AVal.isCell = true := by rw [th.zero]; simpa [List.all_map] using th.zcell
  refine ⟨_, _, _, ?_, Tr.new r (tget T t).zero th.z.cells t th.z.cells.toList (by rw [th.zero]; exact cvs_VR _) hall ⟨[], by simp⟩, newPt_PR _ _⟩
  simp only [Instr.alloc, Sem.run_bind, hz, Result.andThen_ok, newVar, run_newRow, Sem.run_pure]
theorem box_sound (r : Rel μ h w) {t} {cs : List AVal} {x : Value} (hd : VRs μ h cs x.cells.toList) (hall : cs.all AVal.isCell = true) : ∃ y w' μ', (Instr.box t x).run P w = .ok y w' ∧
    Tr μ h w μ' (h ++ [.own cs]) w' ∧ PR μ' (h ++ [.own cs]) ⟨some h.length, cs.length, 0⟩ y := by
  refine ⟨_, _, _, ?_, Tr.new r cs x.cells t x.cells.toList hd hall ⟨[], by simp⟩, newPt_PR _ _⟩
  simp only [Instr.box, Sem.run_bind, Result.andThen_ok, newVar, run_newRow, Sem.run_pure]

/-! ### parts laid over zero cells -/
theorem foldl_set (cs : List Value) : ∀ (k off : Nat) (c : Array Value), off + k + cs.length ≤ c.size →
    ((cs.zipIdx k).foldl (fun a (p : Value × Nat) => a.setIfInBounds (off + p.2) p.1) c).toList = c.toList.take (off + k) ++ cs ++ c.toList.drop (off + k + cs.length) := by
  induction cs with
  | nil => intro k off c hl; simp
  | cons x cs ih =>
    intro k off c hl
    simp only [List.length_cons] at hl
    simp only [List.zipIdx_cons, List.foldl_cons]
    rw [ih (k + 1) off _ (by simp; omega)]
    have hlt : off + k < c.toList.length := by simp; omega
    rw [Array.toList_setIfInBounds]
    have e1 : (c.toList.set (off + k) x).take (off + (k + 1)) = c.toList.take (off + k) ++ [x] := by
      rw [show off + (k + 1) = off + k + 1 by omega, List.take_succ_eq_append_getElem (by simpa using hlt)]
      simp [List.take_set_of_le]
    have e2 : (c.toList.set (off + k) x).drop (off + (k + 1) + cs.length) = c.toList.drop (off + k + (cs.length + 1)) := by
      rw [List.drop_set_of_lt (by omega), show off + (k + 1) + cs.length = off + k + (cs.length + 1) by omega]
    rw [e1, e2]
    simp
theorem spl_length {Z vs : List AVal} {off k : Nat} (hv : vs.length = k) (hk : off + k ≤ Z.length) : (spl Z off k vs).length = Z.length := by simp [spl]; omega
theorem fill_sound (r : Rel μ h w) {pl : Nat → Option (Nat × Nat)} {pl' : Nat → Option (Nat × Nat)} {n : Nat} (hT : TOK P T)
    (hpl : ∀ i off t, pl i = some (off, t) → tget T t ≠ TInfo.none → pl' i = some (off, (tget T t).size)) :
    ∀ (ps : List (Nat × AVal)) (ps' : List (Nat × Value)) (Z : List AVal) (c : Array Value) (K : List AVal → Prop),
      ps.length = ps'.length → (∀ (j : Nat) i v i' v', ps[j]? = some (i, v) → ps'[j]? = some (i', v') → i' = i ∧ VR μ h v v') →
      VRs μ h Z c.toList → Z.all AVal.isCell = true → Z.length = n → fillK T pl n ps Z K →
      ∃ cs c', Instr.fill pl' c ps' = some c' ∧ K cs ∧ VRs μ h cs c'.toList ∧ cs.all AVal.isCell = true ∧ cs.length = n
  | [], [], Z, c, K, _, _, hZ, hall, hn, H => ⟨Z, c, rfl, H, hZ, hall, hn⟩
  | (i, v) :: ps, (i', v') :: ps', Z, c, K, hl, hps, hZ, hall, hn, H => by
    obtain ⟨rfl, hv⟩ := hps 0 i v i' v' rfl rfl
    unfold fillK at H
    split at H
    · exact H.elim
    · next off t ht =>
      cases hd : decide (off + (tget T t).size ≤ n) with
      | false => rw [hd] at H; exact H.elim
      | true =>
        rw [hd] at H
        simp only [cond_true] at H
        have hle : off + (tget T t).size ≤ n := by simpa using hd
        have hcz : c.size = n := by rw [← hn, ← hZ.len]; simp
        have key : ∀ (hne : tget T t ≠ TInfo.none) (vs : List AVal) (hvs : vs.length = (tget T t).size), VRs μ h vs v'.cells.toList → vs.all AVal.isCell = true → fillK T pl n ps (spl Z off (tget T t).size vs) K →
            ∃ cs c', Instr.fill pl' c ((i', v') :: ps') = some c' ∧ K cs ∧ VRs μ h cs c'.toList ∧ cs.all AVal.isCell = true ∧ cs.length = n := by
          intro hne vs hvs hVv hVa H
          have hp := hpl _ _ _ ht hne
          have hsz : v'.cells.size = (tget T t).size := by rw [← hvs, ← hVv.len]; simp
          have hfold := foldl_set v'.cells.toList 0 off c (by simp; omega)
          simp only [Nat.add_zero] at hfold
          have hcl : v'.cells.toList.length = (tget T t).size := by simp [hsz]
          rw [hcl] at hfold
          obtain ⟨cs, c', h1, h2, h3, h4, h5⟩ := fill_sound r hT hpl ps ps' (spl Z off (tget T t).size vs) (v'.cells.zipIdx.foldl (fun a (p : Value × Nat) => a.setIfInBounds (off + p.2) p.1) c) K (by simpa using hl)
            (fun j i v i' v' a b => hps (j + 1) i v i' v' (by simpa using a) (by simpa using b))
            (by
              rw [← Array.foldl_toList, Array.toList_zipIdx, hfold]
              exact ((hZ.take off).append hVv).append (hZ.drop _))
            (by
              rw [List.all_eq_true] at *
              intro x hx
              simp only [spl, List.mem_append] at hx
              rcases hx with (hx | hx) | hx
              · exact hall x (List.mem_of_mem_take hx)
              · exact hVa x hx
              · exact hall x (List.mem_of_mem_drop hx))
            (by rw [spl_length hvs (by omega), hn]) H
          refine ⟨cs, c', ?_, h2, h3, h4, h5⟩
          unfold Instr.fill
          simp only [hp]
          rw [if_neg (by simp [hsz]; omega)]
          exact h1
        cases hA : isAggT T t with
        | true =>
          rw [hA] at H
          simp only [cond_true] at H
          split at H
          · next cs =>
            simp only [VR] at hv
            obtain ⟨ds, rfl, hds, hca⟩ := hv
            exact key (fun e => by rw [isAggT, e] at hA; cases hA) cs H.1 hds hca H.2
          · exact H.elim
        | false =>
          rw [hA] at H
          simp only [cond_false] at H
          cases hb : (v.isCell && (tget T t).size == 1) with
          | false => rw [hb] at H; exact H.elim
          | true =>
            rw [hb] at H
            simp only [cond_true] at H
            rw [Bool.and_eq_true] at hb
            have hs : (tget T t).size = 1 := by simpa using hb.2
            refine key (fun e => by rw [e] at hs; cases hs) [v] (by simp [hs]) ?_ (by simp [hb.1]) (by rw [hs]; exact H)
            rw [cells_of_isCell hv hb.1]
            exact VRs.cons hv VRs.nil

theorem parts_spec {fr : Frame} {a : Act} (hf : VRs μ h fr a.tmps.toList) (hev : ∀ x, VR μ h (ev fr x) (a.eval x)) (ps : Array (Nat × Operand)) :
    (parts ps fr).length = (ps.map fun (p : Nat × Operand) => (p.1, a.eval p.2)).toList.length ∧
    ∀ (j : Nat) i v i' v', (parts ps fr)[j]? = some (i, v) → (ps.map fun (p : Nat × Operand) => (p.1, a.eval p.2)).toList[j]? = some (i', v') → i' = i ∧ VR μ h v v' := by
  refine ⟨by simp [parts], fun j i v i' v' h1 h2 => ?_⟩
  simp only [parts, List.getElem?_map, Array.toList_map] at h1 h2
  cases hq : ps.toList[j]? with
  | none => rw [hq] at h1; cases h1
  | some q =>
    rw [hq] at h1 h2
    simp at h1 h2
    obtain ⟨rfl, rfl⟩ := h1
    obtain ⟨rfl, rfl⟩ := h2
    exact ⟨rfl, hev _⟩
theorem all_zero {t : Nat} (th : Told P T t) : (tget T t).zero.all AVal.isCell = true := by rw [th.zero]; simpa [List.all_map] using th.zcell
theorem zero_VRs {t : Nat} (th : Told P T t) : VRs μ h (tget T t).zero th.z.cells.toList := by rw [th.zero]; exact cvs_VR _
theorem zero_len {t : Nat} (th : Told P T t) : (tget T t).zero.length = (tget T t).size := by rw [th.zero, th.size, ← th.zsize]; simp
theorem run_zero {t : Nat} (th : Told P T t) : (zeroValue t).run P w = .ok th.z w := by simp [zeroValue, typeInfo, th.hi, th.hz]
theorem flatten_rep_length (n : Nat) (z : List AVal) : (List.replicate n z).flatten.length = n * z.length := by simp
theorem rep_get {α : Type} (z : List α) : ∀ (n i : Nat), i < n * z.length → (List.replicate n z).flatten[i]? = z[i % z.length]?
  | 0, i, h => by simp at h
  | n + 1, i, h => by
    rw [List.replicate_succ, List.flatten_cons, List.getElem?_append]
    split
    · next hl => rw [Nat.mod_eq_of_lt hl]
    · next hl =>
      rw [Nat.succ_mul] at h
      rw [rep_get z n (i - z.length) (by omega)]
      congr 1
      have : 0 < z.length := by
        rcases Nat.eq_zero_or_pos z.length with e | e
        · rw [e] at h; omega
        · exact e
      conv => rhs; rw [show i = (i - z.length) + z.length by omega, Nat.add_mod_right]
theorem zeros_get (z : Array Value) (n i : Nat) (hz : 0 < z.size) : ((Array.range n).map (z[· % z.size]!)).toList[i]? = if i < n then z.toList[i % z.size]? else none := by
  simp only [Array.toList_map, List.getElem?_map, Array.toList_range]
  by_cases hi : i < n
  · rw [if_pos hi, List.getElem?_range hi]
    have : i % z.size < z.size := Nat.mod_lt _ hz
    simp [this]
  · rw [if_neg hi, List.getElem?_eq_none (by simp; omega)]; rfl
theorem zeros_VRs {t : Nat} (th : Told P T t) (hs : 0 < (tget T t).size) (n : Nat) :
    VRs μ h (List.replicate n (tget T t).zero).flatten ((Array.range (n * (tget T t).size)).map (th.z.cells[· % th.z.cells.size]!)).toList := by
  have hzl : (tget T t).zero.length = (tget T t).size := zero_len th
  have hzs : th.z.cells.size = (tget T t).size := by rw [th.zsize, th.size]
  refine VRs.mk (by simp [hzl]) fun i v d h1 h2 => ?_
  rw [zeros_get _ _ _ (by omega)] at h2
  split at h2
  · next hi =>
    rw [rep_get _ _ _ (by rw [hzl]; exact hi), hzl] at h1
    rw [hzs] at h2
    obtain ⟨d', h3, h4⟩ := (zero_VRs (μ := μ) (h := h) th).get h1
    rw [h2] at h3
    cases h3
    exact h4
  · cases h2
theorem all_rep {z : List AVal} (hz : z.all AVal.isCell = true) (n : Nat) : (List.replicate n z).flatten.all AVal.isCell = true := by
  rw [List.all_eq_true] at *
  intro x hx
  simp only [List.mem_flatten] at hx
  obtain ⟨l, hl, hx⟩ := hx
  rw [List.mem_replicate] at hl
  exact hz x (hl.2 ▸ hx)
theorem mapM_places (fs : List Field) (w : World) (hfs : ∀ f ∈ fs, ∃ i, P.info? f.type = some i) (sz : Field → Nat) (hsz : ∀ f ∈ fs, ∀ i, P.info? f.type = some i → sz f = i.size) :
    (fs.mapM (fun f => (do pure (f.offset, ← sizeOf f.type) : Sem (Nat × Nat)))).run P w = .ok (fs.map fun f => (f.offset, sz f)) w := by
  induction fs with
  | nil => simp [List.mapM_nil]
  | cons f fs ih =>
    obtain ⟨i, hi⟩ := hfs f (by simp)
    have := ih (fun g hg => hfs g (by simp [hg])) (fun g hg => hsz g (by simp [hg]))
    rw [List.mapM_cons]
    simp only [Sem.run_bind, run_sizeOf hi, Result.andThen_ok, Sem.run_pure, this]
    simp [hsz f (by simp) i hi]
theorem build_sound (r : Rel μ h w) (hT : TOK P T) {fr : Frame} {a : Act} (hf : VRs μ h fr a.tmps.toList) (hev : ∀ x, VR μ h (ev fr x) (a.eval x)) {t : Nat} {ps : Array (Nat × Operand)} {K : List AVal → Prop}
    (H : match (tget T t).d with
      | .struct fs => fillK T (fun i => fs[i]?) (tget T t).size (parts ps fr) (tget T t).zero K
      | .arr _ e => bif decide (0 < (tget T e).size) then fillK T (fun i => some (i * (tget T e).size, e)) (tget T t).size (parts ps fr) (tget T t).zero K else False
      | _ => False) :
    ∃ cs x, (Instr.build t (ps.map fun (p : Nat × Operand) => (p.1, a.eval p.2))).run P w = .ok x w ∧ K cs ∧ VR μ h (.agg cs) x := by
  have hk : (tget T t).d ≠ .other := fun e => by rw [e] at H; exact H
  obtain ⟨th⟩ := hT.told t hk
  obtain ⟨hl, hp⟩ := parts_spec (a := a) hf hev ps
  split at H
  · next fs e =>
    obtain ⟨fs', hu, rfl, hfs⟩ := tdOf_struct (P := P) (d := th.d) (by rw [← th.td, e])
    have hfi : ∀ f ∈ fs'.toList, ∃ i, P.info? f.type = some i := fun f hf => (hfs f hf).imp fun _ h => h.1
    have hm := mapM_places (P := P) fs'.toList w hfi (fun f => ((P.info? f.type).map (·.size)).getD 0) (fun f _ i hi => by simp [hi])
    obtain ⟨cs, c', h1, h2, h3, h4, h5⟩ := fill_sound (P := P) r (pl' := fun i => (fs'.map fun f => (f.offset, ((P.info? f.type).map (·.size)).getD 0))[i]?) hT (fun i off t' he hne => by
        rw [List.getElem?_map] at he
        rw [Array.getElem?_map, ← Array.getElem?_toList]
        cases hq : fs'.toList[i]? with
        | none => rw [hq] at he; cases he
        | some f =>
          rw [hq] at he
          simp at he
          obtain ⟨rfl, rfl⟩ := he
          obtain ⟨tf⟩ := hT.told0 _ hne
          simp [tf.hi, tf.size]) _ _ _ th.z.cells _ hl hp (zero_VRs th) (all_zero th) (zero_len th) H
    refine ⟨cs, .agg c', ?_, h2, by simp only [VR]; exact ⟨_, rfl, h3, h4⟩⟩
    unfold Instr.build
    have hd := th.hd
    rw [hu] at hd
    have hmm : (fs'.mapM (fun f => (do pure (f.offset, ← sizeOf f.type) : Sem (Nat × Nat)))).run P w = .ok (fs'.map fun f => (f.offset, ((P.info? f.type).map (·.size)).getD 0)) w := by
      rw [Array.mapM_eq_mapM_toList, Sem.run_map, hm, Result.andThen_ok]
      congr 1
      apply Array.toList_inj.1
      simp
    simp only [Sem.run_bind, run_zero th, Result.andThen_ok, run_underlying hd, hmm, h1, Sem.run_pure]
  · next n e' e =>
    have hu := tdOf_arr (P := P) (d := th.d) (by rw [← th.td, e])
    have hd := th.hd
    rw [hu] at hd
    cases hz : decide (0 < (tget T e').size) with
    | false => rw [hz] at H; exact H.elim
    | true =>
    rw [hz] at H
    simp only [cond_true] at H
    obtain ⟨te⟩ := hT.toldS e' (by simpa using hz)
    have hie := te.hi
    obtain ⟨cs, c', h1, h2, h3, h4, h5⟩ := fill_sound (P := P) r (pl' := fun i => some (i * ((P.info? e').map (·.size)).getD 0, ((P.info? e').map (·.size)).getD 0)) hT (fun i off t' he hne => by
        simp at he
        obtain ⟨rfl, rfl⟩ := he
        obtain ⟨tf⟩ := hT.told0 _ hne
        simp [tf.hi, tf.size]) _ _ _ th.z.cells _ hl hp (zero_VRs th) (all_zero th) (zero_len th) H
    refine ⟨cs, .agg c', ?_, h2, by simp only [VR]; exact ⟨_, rfl, h3, h4⟩⟩
    unfold Instr.build
    simp only [hie, Option.map_some, Option.getD_some] at h1
    simp only [Sem.run_bind, run_zero th, Result.andThen_ok, run_underlying hd, run_sizeOf hie, h1, Sem.run_pure]
  · exact H.elim
end
end Go.Proofs.Ytdmhchgaeepdmaa.Cl
