/- The clean machine: numbers, comparisons, and one operation as a whole. No claim is stated here. -/
import Derived.Test.YtdmhchgaeepdmaaClE
import Derived.Laws.StructEq
set_option linter.unusedVariables false
set_option linter.unusedSimpArgs false
namespace Go.Proofs.Ytdmhchgaeepdmaa.Cl
open Go
section
variable {P : Program} {T : Tab} {μ : Mu} {h : H} {w : World}

theorem sameK_eq {a b : IntKind} (e : sameK a b = true) : a = b := by cases a <;> cases b <;> first | rfl | cases e
theorem binI_sound {op : BinOp} {k k' : IntKind} {a b : Int} {t : Nat} {x y : Operand} {K : AVal → Prop} (hk : (sameK k k' || isShift op) = true) (H : binI op k a b K) :
    ∃ v d, (do eqGuard op t x y (.int k a) (.int k' b); binOp op t (.int k a) (.int k' b) : Sem Value).run P w = .ok d w ∧ K v ∧ VR μ h v d := by
  have hg : (eqGuard op t x y (.int k a) (.int k' b)).run P w = .ok () w := by rw [eqGuard_at_int]; rfl
  simp only [Sem.run_bind, hg, Result.andThen_ok]
  cases hs : isShift op with
  | true =>
    cases op <;> simp [isShift] at hs <;> (
      obtain ⟨h1, h2⟩ := H
      refine ⟨_, _, ?_, h2, rfl⟩
      simp only [binOp, Op.shift, Sem.run_ite]
      rw [if_neg (by omega)]
      rfl)
  | false =>
    rw [hs, Bool.or_false] at hk
    obtain rfl := sameK_eq hk
    cases op <;> first
      | (simp [isShift] at hs; done)
      | (obtain ⟨h1, h2⟩ := H
         refine ⟨_, _, ?_, h2, rfl⟩
         simp only [binOp, Op.intDiv, ne_eq, not_true_eq_false, if_false, if_neg h1]
         rfl)
      | (refine ⟨_, _, ?_, H, rfl⟩
         simp only [binOp, Op.intArith, Op.intCmp, Op.intBits, bitsOp, ne_eq, not_true_eq_false, if_false]
         rfl)
theorem ints_VRs {k : IntKind} : ∀ {cs : List AVal} {l : List Int} {ds : List Value}, ints k cs = some l → VRs μ h cs ds → ds = l.map (Value.int k)
  | [], l, ds, e, r => by
    simp only [ints] at e
    cases e
    simp only [VRs] at r
    rw [r]; rfl
  | .int k' n :: cs, l, ds, e, r => by
    simp only [ints] at e
    split at e
    · next hk =>
      subst hk
      cases hq : ints k' cs with
      | none => rw [hq] at e; cases e
      | some l' =>
        rw [hq] at e
        cases e
        simp only [VRs, VR] at r
        obtain ⟨d, ds', rfl, rfl, r⟩ := r
        rw [ints_VRs hq r]; rfl
    · cases e
  | .undef :: _, _, _, e, _ => by simp [ints] at e
  | .gone :: _, _, _, e, _ => by simp [ints] at e
  | .bool _ :: _, _, _, e, _ => by simp [ints] at e
  | .str _ :: _, _, _, e, _ => by simp [ints] at e
  | .ptr _ :: _, _, _, e, _ => by simp [ints] at e
  | .sl _ :: _, _, _, e, _ => by simp [ints] at e
  | .func _ _ :: _, _, _, e, _ => by simp [ints] at e
  | .nilFunc :: _, _, _, e, _ => by simp [ints] at e
  | .map _ :: _, _, _, e, _ => by simp [ints] at e
  | .agg _ :: _, _, _, e, _ => by simp [ints] at e
  | .tuple _ :: _, _, _, e, _ => by simp [ints] at e
theorem all_range_int : ∀ (xs ys : List Int), xs.length = ys.length → ((List.range xs.length).all fun i => xs.getD i 0 == ys.getD i 0) = (xs == ys)
  | [], [], _ => rfl
  | x :: xs, y :: ys, h => by
    have ih := all_range_int xs ys (by simpa using h)
    rw [List.length_cons, List.range_succ_eq_map, List.all_cons, List.all_map]
    simp only [List.getD_cons_zero, Function.comp_def, List.getD_cons_succ, ih]
    simp [List.cons_beq_cons]
  | [], _ :: _, h => by simp at h
  | _ :: _, [], h => by simp at h
theorem run_equalIn_ints (d : Nat) (t e : TypeId) (n : Nat) (k : IntKind) (ht : P.underlying t = some (.array n e)) (he : P.underlying e = some (.int k)) (hsz : ∀ w, (sizeOf e).run P w = .ok 1 w)
    (xs ys : List Int) (hx : xs.length = n) (hy : ys.length = n) :
    (Op.equalIn (d + 2) t (.agg (xs.map (Value.int k)).toArray) (.agg (ys.map (Value.int k)).toArray)).run P w = .ok (xs == ys) w := by
  rw [← all_range_int xs ys (hx.trans hy.symm), hx, List.range_eq_range', Op.equalIn]
  simp only [Sem.run_bind, run_underlying ht, Result.andThen_ok, hsz, Std.Legacy.Range.forIn_eq_forIn_range', Std.Legacy.Range.size, Nat.sub_zero, Nat.add_sub_cancel, Nat.div_one]
  have hl : ∀ i ∈ List.range' 0 n 1, i < n := fun i hi => by simpa using (List.mem_range'_1.1 hi).2
  generalize List.range' 0 n 1 = l at hl ⊢
  induction l with
  | nil => simp
  | cons i l ih =>
    have hi : i < n := hl i (by simp)
    have px : (part e (xs.map (Value.int k)).toArray (i * 1)).run P w = .ok (.int k (xs.getD i 0)) w := by
      simp [part, isAgg, run_underlying he, List.getD, List.getElem?_eq_getElem (show i < xs.length by omega)]
    have py : (part e (ys.map (Value.int k)).toArray (i * 1)).run P w = .ok (.int k (ys.getD i 0)) w := by
      simp [part, isAgg, run_underlying he, List.getD, List.getElem?_eq_getElem (show i < ys.length by omega)]
    have pe : (Op.equalIn (d + 1) e (.int k (xs.getD i 0)) (.int k (ys.getD i 0))).run P w = .ok (xs.getD i 0 == ys.getD i 0) w := run_equalIn_int w d e k k _ _ he
    simp only [List.forIn_cons, Sem.run_bind, px, py, pe, Result.andThen_ok, List.all_cons]
    cases hb : (xs.getD i 0 == ys.getD i 0)
    · simp
    · simp only [Bool.not_true, Bool.false_eq_true, if_false, Sem.run_pure, Result.andThen_ok, Bool.true_and]
      exact ih fun j hj => hl j (by simp [hj])
theorem eqGuardType_ints {t e n k} (ht : P.underlying t = some (.array n e)) (he : P.underlying e = some (.int k)) : P.eqGuardType P.depth t = false := by
  obtain ⟨m, hm⟩ : ∃ m, P.depth = m + 2 := ⟨2 * (P.types.size + Made.depth), rfl⟩
  rw [hm]
  simp [Program.eqGuardType, ht, he]
theorem run_equalIn_snil (d : Nat) (t e : TypeId) (a : Option Addr) (l c : Nat) (hd : P.underlying t = some (.slice e)) : (Op.equalIn (d + 1) t (.slice a l c) (.slice none 0 0)).run P w = .ok a.isNone w := by
  cases a <;> simp [Op.equalIn, run_underlying hd]
theorem run_equalIn_pnil (d : Nat) (t e : TypeId) (a : Option Addr) (hd : P.underlying t = some (.pointer e)) : (Op.equalIn (d + 1) t (.pointer a) (.pointer none)).run P w = .ok a.isNone w := by
  cases a <;> simp [Op.equalIn, run_underlying hd]
theorem run_eql_of {t : TypeId} {x y : Value} {r : Bool} (hx : (∃ b, x = .bool b) ∨ (∃ a b c, x = .slice a b c) ∨ ∃ a, x = .pointer a ∧ y = .pointer none) (hy : (∃ b, y = .bool b) ∨ y = .slice none 0 0 ∨ y = .pointer none)
    (e : (Op.equalIn 10000 t x y).run P w = .ok r w) :
    (binOp .eql t x y).run P w = .ok (.bool r) w ∧ (binOp .neq t x y).run P w = .ok (.bool (!r)) w := by
  have e1 : binOp .eql t x y = (Op.equalIn 10000 t x y) >>= fun r => pure (.bool r) := by
    rcases hx with ⟨b, rfl⟩ | ⟨a, b, c, rfl⟩ | ⟨a, rfl, hya⟩ <;> rcases hy with ⟨b', rfl⟩ | rfl | rfl <;> first | rfl | cases hya
  have e2 : binOp .neq t x y = (Op.equalIn 10000 t x y) >>= fun r => pure (.bool (!r)) := by
    rcases hx with ⟨b, rfl⟩ | ⟨a, b, c, rfl⟩ | ⟨a, rfl, hya⟩ <;> rcases hy with ⟨b', rfl⟩ | rfl | rfl <;> first | rfl | cases hya
  rw [e1, e2, Sem.run_bind, Sem.run_bind, e]
  exact ⟨rfl, rfl⟩
theorem binK_sound (hT : TOK P T) {op : BinOp} {t : Nat} {x y : AVal} {x' y' : Value} {ox oy : Operand} {yc : Bool} (hx : VR μ h x x') (hy : VR μ h y y') {K : AVal → Prop} (H : binK T op t x y yc K) :
    ∃ v d, (do eqGuard op t ox oy x' y'; binOp op t x' y' : Sem Value).run P w = .ok d w ∧ K v ∧ VR μ h v d := by
  unfold binK at H
  split at H
  · next k a k' b =>
    simp only [VR] at hx hy
    subst hx hy
    cases hk : (sameK k k' || isShift op) with
    | false => rw [hk] at H; exact H.elim
    | true => rw [hk] at H; exact binI_sound hk H
  · next a b =>
    simp only [VR] at hx hy
    subst hx hy
    have hg : (eqGuard op t ox oy (.bool a) (.bool b)).run P w = .ok () w := by rw [eqGuard_at_bool]; rfl
    simp only [Sem.run_bind, hg, Result.andThen_ok]
    have main : (tget T t).d = .bool → (Op.equalIn 10000 t (.bool a) (.bool b)).run P w = .ok (a == b) w := fun e => by
      obtain ⟨th⟩ := hT.told t (by rw [e]; simp)
      have hu := tdOf_bool (P := P) (d := th.d) (by rw [← th.td, e])
      have hd := th.hd
      rw [hu] at hd
      exact run_equalIn_bool' w 9999 t a b hd
    split at H
    · next e => exact ⟨_, _, (run_eql_of (.inl ⟨_, rfl⟩) (.inl ⟨_, rfl⟩) (main e)).1, H, rfl⟩
    · next e => exact ⟨_, _, (run_eql_of (.inl ⟨_, rfl⟩) (.inl ⟨_, rfl⟩) (main e)).2, H, rfl⟩
    · exact H.elim
  · next a b =>
    simp only [VR] at hx hy
    subst hx hy
    have hg : (eqGuard op t ox oy (.string a) (.string b)).run P w = .ok () w := by cases op <;> rfl
    simp only [Sem.run_bind, hg, Result.andThen_ok]
    split at H
    · refine ⟨_, _, ?_, H, rfl⟩
      rw [beq_toListBytes]
      rfl
    · refine ⟨_, _, ?_, H, rfl⟩
      rw [bne, beq_toListBytes]
      rfl
    · exact H.elim
  · next a b =>
    simp only [VR] at hx hy
    cases hb : (yc && b.o.isNone) with
    | false => rw [hb] at H; exact H.elim
    | true =>
      rw [hb] at H
      simp only [cond_true] at H
      rw [Bool.and_eq_true] at hb
      have hbo : b.o = none := by simpa using hb.2
      have hy' : y' = .slice none 0 0 := by unfold SR at hy; rw [hbo] at hy; exact hy.2
      subst hy'
      have ha : ∃ p l c, x' = .slice p l c ∧ p.isNone = isNilS a := by
        unfold SR at hx
        unfold isNilS
        split at hx
        · next e => obtain ⟨_, rfl⟩ := hx; exact ⟨_, _, _, rfl, by rw [e]; rfl⟩
        · next e => obtain ⟨_, _, p, c, rfl, _⟩ := hx; exact ⟨_, _, _, rfl, by rw [e]; rfl⟩
      obtain ⟨p, l, c, rfl, hp⟩ := ha
      have hg : (eqGuard op t ox oy (.slice p l c) (.slice none 0 0)).run P w = .ok () w := by cases op <;> rfl
      simp only [Sem.run_bind, hg, Result.andThen_ok]
      have main : ∀ e, (tget T t).d = .sl e → (Op.equalIn 10000 t (.slice p l c) (.slice none 0 0)).run P w = .ok (isNilS a) w := fun e he => by
        obtain ⟨th⟩ := hT.told t (by rw [he]; simp)
        have hu := tdOf_sl (P := P) (d := th.d) (by rw [← th.td, he])
        have hd := th.hd
        rw [hu] at hd
        rw [← hp]
        exact run_equalIn_snil 9999 t e p l c hd
      split at H
      · next e => exact ⟨_, _, (run_eql_of (.inr (.inl ⟨_, _, _, rfl⟩)) (.inr (.inl rfl)) (main _ e)).1, H, rfl⟩
      · next e => exact ⟨_, _, (run_eql_of (.inr (.inl ⟨_, _, _, rfl⟩)) (.inr (.inl rfl)) (main _ e)).2, H, rfl⟩
      · exact H.elim
  · next a b =>
    simp only [VR] at hx hy
    cases hb : (yc && b.o.isNone) with
    | false => rw [hb] at H; exact H.elim
    | true =>
      rw [hb] at H
      simp only [cond_true] at H
      rw [Bool.and_eq_true] at hb
      have hbo : b.o = none := by simpa using hb.2
      have hy' : y' = .pointer none := by unfold PR at hy; rw [hbo] at hy; exact hy
      subst hy'
      have ha : ∃ p, x' = .pointer p ∧ p.isNone = isNilP a := by
        unfold PR at hx
        unfold isNilP
        split at hx
        · next e => subst hx; exact ⟨_, rfl, by rw [e]; rfl⟩
        · next e => obtain ⟨_, p, rfl, _⟩ := hx; exact ⟨_, rfl, by rw [e]; rfl⟩
      obtain ⟨p, rfl, hp⟩ := ha
      have hg : (eqGuard op t ox oy (.pointer p) (.pointer none)).run P w = .ok () w := by cases op <;> rfl
      simp only [Sem.run_bind, hg, Result.andThen_ok]
      have main : (tget T t).d = .ptr → (Op.equalIn 10000 t (.pointer p) (.pointer none)).run P w = .ok (isNilP a) w := fun he => by
        obtain ⟨th⟩ := hT.told t (by rw [he]; simp)
        obtain ⟨u, hu⟩ := tdOf_ptr (P := P) (d := th.d) (by rw [← th.td, he])
        have hd := th.hd
        rw [hu] at hd
        rw [← hp]
        exact run_equalIn_pnil 9999 t u p hd
      split at H
      · next e => exact ⟨_, _, (run_eql_of (.inr (.inr ⟨_, rfl, rfl⟩)) (.inr (.inr rfl)) (main e)).1, H, rfl⟩
      · next e => exact ⟨_, _, (run_eql_of (.inr (.inr ⟨_, rfl, rfl⟩)) (.inr (.inr rfl)) (main e)).2, H, rfl⟩
      · exact H.elim
  · next a b =>
    simp only [VR] at hx hy
    obtain ⟨dx, rfl, hx, _⟩ := hx
    obtain ⟨dy, rfl, hy, _⟩ := hy
    have main : ∀ k n, intArr T t = some (k, n) → ∀ l m, ints k a = some l → ints k b = some m → l.length = n → m.length = n →
        (eqGuard op t ox oy (.agg dx) (.agg dy)).run P w = .ok () w ∧ (Op.equalIn 10000 t (.agg dx) (.agg dy)).run P w = .ok (l == m) w := by
      intro k n hI l m hl hm hln hmn
      unfold intArr at hI
      split at hI
      · next n' e he =>
        obtain ⟨th⟩ := hT.told t (by rw [he]; simp)
        have hu := tdOf_arr (P := P) (d := th.d) (by rw [← th.td, he])
        have hd := th.hd
        rw [hu] at hd
        split at hI
        · next k' hk =>
          cases hz : ((tget T e).size == 1) with
          | false => rw [hz] at hI; cases hI
          | true =>
          rw [hz] at hI
          cases hI
          obtain ⟨te⟩ := hT.told e (by rw [hk]; simp)
          have hue := tdOf_int (P := P) (d := te.d) (by rw [← te.td, hk])
          have hde := te.hd
          rw [hue] at hde
          refine ⟨run_eqGuard_agg w op t ox oy dx dy (eqGuardType_ints hd hde), ?_⟩
          have e1 := ints_VRs hl hx
          have e2 := ints_VRs hm hy
          have e1 : dx = (l.map (Value.int k)).toArray := by rw [← e1]
          have e2 : dy = (m.map (Value.int k)).toArray := by rw [← e2]
          rw [e1, e2]
          have hs1 : te.i.size = 1 := by rw [← te.size]; simpa using hz
          exact run_equalIn_ints 9998 t e n k hd hde (fun w => by rw [run_sizeOf te.hi, hs1]) l m hln hmn
        · cases hI
      · cases hI
    split at H
    · next k n hI =>
      obtain ⟨l, m, hl, hm, hln, hmn, hK⟩ := H
      obtain ⟨h1, h2⟩ := main k n hI l m hl hm hln hmn
      refine ⟨_, .bool (l == m), ?_, hK, rfl⟩
      simp only [Sem.run_bind, h1, Result.andThen_ok, run_eql_struct, h2]
    · next k n hI =>
      obtain ⟨l, m, hl, hm, hln, hmn, hK⟩ := H
      obtain ⟨h1, h2⟩ := main k n hI l m hl hm hln hmn
      refine ⟨_, .bool (!(l == m)), ?_, hK, rfl⟩
      simp only [Sem.run_bind, h1, Result.andThen_ok, run_neq_struct, h2]
    · exact H.elim
  · exact H.elim

/-! ### parts of values -/
theorem exT_sound {t : Nat} {vs : List AVal} {i : Nat} {K : AVal → Prop} (H : exT T t vs i K) : ∃ v, vs[i]? = some v ∧ K v := by
  unfold exT at H
  split at H <;> (obtain ⟨n, h1, h2⟩ := H; exact ⟨_, h1, h2⟩)
theorem extract_sound {t : Nat} {vs : List AVal} {x : Value} (hx : VR μ h (.tuple vs) x) {i : Nat} {K : AVal → Prop} (H : exT T t vs i K) :
    ∃ v d, (Instr.extract x i).run P w = .ok d w ∧ K v ∧ VR μ h v d := by
  simp only [VR] at hx
  obtain ⟨ds, rfl, hx⟩ := hx
  obtain ⟨v, h1, h2⟩ := exT_sound H
  obtain ⟨d, h3, h4⟩ := hx.get h1
  rw [Array.getElem?_toList] at h3
  refine ⟨v, d, ?_, h2, h4⟩
  simp only [Instr.extract, h3]
  rfl
theorem partT_sound (hT : TOK P T) {t : Nat} {cs : List AVal} {ds : List Value} (hx : VRs μ h cs ds) (hall : cs.all AVal.isCell = true) {i : Int} {K : AVal → Prop} (H : partT T t cs i K) :
    0 ≤ i ∧ ∃ v d, (part t ds.toArray i.toNat).run P w = .ok d w ∧ K v ∧ VR μ h v d := by
  have cellcase : ∀ {d v}, P.underlying t = some d → isRowD d = false → cs[i.toNat]? = some v → K v → ∃ v d, (part t ds.toArray i.toNat).run P w = .ok d w ∧ K v ∧ VR μ h v d := by
    intro d v hd hr hv hK
    obtain ⟨d', h3, h4⟩ := hx.get hv
    refine ⟨v, d', ?_, hK, h4⟩
    unfold part
    simp only [Sem.run_bind, run_isAgg hd, hr, Result.andThen_ok, Bool.false_eq_true, if_false, List.getElem?_toArray, h3, Sem.run_pure]
  have rowcase : ∀ (th : Told P T t), isRowD th.d = true → i.toNat + (tget T t).size ≤ cs.length → K (.agg ((cs.drop i.toNat).take (tget T t).size)) → ∃ v d, (part t ds.toArray i.toNat).run P w = .ok d w ∧ K v ∧ VR μ h v d := by
    intro th hr hl hK
    refine ⟨_, .agg ((ds.drop i.toNat).take (tget T t).size).toArray, ?_, hK, ?_⟩
    · unfold part
      simp only [Sem.run_bind, run_isAgg th.hd, hr, Result.andThen_ok, if_true, run_sizeOf th.hi, Sem.run_pure, th.size]
      congr 2
      apply Array.toList_inj.1
      simp [List.take_drop]
    · simp only [VR]
      refine ⟨_, rfl, (hx.drop _).take _, ?_⟩
      rw [List.all_eq_true] at *
      intro v hv
      exact hall v (List.mem_of_mem_drop (List.mem_of_mem_take hv))
  unfold partT at H
  have told : (tget T t).d ≠ .other → Nonempty (Told P T t) := hT.told t
  split at H
  · next e =>
    obtain ⟨n, h0, h1, h2⟩ := H
    obtain ⟨th⟩ := told (by rw [e]; simp)
    exact ⟨h0, cellcase th.hd (by rw [tdOf_int (P := P) (d := th.d) (by rw [← th.td, e])]; rfl) h1 h2⟩
  · next e =>
    obtain ⟨n, h0, h1, h2⟩ := H
    obtain ⟨th⟩ := told (by rw [e]; simp)
    exact ⟨h0, cellcase th.hd (by rw [tdOf_bool (P := P) (d := th.d) (by rw [← th.td, e])]; rfl) h1 h2⟩
  · next e =>
    obtain ⟨n, h0, h1, h2⟩ := H
    obtain ⟨th⟩ := told (by rw [e]; simp)
    exact ⟨h0, cellcase th.hd (by rw [tdOf_sl (P := P) (d := th.d) (by rw [← th.td, e])]; rfl) h1 h2⟩
  · next e =>
    obtain ⟨n, h0, h1, h2⟩ := H
    obtain ⟨th⟩ := told (by rw [e]; simp)
    obtain ⟨u, hu⟩ := tdOf_ptr (P := P) (d := th.d) (by rw [← th.td, e])
    exact ⟨h0, cellcase th.hd (by rw [hu]; rfl) h1 h2⟩
  · next e =>
    obtain ⟨⟨h0, h1⟩, h2⟩ := H
    obtain ⟨th⟩ := told (by rw [e]; simp)
    exact ⟨h0, rowcase th (by rw [tdOf_arr (P := P) (d := th.d) (by rw [← th.td, e])]; rfl) h1 h2⟩
  · next e =>
    obtain ⟨⟨h0, h1⟩, h2⟩ := H
    obtain ⟨th⟩ := told (by rw [e]; simp)
    obtain ⟨fs, hu, _⟩ := tdOf_struct (P := P) (d := th.d) (by rw [← th.td, e])
    exact ⟨h0, rowcase th (by rw [hu]; rfl) h1 h2⟩
  · next e =>
    obtain ⟨n, h0, h1, h2⟩ := H
    obtain ⟨th⟩ := told (by rw [e]; simp)
    exact ⟨h0, cellcase th.hd (by rw [tdOf_str (P := P) (d := th.d) (by rw [← th.td, e])]; rfl) h1 h2⟩
  · next e =>
    obtain ⟨n, h0, h1, h2⟩ := H
    obtain ⟨th⟩ := told (by rw [e]; simp)
    obtain ⟨_, _, _, hu⟩ := tdOf_func (P := P) (d := th.d) (by rw [← th.td, e])
    exact ⟨h0, cellcase th.hd (by rw [hu]; rfl) h1 h2⟩
  · next e =>
    obtain ⟨n, h0, h1, h2⟩ := H
    obtain ⟨th⟩ := told (by rw [e]; simp)
    exact ⟨h0, cellcase th.hd (by rw [tdOf_map (P := P) (d := th.d) (by rw [← th.td, e])]; rfl) h1 h2⟩
  · exact H.elim

/-! ### one operation -/
def Post (μ : Mu) (h : H) (w : World) (K : AVal → H → Prop) (x : Value) (w' : World) : Prop := ∃ v h' μ', K v h' ∧ Tr μ h w μ' h' w' ∧ VR μ' h' v x
/-- What a call brings about. -/
def Sat (P : Program) (f : Nat) (args : List AVal) (h : H) (v : AVal) (h2 : H) : Prop :=
  (∀ (a : Array Value) (w : World), (callFunc f a).run P w = .ok (.enter f a) w) ∧
  ∀ (μ : Mu) (w : World) (ds : List Value), Rel μ h w → VRs μ h args ds → Calls P f ds.toArray w fun e w' => ∃ x μ', e = .returned x ∧ Tr μ h w μ' h2 w' ∧ VR μ' h2 v x
def OpOK (P : Program) (s : Sem Next) (w : World) (R : Value → World → Prop) : Prop :=
  match s.run P w with
  | .ok (.value v) w' => R v w'
  | .ok .skip w' => R (.tuple #[]) w'
  | .ok (.enter f args) w' => Calls P f args w' fun e w'' => ∃ v, e = .returned v ∧ R v w''
  | _ => False
theorem OpOK.val {s : Sem Value} {R : Value → World → Prop} {d w'} (e : s.run P w = .ok d w') (h : R d w') : OpOK P (do pure (.value (← s))) w R := by
  unfold OpOK
  simp only [Sem.run_bind, e, Result.andThen_ok, Sem.run_pure]
  exact h
theorem OpOK.unit {s : Sem Unit} {R : Value → World → Prop} {w'} (e : s.run P w = .ok () w') (h : R (.tuple #[]) w') : OpOK P (do s; pure .skip) w R := by
  unfold OpOK
  simp only [Sem.run_bind, e, Result.andThen_ok, Sem.run_pure]
  exact h
theorem Post.here {K : AVal → H → Prop} (r : Rel μ h w) {v x} (hK : K v h) (hv : VR μ h v x) : Post μ h w K x w := ⟨v, h, μ, hK, Tr.refl r, hv⟩
theorem ev_sound {fr : Frame} {a : Act} (hf : VRs μ h fr a.tmps.toList) (x : Operand) : VR μ h (ev fr x) (a.eval x) := by
  cases x with
  | tmp t =>
    show VR μ h (fr.getD t .undef) (a.tmps.getD t undef)
    rw [List.getD_eq_getElem?_getD]
    cases e : fr[t]? with
    | none => simp [VR]
    | some v =>
      obtain ⟨d, h1, h2⟩ := hf.get e
      rw [Array.getElem?_toList] at h1
      rw [Array.getD_eq_getD_getElem?, h1]
      exact h2
  | const v => exact cv_VR v
  | global g => simp [ev, VR]
  | func f => simp only [ev, VR]; exact ⟨#[], rfl, VRs.nil⟩
theorem callK_sound {S : SatT} {t f : Nat} {args : List AVal} {K : AVal → H → Prop} (H : callK S T t f args h K) : ∃ v h', S f args h v h' ∧ K v h' := by
  unfold callK at H
  split at H <;> (obtain ⟨v, h', h1, h2⟩ := H; exact ⟨_, h', h1, h2⟩)
theorem call_sound {S : SatT} (hS : ∀ f args h v h2, S f args h v h2 → Sat P f args h v h2) (r : Rel μ h w) {t f : Nat} {args : List AVal} {K : AVal → H → Prop} (H : callK S T t f args h K)
    {ds : List Value} (hd : VRs μ h args ds) : OpOK P (callFunc f ds.toArray) w (Post μ h w K) := by
  obtain ⟨v, h', h1, h2⟩ := callK_sound H
  obtain ⟨k1, k2⟩ := hS _ _ _ _ _ h1
  unfold OpOK
  rw [k1]
  exact (k2 μ w ds r hd).mono fun e w' ⟨x, μ', he, ht, hv⟩ => ⟨x, he, v, h', μ', h2, ht, hv⟩
theorem maps_VRs {fr : Frame} {a : Act} (hf : VRs μ h fr a.tmps.toList) (l : List Operand) : VRs μ h (l.map (ev fr)) (l.map a.eval) := by
  refine VRs.mk (by simp) fun i v d h1 h2 => ?_
  rw [List.getElem?_map] at h1 h2
  cases e : l[i]? with
  | none => rw [e] at h1; cases h1
  | some x =>
    rw [e] at h1 h2
    cases h1; cases h2
    exact ev_sound hf x
theorem foldI_sound {f : Int → Int → Int} {m2 : Value → Value → Sem Value} (hm : ∀ k a k' b, m2 (.int k a) (.int k' b) = pure (.int k (f a b))) {k : IntKind} :
    ∀ (l : List AVal) (ds : List Value) (a : Int) (K : AVal → Prop), VRs μ h l ds → foldI f k a l K → ∃ v d, (ds.foldlM m2 (.int k a)).run P w = .ok d w ∧ K v ∧ VR μ h v d
  | [], ds, a, K, hd, H => by
    simp only [VRs] at hd
    subst hd
    exact ⟨_, _, rfl, H, rfl⟩
  | .int k' b :: l, ds, a, K, hd, H => by
    simp only [VRs, VR] at hd
    obtain ⟨d, ds', rfl, rfl, hd⟩ := hd
    unfold foldI at H
    cases hk : sameK k' k with
    | false => rw [hk] at H; exact H.elim
    | true =>
      rw [hk] at H
      simp only [List.foldlM_cons, hm, pure_bind]
      exact foldI_sound hm l ds' _ K hd H
  | .undef :: _, _, _, _, _, H => by simp [foldI] at H
  | .gone :: _, _, _, _, _, H => by simp [foldI] at H
  | .bool _ :: _, _, _, _, _, H => by simp [foldI] at H
  | .str _ :: _, _, _, _, _, H => by simp [foldI] at H
  | .ptr _ :: _, _, _, _, _, H => by simp [foldI] at H
  | .sl _ :: _, _, _, _, _, H => by simp [foldI] at H
  | .func _ _ :: _, _, _, _, _, H => by simp [foldI] at H
  | .nilFunc :: _, _, _, _, _, H => by simp [foldI] at H
  | .map _ :: _, _, _, _, _, H => by simp [foldI] at H
  | .agg _ :: _, _, _, _, _, H => by simp [foldI] at H
  | .tuple _ :: _, _, _, _, _, H => by simp [foldI] at H
end
end Go.Proofs.Ytdmhchgaeepdmaa.Cl
