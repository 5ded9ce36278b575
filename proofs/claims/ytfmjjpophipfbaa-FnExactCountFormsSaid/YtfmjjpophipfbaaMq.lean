/- Tori: how the reference counts them. No claim is stated here. -/
import Derived.Test.YtfmjjpophipfbaaMk
set_option linter.unusedVariables false
set_option linter.unusedSimpArgs false
namespace Go.Proofs.Ytfmjjpophipfbaa.Cl
open Go
theorem pushI2 {h : H} {s : Sl} {l : List Int} {x : Int} (r : Ow h s 1 (ic l)) (hl : (l.length : Int) + 1 ≤ lim) {K : Sl → H → Prop}
    (hk : ∀ s' h', Ow h' s' 1 (ic (l ++ [x])) → But s.o h h' → (∀ o, s'.o = some o → s.o = some o ∨ h.length ≤ o) → K s' h') : newS 1 1 [.int .i64 x] h fun t h1 => app s t 1 h1 K := by
  refine newS_ow (by rfl) fun t h1 ot tl to e1 => ?_
  have e1' : Ext h h1 := by rw [e1]; exact Ext.app _ _
  have := e1'.len
  have hsl := r.rd.ilen
  refine app_ow (by omega) (r.ext e1') ot.rd (by rw [tl, hsl]; exact_mod_cast hl) fun s' h' o' ln b k1 k2 => hk s' h' (by rw [ic_app]; exact o') ((e1'.but _).trans b) fun o e => ?_
  cases hq : s.o with
  | none => have := k2 hq o e; exact .inr (by omega)
  | some p => rw [k1 p hq] at e; exact .inl e
theorem tab1_set {n : Nat} {f : Nat → Int} {i : Nat} {v : Int} : (tab1 n f).set i v = tab1 n fun j => if j = i then v else f j := by
  apply List.ext_getElem?
  intro j
  unfold tab1
  rw [List.getElem?_set]
  by_cases hj : j < n
  · by_cases e : i = j
    · subst e
      simp [hj]
    · rw [if_neg e, List.getElem?_map, List.getElem?_map, List.getElem?_range hj]
      simp [show ¬ j = i from fun h => e h.symm]
  · by_cases e : i = j
    · subst e
      simp [hj]
    · simp [e, hj]
theorem tab1_congr {n : Nat} {f g : Nat → Int} (h : ∀ j, j < n → f j = g j) : tab1 n f = tab1 n g := by
  unfold tab1
  exact List.map_congr_left fun j hj => h j (List.mem_range.1 hj)
theorem tab1_zero (n : Nat) : List.replicate n 0 = tab1 n fun _ => 0 := by
  unfold tab1
  induction n with
  | zero => rfl
  | succ n ih => rw [List.range_succ, List.map_append, ← ih, List.replicate_succ']; rfl
/-! ### sums -/
theorem sum_add {α : Type} (l : List α) (f g : α → Nat) : (l.map fun x => f x + g x).sum = (l.map f).sum + (l.map g).sum := by
  induction l with
  | nil => rfl
  | cons a l ih => simp only [List.map_cons, List.sum_cons, ih]; omega
theorem sum_zero {α : Type} (l : List α) : (l.map fun _ => 0).sum = 0 := by
  induction l with
  | nil => rfl
  | cons a l ih => simp only [List.map_cons, List.sum_cons, ih]
theorem sum_one {S : Nat} {t : Int} (h0 : 0 ≤ t) (h1 : t < S) (g : Int → Nat) : ((List.range S).map fun (y : Nat) => if t = (y : Int) then g y else 0).sum = g t := by
  induction S with
  | zero => omega
  | succ S ih =>
    rw [List.range_succ, List.map_append, List.sum_append, List.map_cons, List.map_nil, List.sum_cons, List.sum_nil]
    by_cases e : t = (S : Int)
    · rw [if_pos e]
      have : ((List.range S).map fun (y : Nat) => if t = (y : Int) then g y else 0) = (List.range S).map fun _ => 0 := List.map_congr_left fun y hy => by
        have := List.mem_range.1 hy
        rw [if_neg (by omega)]
      rw [this, sum_zero, e]; omega
    · rw [if_neg e, ih (by omega)]; omega
theorem sum_swap {S : Nat} {α : Type} (t : α → Int) (g : α → Int → Nat) : ∀ (l : List α), (∀ w ∈ l, 0 ≤ t w ∧ t w < S) → ((List.range S).map fun (y : Nat) => (l.map fun w => if t w = (y : Int) then g w y else 0).sum).sum = (l.map fun w => g w (t w)).sum
  | [], _ => by simp [sum_zero]
  | w :: l, h => by
    simp only [List.map_cons, List.sum_cons]
    rw [sum_add, sum_one (h w (by simp)).1 (h w (by simp)).2, sum_swap t g l fun x hx => h x (by simp [hx])]
noncomputable def cnt (c : Int) (ts : List Tile) (W n : Nat) (s x : Int) : Nat := (seqs c ts W n s x).length
theorem sel_len {α : Type} {A : Prop} [Decidable A] {l : List α} : (sel A l []).length = if A then l.length else 0 := by
  by_cases a : A
  · rw [sel_yes a, if_pos a]
  · rw [sel_no a, if_neg a]; rfl
theorem cnt_zero {c : Int} {ts : List Tile} {W : Nat} {s x : Int} : cnt c ts W 0 s x = if s = x then 1 else 0 := by unfold cnt; rw [seqs, sel_len]; rfl
theorem cnt_succ {c : Int} {ts : List Tile} {W n : Nat} {s x : Int} : cnt c ts W (n + 1) s x = ((words ts W).map fun w => if cd c ts 1 w = s then cnt c ts W n (cd c ts 3 w) x else 0).sum := by
  unfold cnt
  rw [seqs, List.length_flatMap]
  congr 1
  refine List.map_congr_left fun w _ => ?_
  rw [sel_len, List.length_map]
theorem tori_count {c : Int} {ts : List Tile} {W H : Nat} (S : Sides c ts) (hH : 1 ≤ H) {N : Nat} (hN : (N : Int) = c ^ W) : (toriL c ts W H).length = ((List.range N).map fun (y : Nat) => cnt c ts W H (y : Int) (y : Int)).sum := by
  have e : ((List.range N).map fun (y : Nat) => cnt c ts W H (y : Int) (y : Int)) = (List.range N).map fun (y : Nat) => ((words ts W).map fun w => if cd c ts 1 w = (y : Int) then (fun w (y : Int) => cnt c ts W (H - 1) (cd c ts 3 w) y) w y else 0).sum := by
    refine List.map_congr_left fun y _ => ?_
    rw [show H = (H - 1) + 1 by omega, cnt_succ]; simp
  rw [e, sum_swap (fun w => cd c ts 1 w) (fun w (y : Int) => cnt c ts W (H - 1) (cd c ts 3 w) y) (words ts W) fun w hw => by rw [hN]; exact (words_wd hw).bound S (by omega)]
  unfold toriL
  rw [List.length_flatMap]
  congr 1
  refine List.map_congr_left fun w _ => ?_
  rw [List.length_map]; rfl
theorem sum_bound {α : Type} (l : List α) (f : α → Nat) (b : Nat) (h : ∀ x ∈ l, f x ≤ b) : (l.map f).sum ≤ l.length * b := by
  induction l with
  | nil => simp
  | cons a l ih =>
    simp only [List.map_cons, List.sum_cons, List.length_cons, Nat.add_mul, Nat.one_mul]
    have := h a (by simp)
    have := ih fun x hx => h x (by simp [hx])
    omega
section
variable {c : Int} {ts : List Tile} {W : Nat}
noncomputable def psum (c : Int) (ts : List Tile) (W n : Nat) (x : Int) (i : Nat) (a : Int) : Nat := (((words ts W).take i).map fun w => if cd c ts 1 w = a then cnt c ts W n (cd c ts 3 w) x else 0).sum
theorem cnt_bound (hN : ts.length ≤ 16) (hW : W ≤ 3) : ∀ (n : Nat) (s x : Int), cnt c ts W n s x ≤ 4096 ^ n
  | 0, s, x => by rw [cnt_zero]; split <;> simp
  | n + 1, s, x => by
    rw [cnt_succ, Nat.pow_succ, Nat.mul_comm]
    refine Nat.le_trans (sum_bound _ _ (4096 ^ n) fun w _ => ?_) (Nat.mul_le_mul_right _ (rounds_small hN hW []))
    split
    · exact cnt_bound hN hW n _ _
    · exact Nat.zero_le _
theorem psum_bound (hN : ts.length ≤ 16) (hW : W ≤ 3) {n : Nat} (hn : n ≤ 2) (x : Int) (i : Nat) (a : Int) : psum c ts W n x i a ≤ 68719476736 := by
  unfold psum
  refine Nat.le_trans (sum_bound _ _ (4096 ^ n) fun w _ => ?_) (Nat.le_trans (Nat.mul_le_mul (Nat.le_trans (List.length_take_le' _ _) (rounds_small hN hW [])) (Nat.pow_le_pow_right (by omega) hn)) (by decide))
  split
  · exact cnt_bound hN hW n _ _
  · exact Nat.zero_le _
theorem psum_zero {n : Nat} {x a : Int} : psum c ts W n x 0 a = 0 := rfl
theorem psum_succ {n : Nat} {x a : Int} {i : Nat} (hi : i < (words ts W).length) : psum c ts W n x (i + 1) a = psum c ts W n x i a + if cd c ts 1 (words ts W)[i] = a then cnt c ts W n (cd c ts 3 (words ts W)[i]) x else 0 := by
  unfold psum
  rw [List.take_succ_eq_append_getElem hi, List.map_append, List.sum_append]
  simp
theorem psum_all {n : Nat} {x a : Int} : psum c ts W n x (words ts W).length a = cnt c ts W (n + 1) a x := by
  unfold psum
  rw [List.take_length, cnt_succ]
end
section
variable {h0 : H} {c : Int} {s q : Sl} {ts : List Tile} {W : Nat}
theorem l05Words_c (r : Rd h0 s 4 (tcs ts)) (hN : ts.length ≤ 16) (S : Sides c ts) (hc : c ≤ 6) (hW : 1 ≤ W ∧ W ≤ 3) :
    callV SP i_spec_l05Words [.agg (SetC c s), i64 W] h0 fun v h' => ∃ a b d, v = .tuple [.sl a, .sl b, .sl d] ∧ NewSS h0.length h' a (words ts W) ∧ Rd h' b 1 (ic ((words ts W).map (cd c ts 1))) ∧ Rd h' d 1 (ic ((words ts W).map (cd c ts 3))) ∧ Ext h0 h' := by
  apply spec_l05Words_call
  unfold spec_l05Words_main
  refine newK_obj fun h1 o1 x1 l1 => ?_
  refine o1.ldA rfl ?_
  refine newS_ow (by rfl) fun z h2 oz lz zo e2 => ?_
  have x2 : Ext h1 h2 := by rw [e2]; exact Ext.app _ _
  have l2 : h2.length = h1.length + 1 := by rw [e2]; simp
  refine (l05Rounds_c r hN hW W [] h1.length z h2 (by simp) (by simp) (x1.trans x2) oz (fun o e => by rw [zo] at e; cases e; exact Nat.le_refl _) x2.len).to ?_
  rintro a h3 ⟨na, x3⟩
  replace na : NewSS h1.length h3 a (words ts W) := na
  refine newS_ow (by rfl) fun b h4 ob lb bo e4 => ?_
  have x4 : Ext h3 h4 := by rw [e4]; exact Ext.app _ _
  refine newS_ow (by rfl) fun d h5 od ld do_ e5 => ?_
  have x5 : Ext h4 h5 := by rw [e5]; exact Ext.app _ _
  have l4 : h4.length = h3.length + 1 := by rw [e4]; simp
  have X3 := (x1.trans x2).trans x3
  have hwl : (words ts W).length ≤ 4096 := rounds_small hN hW.2 ([] : List Int)
  have hal := na.rd.len
  refine spec_l05Words_rule0 _ _ _ _ (fun b d i h => 0 ≤ i ∧ i ≤ (words ts W).length ∧ Ext h3 h ∧ Ow h b 1 (ic (((words ts W).take i.toNat).map (cd c ts 1))) ∧ Ow h d 1 (ic (((words ts W).take i.toNat).map (cd c ts 3))) ∧ Fr h3.length b ∧ Fr h3.length d ∧ (∀ o, b.o = some o → d.o ≠ some o)) (fun _ _ i _ => ((words ts W).length - i).toNat) ?_ _ _ _
    ⟨by omega, by omega, x4.trans x5, ob.ext x5, od, (fun o e => by rw [bo] at e; cases e; omega), (fun o e => by rw [do_] at e; cases e; omega), (fun o e e2 => by rw [bo] at e; rw [do_] at e2; cases e; have := Option.some.inj e2; omega)⟩
  rintro X b d i h ⟨i0, i1, x, ob, od, fb, fd, hbd⟩ hX
  unfold spec_l05Words_b0 spec_l05Words_C0
  have XX := X3.trans x
  have na' := na.ext x
  refine bif_dec (fun hi => ?_) (fun hi => ⟨a, b, d, rfl, na'.le (by omega), ?_, ?_, XX⟩)
  rotate_left
  · rw [show i.toNat = (words ts W).length by omega, List.take_length] at ob; exact ob.rd
  · rw [show i.toNat = (words ts W).length by omega, List.take_length] at od; exact od.rd
  obtain ⟨k, rfl⟩ : ∃ k : Nat, i = k := ⟨i.toNat, by omega⟩
  rw [Int.toNat_natCast] at ob od
  have hk : k < (words ts W).length := by omega
  have hrow : rw_ (words ts W) k = (words ts W)[k] := by unfold rw_; rw [List.getD_eq_getElem?_getD, List.getElem?_eq_getElem hk]; rfl
  have hwd := words_wd (List.getElem_mem hk)
  have oo := o1.ext ((x2.trans x3).trans x)
  have hb3 : ∀ {g : H}, Ext h g → h.length ≤ g.length := fun e => e.len
  refine oo.ldA rfl ?_
  refine na'.rd.ldG (by omega) (by omega) fun v rv lv => ?_
  rw [Int.toNat_natCast, hrow] at rv
  refine (l05Side_c (r.ext XX) S hc rv hwd hW.2 (k := 1) (by omega)).to ?_
  rintro _ g1 ⟨rfl, y1⟩
  refine pushI2 (ob.ext y1) (by simp; unfold lim; omega) fun b' g2 ob' bb' hb' => ?_
  have hxl := x.len
  have hy1 := y1.len
  have od1 : Ow g2 d 1 (ic (((words ts W).take k).map (cd c ts 3))) := by
    refine (od.ext y1).but bb' ?_
    cases hd : d.o with
    | none =>
      cases hb : b.o with
      | none => exact .inr rfl
      | some _ => exact .inl (by simp)
    | some o => exact .inl fun e => hbd o e hd
  have z2 : Ext h3 g2 := (x.trans y1).but_ bb' fun o e => fb o e
  have nb2 := na.ext z2
  have hg2 := bb'.1
  have oo2 := o1.ext ((x2.trans x3).trans z2)
  refine oo2.ldA rfl ?_
  refine nb2.rd.ldG (by omega) (by omega) fun v2 rv2 lv2 => ?_
  rw [Int.toNat_natCast, hrow] at rv2
  refine (l05Side_c (r.ext (X3.trans z2)) S hc rv2 hwd hW.2 (k := 3) (by omega)).to ?_
  rintro _ g3 ⟨rfl, y3⟩
  have hy3 := y3.len
  refine pushI2 (od1.ext y3) (by simp; unfold lim; omega) fun d' g4 od' bd' hd' => ?_
  have hbd' : ∀ o, b'.o = some o → d.o ≠ some o := fun o e e2 => by
    rcases hb' o e with e3 | e3
    · exact hbd o e3 e2
    · have := od.lt e2; omega
  have ob2 : Ow g4 b' 1 (ic (((words ts W).take k).map (cd c ts 1) ++ [cd c ts 1 (words ts W)[k]])) := by
    refine (ob'.ext y3).but bd' ?_
    cases hb : b'.o with
    | none =>
      cases hd : d.o with
      | none => exact .inr rfl
      | some _ => exact .inl (by simp)
    | some o => exact .inl fun e => hbd' o hb e
  rw [w64_of (by omega) (by omega)]
  refine hX _ _ _ _ ⟨by omega, by omega, (z2.trans y3).but_ bd' fun o e => fd o e, ?_, ?_, ?_, ?_, ?_⟩ (by omega)
  · rw [show ((k : Int) + 1).toNat = k + 1 by omega, List.take_succ_eq_append_getElem hk, List.map_append]; exact ob2
  · rw [show ((k : Int) + 1).toNat = k + 1 by omega, List.take_succ_eq_append_getElem hk, List.map_append]; exact od'
  · intro o e
    rcases hb' o e with e3 | e3
    · exact fb o e3
    · omega
  · intro o e
    rcases hd' o e with e3 | e3
    · exact fd o e3
    · omega
  · intro o e e2
    rcases hd' o e2 with e3 | e3
    · exact hbd' o e e3
    · have := ob'.lt e; omega
theorem mapG {l : List (List Int)} {f : List Int → Int} {i : Nat} (h : i < l.length) : (l.map f).getD i 0 = f l[i] := by
  rw [List.getD_eq_getElem?_getD, List.getElem?_map, List.getElem?_eq_getElem h]; rfl
theorem l05Paths_c (hN : ts.length ≤ 16) (S : Sides c ts) (hc : c ≤ 6) (hW : 1 ≤ W ∧ W ≤ 3) {tq bq : Sl} (rt : Rd h0 tq 1 (ic ((words ts W).map (cd c ts 1)))) (rb : Rd h0 bq 1 (ic ((words ts W).map (cd c ts 3)))) {N n : Nat} (hNS : (N : Int) = c ^ W) (hn : n ≤ 3) {x : Int} (x0 : 0 ≤ x) (x1 : x < N) :
    callS SP i_spec_l05Paths [.agg (SetC c s), .sl tq, .sl bq, i64 N, i64 n, i64 x] h0 fun u h' => Rd h' u 1 (ic (tab1 N fun a => (cnt c ts W n (a : Int) x : Int))) ∧ Ext h0 h' := by
  have hpw := pow_small S.1 hc hW.2
  rw [← hNS] at hpw
  have hwl : (words ts W).length ≤ 4096 := rounds_small hN hW.2 ([] : List Int)
  have htl := rt.ilen
  rw [List.length_map] at htl
  apply spec_l05Paths_call
  unfold spec_l05Paths_main
  refine newK_obj fun h1 o1 y1 l1 => ?_
  refine mkS_ow (by omega) (by unfold lim; omega) fun u h2 ou lu uo e2 => ?_
  rw [replicate_ic, Int.toNat_natCast, tab1_zero] at ou
  have y2 : Ext h1 h2 := by rw [e2]; exact Ext.app _ _
  refine spec_l05Paths_rule0 _ _ _ _ _ _ _ _ (fun i h => 0 ≤ i ∧ i ≤ N ∧ Ext h0 h ∧ Ow h u 1 (ic (tab1 N fun j => if j < i.toNat ∧ (j : Int) = x then 1 else 0))) (fun i _ => (N - i).toNat) ?_ _ ⟨by omega, by omega, y1.trans y2, by simpa using ou⟩
  rintro X i h ⟨i0, i1, e, o⟩ hX
  have hy1 := y1.len
  have frU : ∀ p, u.o = some p → h0.length ≤ p := fun p hp => by rw [uo] at hp; cases hp; exact hy1
  unfold spec_l05Paths_b0 spec_l05Paths_C0
  refine bif_dec (fun hi => ?_) (fun hi => ?_)
  · refine bif_dec (fun hx => by omega) (fun _ => ?_)
    have hol := o.rd.ilen
    rw [tab1_len] at hol
    refine bif_eq (fun hx => ?_) (fun hx => ?_)
    · refine o.stI i0 (by omega) _ fun h' o' b' _ => ?_
      rw [w64_of (by omega) (by omega)]
      refine hX _ _ ⟨by omega, by omega, e.but_ b' frU, ?_⟩ (by omega)
      rw [tab1_set] at o'
      refine (tab1_congr fun j hj => ?_) ▸ o'
      by_cases hji : j = i.toNat
      · subst hji
        rw [if_pos rfl, if_pos ⟨by omega, by omega⟩]
      · rw [if_neg hji]
        by_cases hj2 : j < i.toNat ∧ (j : Int) = x
        · omega
        · rw [if_neg hj2, if_neg (by omega)]
    · rw [w64_of (by omega) (by omega)]
      refine hX _ _ ⟨by omega, by omega, e, ?_⟩ (by omega)
      refine (tab1_congr fun j hj => ?_) ▸ o
      by_cases hj2 : j < i.toNat ∧ (j : Int) = x
      · rw [if_pos hj2, if_pos ⟨by omega, hj2.2⟩]
      · rw [if_neg hj2, if_neg (by omega)]
  · refine spec_l05Paths_rule2 _ _ _ _ _ (fun k v g => 0 ≤ k ∧ k ≤ n ∧ Ext h0 g ∧ Rd g v 1 (ic (tab1 N fun a => (cnt c ts W (n - k.toNat) (a : Int) x : Int)))) (fun k _ _ => k.toNat) ?_ _ _ ⟨by omega, by omega, e, ?_⟩
    rotate_left
    · refine (tab1_congr fun j hj => ?_) ▸ o.rd
      rw [Int.toNat_natCast, Nat.sub_self, cnt_zero]
      by_cases hj2 : (j : Int) = x
      · rw [if_pos ⟨by omega, hj2⟩, if_pos hj2]; rfl
      · rw [if_neg (by omega), if_neg hj2]; rfl
    clear hX o i0 i1 e hi
    rintro X k v g ⟨k0, k1, e, rv⟩ hX
    unfold spec_l05Paths_b2 spec_l05Paths_C2
    refine bif_dec (fun hk => ?_) (fun hk => ⟨_, rfl, ?_, e⟩)
    rotate_left
    · rw [show n - k.toNat = n by omega] at rv; exact rv
    obtain ⟨m, hm⟩ : ∃ m, m = n - k.toNat := ⟨_, rfl⟩
    rw [← hm] at rv
    refine mkS_ow (by omega) (by unfold lim; omega) fun z g2 oz lz zo e2 => ?_
    rw [replicate_ic, Int.toNat_natCast, tab1_zero] at oz
    have y2 : Ext g g2 := by rw [e2]; exact Ext.app _ _
    refine spec_l05Paths_rule4 _ _ X _ _ _ _ _ _ (fun i h => 0 ≤ i ∧ i ≤ (words ts W).length ∧ Ext g h ∧ Ow h z 1 (ic (tab1 N fun a => (psum c ts W m x i.toNat (a : Int) : Int)))) (fun i _ => ((words ts W).length - i).toNat) ?_ _ ⟨by omega, by omega, y2, by simpa [psum_zero] using oz⟩
    rintro Y i h ⟨i0, i1, e', o⟩ hY
    have frZ : ∀ p, z.o = some p → g.length ≤ p := fun p hp => by rw [zo] at hp; cases hp; exact Nat.le_refl _
    unfold spec_l05Paths_b4 spec_l05Paths_C4 spec_l05Paths_C3
    refine bif_dec (fun hi => ?_) (fun hi => ?_)
    · obtain ⟨w, rfl⟩ : ∃ w : Nat, i = w := ⟨i.toNat, by omega⟩
      rw [Int.toNat_natCast] at o
      have hw : w < (words ts W).length := by omega
      have hwd := words_wd (List.getElem_mem hw)
      have b1 := hwd.bound (k := 1) S (by omega)
      have b3 := hwd.bound (k := 3) S (by omega)
      rw [← hNS] at b1 b3
      have rt' := rt.ext (e.trans e')
      have rb' := rb.ext (e.trans e')
      refine rt'.ldG (by omega) (by rw [List.length_map]; omega) ?_
      rw [Int.toNat_natCast, mapG hw]
      refine rt'.ldG (by omega) (by rw [List.length_map]; omega) ?_
      rw [Int.toNat_natCast, mapG hw]
      refine o.rd.ldG b1.1 (by rw [tab1_len]; omega) ?_
      rw [tab1_at (by omega)]
      refine rb'.ldG (by omega) (by rw [List.length_map]; omega) ?_
      rw [Int.toNat_natCast, mapG hw]
      refine (rv.ext e').ldG b3.1 (by rw [tab1_len]; omega) ?_
      rw [tab1_at (by omega)]
      have hol := o.rd.ilen
      rw [tab1_len] at hol
      have p1 := psum_bound (c := c) hN hW.2 (n := m) (by omega) x w (cd c ts 1 (words ts W)[w])
      have p2 := psum_bound (c := c) hN hW.2 (n := m) (by omega) x (w + 1) (cd c ts 1 (words ts W)[w])
      rw [psum_succ hw, if_pos rfl] at p2
      have c1 : ((cd c ts 1 (words ts W)[w]).toNat : Int) = cd c ts 1 (words ts W)[w] := by omega
      have c3 : ((cd c ts 3 (words ts W)[w]).toNat : Int) = cd c ts 3 (words ts W)[w] := by omega
      rw [c1, c3]
      refine o.stI b1.1 (by omega) _ fun h' o' b' _ => ?_
      rw [w64_of (n := (w : Int) + 1) (by omega) (by omega)]
      refine hY _ _ ⟨by omega, by omega, e'.but_ b' frZ, ?_⟩ (by omega)
      rw [tab1_set] at o'
      refine (tab1_congr fun j hj => ?_) ▸ o'
      rw [show ((w : Int) + 1).toNat = w + 1 by omega, psum_succ hw]
      by_cases hj1 : j = (cd c ts 1 (words ts W)[w]).toNat
      · rw [if_pos hj1, if_pos (by omega), show ((j : Nat) : Int) = cd c ts 1 (words ts W)[w] by omega]
        rw [w64_of (by omega) (by omega)]
        unfold mnI
        push_cast
        omega
      · rw [if_neg hj1, if_neg (by omega)]; simp
    · rw [w64_of (by omega) (by omega)]
      refine hX _ _ _ ⟨by omega, by omega, e.trans e', ?_⟩ (by omega)
      rw [show i.toNat = (words ts W).length by omega] at o
      refine (tab1_congr fun j hj => ?_) ▸ o.rd
      rw [psum_all]
      congr 2; omega
end
end Go.Proofs.Ytfmjjpophipfbaa.Cl
