/- Tori: the plain law of their enumeration. No claim is stated here. -/
import Derived.Test.YtfmjjpophipfbaaMh
set_option linter.unusedVariables false
set_option linter.unusedSimpArgs false
namespace Go.Proofs.Ytfmjjpophipfbaa.Cl
open Go
/-- The side k of the tile of number n. -/
abbrev E_ (ts : List Tile) (n : Int) (k : Nat) : Int := sd (tat ts n) k
abbrev gt (l : List Int) (i : Nat) : Int := l.getD i 0
theorem gt_right (p q : List Int) (y : Nat) : gt (p ++ q) (p.length + y) = gt q y := by
  unfold gt
  rw [List.getD_eq_getElem?_getD, List.getD_eq_getElem?_getD, List.getElem?_append_right (by omega)]
  congr 2; omega
theorem gt_left {p q : List Int} {y : Nat} (h : y < p.length) : gt (p ++ q) y = gt p y := by
  unfold gt
  rw [List.getD_eq_getElem?_getD, List.getD_eq_getElem?_getD, List.getElem?_append_left h]
theorem gt_last (p : List Int) (k : Int) : gt (p ++ [k]) p.length = k := by
  have := gt_right p [k] 0
  rw [Nat.add_zero] at this
  rw [this]; rfl
section
variable (ts : List Tile) (H W : Nat)
def OkC (pre : List Int) (k : Int) : Prop :=
  (0 < pre.length % W → E_ ts (gt (pre ++ [k]) (pre.length - 1)) 2 = E_ ts k 0) ∧ (pre.length % W = W - 1 → E_ ts (gt (pre ++ [k]) (pre.length / W * W)) 0 = E_ ts k 2) ∧
  (0 < pre.length / W → E_ ts (gt (pre ++ [k]) (pre.length - W)) 3 = E_ ts k 1) ∧ (pre.length / W = H - 1 → E_ ts (gt (pre ++ [k]) (pre.length % W)) 1 = E_ ts k 3)
noncomputable def flat : Nat → List Int → List (List Int)
  | 0, pre => [pre]
  | m + 1, pre => (List.range ts.length).flatMap fun (k : Nat) => sel (OkC ts H W pre (k : Int)) (flat m (pre ++ [(k : Int)])) []
def hC (w : List Int) (k : Int) : Prop := 0 < w.length → E_ ts (gt w (w.length - 1)) 2 = E_ ts k 0
def closeW (w : List Int) : Prop := E_ ts (gt w (w.length - 1)) 2 = E_ ts (gt w 0) 0
noncomputable def rounds : Nat → List Int → List (List Int)
  | 0, w => sel (closeW ts w) [w] []
  | m + 1, w => (List.range ts.length).flatMap fun (k : Nat) => sel (hC ts w (k : Int)) (rounds m (w ++ [(k : Int)])) []
def V_ (pre : List Int) (i : Nat) (w : List Int) (y : Nat) : Prop :=
  (0 < i → E_ ts (gt pre ((i - 1) * W + y)) 3 = E_ ts (gt w y) 1) ∧ (i = H - 1 → E_ ts (gt (pre ++ w) y) 1 = E_ ts (gt w y) 3)
def VD (pre : List Int) (i j : Nat) (w : List Int) : Prop := ∀ y, j ≤ y → y < W → V_ ts H W pre i w y
end
variable {ts : List Tile} {H W : Nat}
theorem mem_sel {α : Type} {A : Prop} {l : List α} {x : α} (h : x ∈ sel A l []) : A ∧ x ∈ l := by
  by_cases a : A
  · rw [sel_yes a] at h; exact ⟨a, h⟩
  · rw [sel_no a] at h; cases h
theorem rounds_mem : ∀ (m : Nat) (w : List Int) {w' : List Int}, w' ∈ rounds ts m w → ∃ r, w' = w ++ r ∧ r.length = m ∧ ∀ x ∈ r, 0 ≤ x ∧ x < ts.length
  | 0, w, w', h => by
    have := (mem_sel h).2
    simp at this
    exact ⟨[], by simp [this], rfl, by simp⟩
  | m + 1, w, w', h => by
    rw [rounds] at h
    obtain ⟨k, hk, h⟩ := List.mem_flatMap.1 h
    obtain ⟨r, e, hl, hr⟩ := rounds_mem m _ (mem_sel h).2
    refine ⟨(k : Int) :: r, by simp [e], by simp [hl], fun x hx => ?_⟩
    rcases List.mem_cons.1 hx with rfl | hx
    · have := List.mem_range.1 hk; omega
    · exact hr x hx
theorem okC_iff {pre w : List Int} {i : Nat} {k : Int} (hp : pre.length = i * W) (hj : w.length < W) : OkC ts H W (pre ++ w) k ↔ hC ts w k ∧ (w.length = W - 1 → closeW ts (w ++ [k])) ∧ V_ ts H W pre i (w ++ [k]) w.length := by
  have hn : (pre ++ w).length = i * W + w.length := by simp [hp]
  have hd : (i * W + w.length) / W = i := by rw [Nat.mul_comm, Nat.mul_add_div (by omega), Nat.div_eq_of_lt hj, Nat.add_zero]
  have hm : (i * W + w.length) % W = w.length := by rw [Nat.mul_comm, Nat.mul_add_mod, Nat.mod_eq_of_lt hj]
  unfold OkC hC closeW V_
  rw [hn, hd, hm]
  have a1 : 0 < w.length → gt (pre ++ w ++ [k]) (i * W + w.length - 1) = gt w (w.length - 1) := fun h => by
    rw [show i * W + w.length - 1 = pre.length + (w.length - 1) by omega, List.append_assoc, gt_right, gt_left (by omega)]
  have a2 : gt (pre ++ w ++ [k]) (i * W) = gt (w ++ [k]) 0 := by
    have := gt_right pre (w ++ [k]) 0
    rw [Nat.add_zero, hp] at this
    rw [List.append_assoc]; exact this
  have a3 : 0 < i → gt (pre ++ w ++ [k]) (i * W + w.length - W) = gt pre ((i - 1) * W + w.length) := fun h => by
    obtain ⟨i, rfl⟩ : ∃ j, i = j + 1 := ⟨i - 1, by omega⟩
    rw [Nat.add_mul] at hp ⊢
    rw [show i * W + 1 * W + w.length - W = i * W + w.length by omega, List.append_assoc, gt_left (by omega)]
    simp
  have a4 : gt (w ++ [k]) w.length = k := gt_last _ _
  have a5 : (w ++ [k]).length - 1 = w.length := by simp
  rw [a5, a4, a2, List.append_assoc]
  rw [List.append_assoc] at a1 a3
  constructor
  · rintro ⟨h1, h2, h3, h4⟩
    exact ⟨fun h => by rw [← a1 h]; exact h1 h, fun h => (h2 h).symm, fun h => by rw [← a3 h]; exact h3 h, h4⟩
  · rintro ⟨h1, h2, h3, h4⟩
    exact ⟨fun h => by rw [a1 h]; exact h1 h, fun h => (h2 h).symm, fun h => by rw [a3 h]; exact h3 h, h4⟩
theorem V_pre {pre w r : List Int} {i y : Nat} (hy : y < w.length) : V_ ts H W pre i (w ++ r) y ↔ V_ ts H W pre i w y := by
  unfold V_
  rw [gt_left hy]
  have : gt (pre ++ (w ++ r)) y = gt (pre ++ w) y := by rw [← List.append_assoc, gt_left (by simp; omega)]
  rw [this]
theorem sel_flatMap {α β : Type} {A : Prop} {l : List α} {f : α → List β} : (sel A l []).flatMap f = sel A (l.flatMap f) [] := by
  by_cases a : A
  · rw [sel_yes a, sel_yes a]
  · rw [sel_no a, sel_no a]; rfl
theorem sel_sel {α : Type} {A B : Prop} {l : List α} : sel A (sel B l []) [] = sel (A ∧ B) l [] := by
  by_cases a : A
  · rw [sel_yes a]
    by_cases b : B
    · rw [sel_yes b, sel_yes ⟨a, b⟩]
    · rw [sel_no b, sel_no fun c => b c.2]
  · rw [sel_no a, sel_no fun c => a c.1]
theorem sel_congr {α : Type} {A B : Prop} {l m : List α} (h : A ↔ B) (e : A → l = m) : sel A l [] = sel B m [] := by
  by_cases a : A
  · rw [sel_yes a, sel_yes (h.1 a), e a]
  · rw [sel_no a, sel_no fun b => a (h.2 b)]
theorem flatMap_congr' {α β : Type} {l : List α} {f g : α → List β} (h : ∀ x ∈ l, f x = g x) : l.flatMap f = l.flatMap g := by
  induction l with
  | nil => rfl
  | cons a l ih => rw [List.flatMap_cons, List.flatMap_cons, h a (by simp), ih fun x hx => h x (by simp [hx])]
/-- A row at once. -/
theorem flat_row {pre : List Int} {i m : Nat} (hp : pre.length = i * W) : ∀ (r : Nat) (w : List Int), w.length + (r + 1) = W →
    flat ts H W (r + 1 + m) (pre ++ w) = (rounds ts (r + 1) w).flatMap fun w' => sel (VD ts H W pre i w.length w') (flat ts H W m (pre ++ w')) []
  | 0, w, hw => by
    rw [show 0 + 1 + m = m + 1 by omega, flat, rounds, List.flatMap_assoc]
    refine flatMap_congr' fun k _ => ?_
    rw [sel_flatMap, rounds, sel_flatMap, sel_sel, okC_iff hp (by omega)]
    simp only [List.flatMap_cons, List.flatMap_nil, List.append_nil]
    rw [sel_sel]
    refine sel_congr ?_ fun _ => by rw [List.append_assoc]
    have hv : VD ts H W pre i w.length (w ++ [(k : Int)]) ↔ V_ ts H W pre i (w ++ [(k : Int)]) w.length := by
      constructor
      · exact fun h => h _ (Nat.le_refl _) (by omega)
      · intro h y h1 h2
        rw [show y = w.length by omega]; exact h
    rw [hv]
    have : w.length = W - 1 := by omega
    simp only [this, true_imp_iff, and_assoc]
  | r + 1, w, hw => by
    rw [show r + 1 + 1 + m = (r + 1 + m) + 1 by omega, flat, rounds, List.flatMap_assoc]
    refine flatMap_congr' fun k _ => ?_
    rw [sel_flatMap, okC_iff hp (by omega), List.append_assoc, flat_row hp r (w ++ [(k : Int)]) (by simp; omega)]
    have hne : w.length ≠ W - 1 := by omega
    by_cases hh : hC ts w (k : Int)
    · rw [sel_yes hh]
      by_cases hv : V_ ts H W pre i (w ++ [(k : Int)]) w.length
      · rw [sel_yes ⟨hh, fun e => absurd e hne, hv⟩]
        refine flatMap_congr' fun w' hw' => ?_
        obtain ⟨q, rfl, _, _⟩ := rounds_mem _ _ hw'
        refine sel_congr ⟨fun h y h1 h2 => ?_, fun h y h1 h2 => h y (by simp at h1; omega) h2⟩ fun _ => rfl
        by_cases e : y = w.length
        · subst e; exact (V_pre (by simp)).2 hv
        · exact h y (by simp; omega) h2
      · rw [sel_no fun h => hv h.2.2]
        symm
        refine List.flatMap_eq_nil_iff.2 fun w' hw' => ?_
        obtain ⟨q, rfl, _, _⟩ := rounds_mem _ _ hw'
        exact sel_no fun h => hv ((V_pre (by simp)).1 (h _ (Nat.le_refl _) (by omega)))
    · rw [sel_no hh, sel_no fun h => hh h.1]
/-! ### codes of edges -/
def dec (c : Int) (l : List Int) : Int := l.foldl (fun a d => a * c + d) 0
def cd (c : Int) (ts : List Tile) (k : Nat) (w : List Int) : Int := dec c (w.map fun n => E_ ts n k)
theorem dec_app (c : Int) (l : List Int) (d : Int) : dec c (l ++ [d]) = dec c l * c + d := by unfold dec; rw [List.foldl_append]; rfl
theorem dec_bound {c : Int} (hc : 1 ≤ c) : ∀ (n : Nat) (l : List Int), l.length = n → (∀ d ∈ l, 0 ≤ d ∧ d < c) → 0 ≤ dec c l ∧ dec c l < c ^ n
  | 0, l, h, _ => by
    have : l = [] := List.length_eq_zero_iff.1 h
    subst this
    exact ⟨Int.le_refl _, by simp [dec]⟩
  | n + 1, l, h, hd => by
    rcases List.eq_nil_or_concat l with rfl | ⟨m, d, rfl⟩
    · simp at h
    · rw [List.concat_eq_append] at h hd ⊢
      have ih := dec_bound hc n m (by simpa using h) fun x hx => hd x (by simp [hx])
      have := hd d (by simp)
      rw [dec_app, Int.pow_succ]
      have h1 : 0 ≤ dec c m * c := Int.mul_nonneg ih.1 (by omega)
      have h2 : (dec c m + 1) * c ≤ c ^ n * c := Int.mul_le_mul_of_nonneg_right (by omega) (by omega)
      rw [Int.add_mul, Int.one_mul] at h2
      omega
theorem dec_inj {c : Int} (hc : 1 ≤ c) : ∀ (n : Nat) (l m : List Int), l.length = n → m.length = n → (∀ d ∈ l, 0 ≤ d ∧ d < c) → (∀ d ∈ m, 0 ≤ d ∧ d < c) → dec c l = dec c m → l = m
  | 0, l, m, h1, h2, _, _, _ => by rw [List.length_eq_zero_iff.1 h1, List.length_eq_zero_iff.1 h2]
  | n + 1, l, m, h1, h2, d1, d2, e => by
    rcases List.eq_nil_or_concat l with rfl | ⟨l', a, rfl⟩
    · simp at h1
    rcases List.eq_nil_or_concat m with rfl | ⟨m', b, rfl⟩
    · simp at h2
    rw [List.concat_eq_append] at *
    rw [List.concat_eq_append] at *
    rw [dec_app, dec_app] at e
    have ha := d1 a (by simp)
    have hb := d2 b (by simp)
    have e1 : (dec c l' * c + a) / c = dec c l' := by rw [Int.add_comm, Int.add_mul_ediv_right _ _ (by omega), Int.ediv_eq_zero_of_lt ha.1 ha.2, Int.zero_add]
    have e2 : (dec c m' * c + b) / c = dec c m' := by rw [Int.add_comm, Int.add_mul_ediv_right _ _ (by omega), Int.ediv_eq_zero_of_lt hb.1 hb.2, Int.zero_add]
    have e3 : dec c l' = dec c m' := by rw [← e1, ← e2, e]
    rw [e3] at e
    rw [dec_inj hc n l' m' (by simpa using h1) (by simpa using h2) (fun x hx => d1 x (by simp [hx])) (fun x hx => d2 x (by simp [hx])) e3, show a = b by omega]
/-- All sides lie in the colours. -/
def Sides (c : Int) (ts : List Tile) : Prop := 1 ≤ c ∧ ∀ n k, k < 4 → 0 ≤ n → n < (ts.length : Int) → 0 ≤ E_ ts n k ∧ E_ ts n k < c
/-- A word of the width. -/
def Wd (ts : List Tile) (W : Nat) (w : List Int) : Prop := w.length = W ∧ ∀ x ∈ w, 0 ≤ x ∧ x < (ts.length : Int)
theorem Wd.digits {c w k} (S : Sides c ts) (h : Wd ts W w) (hk : k < 4) : ∀ d ∈ w.map (fun n => E_ ts n k), 0 ≤ d ∧ d < c := by
  intro d hd
  obtain ⟨x, hx, rfl⟩ := List.mem_map.1 hd
  exact S.2 x k hk (h.2 x hx).1 (h.2 x hx).2
theorem Wd.bound {c w k} (S : Sides c ts) (h : Wd ts W w) (hk : k < 4) : 0 ≤ cd c ts k w ∧ cd c ts k w < c ^ W :=
  dec_bound S.1 W _ (by simp [h.1]) (h.digits S hk)
theorem cd_iff {c v w k l} (S : Sides c ts) (hv : Wd ts W v) (hw : Wd ts W w) (hk : k < 4) (hl : l < 4) : cd c ts k v = cd c ts l w ↔ ∀ y, y < W → E_ ts (gt v y) k = E_ ts (gt w y) l := by
  have hgt : ∀ (u : List Int) (y : Nat), y < u.length → u[y]? = some (gt u y) := fun u y h => by
    unfold gt; rw [List.getD_eq_getElem?_getD, List.getElem?_eq_getElem h]; rfl
  constructor
  · intro e y hy
    have := dec_inj S.1 W _ _ (by simp [hv.1]) (by simp [hw.1]) (hv.digits S hk) (hw.digits S hl) e
    have h2 := congrArg (·[y]?) this
    simp only [List.getElem?_map] at h2
    rw [hgt v y (by rw [hv.1]; exact hy), hgt w y (by rw [hw.1]; exact hy)] at h2
    exact Option.some.inj h2
  · intro h
    unfold cd
    congr 1
    apply List.ext_getElem? 
    intro y
    simp only [List.getElem?_map]
    by_cases hy : y < W
    · rw [hgt v y (by rw [hv.1]; exact hy), hgt w y (by rw [hw.1]; exact hy)]
      exact congrArg some (h y hy)
    · rw [List.getElem?_eq_none (by rw [hv.1]; omega), List.getElem?_eq_none (by rw [hw.1]; omega)]; rfl
/-! ### tori as sequences of words -/
section
variable (c : Int) (ts : List Tile) (W : Nat)
noncomputable def words : List (List Int) := rounds ts W []
noncomputable def seqs : Nat → Int → Int → List (List (List Int))
  | 0, s, x => sel (s = x) [[]] []
  | n + 1, s, x => (words ts W).flatMap fun w => sel (cd c ts 1 w = s) ((seqs n (cd c ts 3 w) x).map (w :: ·)) []
noncomputable def toriL (H : Nat) : List (List (List Int)) := (words ts W).flatMap fun w => (seqs c ts W (H - 1) (cd c ts 3 w) (cd c ts 1 w)).map (w :: ·)
end
theorem words_wd {w} (h : w ∈ words ts W) : Wd ts W w := by
  obtain ⟨r, e, hl, hr⟩ := rounds_mem _ _ h
  rw [List.nil_append] at e
  subst e
  exact ⟨hl, hr⟩
theorem flat_word {pre : List Int} {i m : Nat} (hW : 1 ≤ W) (hp : pre.length = i * W) : flat ts H W (W + m) pre = (words ts W).flatMap fun w => sel (VD ts H W pre i 0 w) (flat ts H W m (pre ++ w)) [] := by
  have := flat_row (H := H) (m := m) (ts := ts) hp (W - 1) [] (by simp; omega)
  rw [show W - 1 + 1 = W by omega, List.append_nil] at this
  exact this
theorem sel_map {α β : Type} {A : Prop} {l : List α} {f : α → β} : (sel A l []).map f = sel A (l.map f) [] := by
  by_cases a : A
  · rw [sel_yes a, sel_yes a]
  · rw [sel_no a, sel_no a]; rfl
theorem flat_seqs {c : Int} (S : Sides c ts) (hW : 1 ≤ W) : ∀ (n : Nat) (pre wl w1 : List Int) (i : Nat), i + (n + 1) = H → 1 ≤ i → pre.length = i * W → Wd ts W wl → Wd ts W w1 → (∀ y, y < W → gt pre ((i - 1) * W + y) = gt wl y) → (∀ y, y < W → gt pre y = gt w1 y) →
    flat ts H W ((n + 1) * W) pre = (seqs c ts W (n + 1) (cd c ts 3 wl) (cd c ts 1 w1)).map fun ws => pre ++ ws.flatten
  | n, pre, wl, w1, i, hi, i1, hp, hl, h1, gl, g1 => by
    have hWi : W ≤ i * W := Nat.le_mul_of_pos_left W i1
    rw [Nat.add_mul, Nat.one_mul, Nat.add_comm, flat_word hW hp, seqs, List.map_flatMap]
    refine flatMap_congr' fun w hw => ?_
    have hwd := words_wd hw
    rw [sel_map, List.map_map]
    have hv1 : (∀ y, 0 ≤ y → y < W → E_ ts (gt pre ((i - 1) * W + y)) 3 = E_ ts (gt w y) 1) ↔ cd c ts 1 w = cd c ts 3 wl := by
      rw [eq_comm, cd_iff S hl hwd (by omega) (by omega)]
      exact ⟨fun h y hy => by rw [← gl y hy]; exact h y (by omega) hy, fun h y _ hy => by rw [gl y hy]; exact h y hy⟩
    cases n with
    | zero =>
      have hv2 : (∀ y, y < W → E_ ts (gt (pre ++ w) y) 1 = E_ ts (gt w y) 3) ↔ cd c ts 3 w = cd c ts 1 w1 := by
        rw [eq_comm, cd_iff S h1 hwd (by omega) (by omega)]
        exact ⟨fun h y hy => by have := h y hy; rw [gt_left (by omega), g1 y hy] at this; exact this, fun h y hy => by rw [gt_left (by omega), g1 y hy]; exact h y hy⟩
      have hv : VD ts H W pre i 0 w ↔ cd c ts 1 w = cd c ts 3 wl ∧ cd c ts 3 w = cd c ts 1 w1 := by
        rw [← hv1, ← hv2]
        exact ⟨fun h => ⟨fun y a b => (h y a b).1 (by omega), fun y b => (h y (Nat.zero_le _) b).2 (by omega)⟩, fun h y a b => ⟨fun _ => h.1 y a b, fun _ => h.2 y b⟩⟩
      rw [Nat.zero_mul, flat, seqs, sel_map, sel_sel]
      refine sel_congr hv fun _ => ?_
      simp
    | succ n =>
      have hv : VD ts H W pre i 0 w ↔ cd c ts 1 w = cd c ts 3 wl := by
        rw [← hv1]
        exact ⟨fun h y a b => (h y a b).1 (by omega), fun h y a b => ⟨fun _ => h y a b, fun e => by omega⟩⟩
      refine sel_congr hv fun _ => ?_
      rw [flat_seqs S hW n (pre ++ w) w w1 (i + 1) (by omega) (by omega) (by rw [List.length_append, hp, hwd.1, Nat.add_mul, Nat.one_mul]) hwd h1
        (fun y hy => by rw [show i + 1 - 1 = i by omega, ← hp, gt_right]) (fun y hy => by rw [gt_left (by omega)]; exact g1 y hy)]
      refine List.map_congr_left fun ws _ => ?_
      simp [List.append_assoc]
theorem flat_tori {c : Int} (S : Sides c ts) (hW : 1 ≤ W) (hH : 1 ≤ H) : flat ts H W (H * W) [] = (toriL c ts W H).map List.flatten := by
  have e : H * W = W + (H - 1) * W := by
    obtain ⟨n, rfl⟩ : ∃ n, H = n + 1 := ⟨H - 1, by omega⟩
    rw [Nat.add_mul, Nat.one_mul, Nat.add_comm]; simp
  rw [e, flat_word (i := 0) hW (by simp), toriL, List.map_flatMap]
  refine flatMap_congr' fun w hw => ?_
  have hwd := words_wd hw
  rw [List.map_map, List.nil_append]
  by_cases h1 : H = 1
  · subst h1
    rw [show 1 - 1 = 0 by omega, Nat.zero_mul, flat, seqs, sel_map]
    have hv2 : (∀ y, y < W → E_ ts (gt w y) 1 = E_ ts (gt w y) 3) ↔ cd c ts 3 w = cd c ts 1 w := by
      rw [eq_comm, cd_iff S hwd hwd (by omega) (by omega)]
    refine sel_congr ?_ fun _ => by simp
    rw [← hv2]
    exact ⟨fun h y b => (h y (Nat.zero_le _) b).2 (by omega), fun h y a b => ⟨fun e => by omega, fun _ => h y b⟩⟩
  · obtain ⟨n, rfl⟩ : ∃ n, H = n + 2 := ⟨H - 2, by omega⟩
    rw [sel_yes (show VD ts (n + 2) W [] 0 0 w from fun y a b => ⟨fun e => by omega, fun e => by omega⟩)]
    rw [show n + 2 - 1 = n + 1 by omega, flat_seqs S hW n w w w 1 (by omega) (by omega) (by rw [hwd.1]; omega) hwd hwd (fun y _ => by simp) (fun y _ => rfl)]
    refine List.map_congr_left fun ws _ => ?_
    simp
/-! ### form -/
theorem seqs_form {c : Int} : ∀ (n : Nat) (s x : Int) {ws}, ws ∈ seqs c ts W n s x → ws.length = n ∧ ∀ w ∈ ws, Wd ts W w
  | 0, s, x, ws, h => by
    have := (mem_sel h).2
    simp at this
    subst this
    exact ⟨rfl, by simp⟩
  | n + 1, s, x, ws, h => by
    rw [seqs] at h
    obtain ⟨w, hw, h⟩ := List.mem_flatMap.1 h
    obtain ⟨v, hv, rfl⟩ := List.mem_map.1 (mem_sel h).2
    obtain ⟨a, b⟩ := seqs_form n _ _ hv
    refine ⟨by simp [a], fun u hu => ?_⟩
    rcases List.mem_cons.1 hu with rfl | hu
    · exact words_wd hw
    · exact b u hu
theorem tori_form {c : Int} (hH : 1 ≤ H) {ws} (h : ws ∈ toriL c ts W H) : ws.length = H ∧ ∀ w ∈ ws, Wd ts W w := by
  obtain ⟨w, hw, h⟩ := List.mem_flatMap.1 h
  obtain ⟨v, hv, rfl⟩ := List.mem_map.1 h
  obtain ⟨a, b⟩ := seqs_form _ _ _ hv
  refine ⟨by simp [a]; omega, fun u hu => ?_⟩
  rcases List.mem_cons.1 hu with rfl | hu
  · exact words_wd hw
  · exact b u hu
end Go.Proofs.Ytfmjjpophipfbaa.Cl
