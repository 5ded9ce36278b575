/- Texts of the clean machine, joined. No claim is stated here. -/
import Derived.Test.YtcoampecbpiecaaFa0
import Derived.MapKept
import Derived.WideKeyRuns
import Derived.LoopN
set_option linter.unusedVariables false
set_option linter.unusedSimpArgs false
namespace Go.Proofs.Ytcoampecbpiecaa.Cl
open Go
section
variable {P : Program} {T : Tab} {μ : Mu} {h : H} {w : World}
theorem intsOf_VRs : ∀ {cs : List AVal} {l : List Int} {ds : List Value}, intsOf cs = some l → VRs μ h cs ds → ds = l.map (Value.int .i64)
 | [], l, ds, e, r => by
  simp only [intsOf] at e
  cases e
  simp only [VRs] at r
  rw [r]; rfl
 | .int .i64 n :: cs, l, ds, e, r => by
  simp only [intsOf] at e
  cases hq : intsOf cs with
  | none => rw [hq] at e; cases e
  | some l' =>
   rw [hq] at e
   cases e
   simp only [VRs, VR] at r
   obtain ⟨d, ds', rfl, rfl, r⟩ := r
   rw [intsOf_VRs hq r]; rfl
 | .int .i8 _ :: _, _, _, e, _ => by simp [intsOf] at e
 | .int .i16 _ :: _, _, _, e, _ => by simp [intsOf] at e
 | .int .i32 _ :: _, _, _, e, _ => by simp [intsOf] at e
 | .int .u8 _ :: _, _, _, e, _ => by simp [intsOf] at e
 | .int .u16 _ :: _, _, _, e, _ => by simp [intsOf] at e
 | .int .u32 _ :: _, _, _, e, _ => by simp [intsOf] at e
 | .int .u64 _ :: _, _, _, e, _ => by simp [intsOf] at e
 | .undef :: _, _, _, e, _ => by simp [intsOf] at e
 | .gone :: _, _, _, e, _ => by simp [intsOf] at e
 | .bool _ :: _, _, _, e, _ => by simp [intsOf] at e
 | .str _ :: _, _, _, e, _ => by simp [intsOf] at e
 | .ptr _ :: _, _, _, e, _ => by simp [intsOf] at e
 | .sl _ :: _, _, _, e, _ => by simp [intsOf] at e
 | .func _ _ :: _, _, _, e, _ => by simp [intsOf] at e
 | .nilFunc :: _, _, _, e, _ => by simp [intsOf] at e
 | .map _ :: _, _, _, e, _ => by simp [intsOf] at e
 | .agg _ :: _, _, _, e, _ => by simp [intsOf] at e
 | .tuple _ :: _, _, _, e, _ => by simp [intsOf] at e
structure KeyIs (P : Program) (w : World) (μ : Mu) (h : H) (kt : TypeId) (key : AVal) (x : Value) : Prop where
 check : ∀ em, (Instr.checkKey em 10000 kt x).run P w = .ok () w
 stays : (Instr.keyThatStays x x).run P w = .ok x w
 find : ∀ (es : List (AVal × AVal)) (ms : List MapEntry), ms.length = es.length → (∀ (i : Nat) k v, es[i]? = some (k, v) → ∃ m, ms[i]? = some m ∧ VR μ h k m.key ∧ VR μ h v m.val) → ∀ f, mpFind key es = some f →
  (f = none ∧ (Instr.findKey kt x ms).run P w = .ok none w ∧ ∀ y, mpPut key y es = some (es ++ [(key, y)])) ∨
  ∃ (i : Nat) (v : AVal) (m : MapEntry), f = some v ∧ (Instr.findKey kt x ms).run P w = .ok (some (i, m.val)) w ∧ ms[i]? = some m ∧ (∃ k, es[i]? = some (k, v)) ∧ VR μ h v m.val ∧ m.key = x ∧ ∀ y, mpPut key y es = some (es.set i (key, y))
theorem find_now {q : IntKind} {j : IntKind} {n : Int} : ∀ (es : List (AVal × AVal)) (ms : List MapEntry) (i0 : Nat), ms.length = es.length → (∀ (i : Nat) k v, es[i]? = some (k, v) → ∃ m, ms[i]? = some m ∧ VR μ h k m.key ∧ VR μ h v m.val) → ∀ f, mpFind (.int j n) es = some f →
  (f = none ∧ Instr.findNow (.int q) (.int j n) ms i0 = some none ∧ ∀ y, mpPut (.int j n) y es = some (es ++ [(.int j n, y)])) ∨
  ∃ (i : Nat) (v : AVal) (m : MapEntry), f = some v ∧ Instr.findNow (.int q) (.int j n) ms i0 = some (some (i0 + i, m.val)) ∧ ms[i]? = some m ∧ (∃ k, es[i]? = some (k, v)) ∧ VR μ h v m.val ∧ m.key = .int j n ∧ ∀ y, mpPut (.int j n) y es = some (es.set i (.int j n, y))
 | [], ms, i0, hl, _, f, e => by
  have : ms = [] := List.length_eq_zero_iff.1 hl
  subst this
  simp only [mpFind] at e
  cases e
  exact .inl ⟨rfl, rfl, fun y => rfl⟩
 |(k, v) :: es, [], i0, hl, _, f, e => by simp at hl
 |(k, v) :: es, m :: ms, i0, hl, hr, f, e => by
  obtain ⟨m', hm, hk, hv⟩ := hr 0 k v rfl
  simp only [List.getElem?_cons_zero, Option.some.injEq] at hm
  subst hm
  simp only [mpFind] at e
  have hkk : ∀ b, keyIs (.int j n) k = some b → ∃ n', k = .int j n' ∧ m.key = .int j n' ∧ b = (n == n') := fun b hb => by
   cases k with
   | int j' n' =>
    simp only [keyIs] at hb
    split at hb
    ·next ej =>
     subst ej
     simp only [VR] at hk
     exact ⟨n', rfl, hk, (Option.some.inj hb).symm⟩
    ·cases hb
   | _ => simp [keyIs] at hb
  split at e
  ·next hb =>
   obtain ⟨n', rfl, hmk, hn⟩ := hkk true hb
   cases e
   have : n = n' := by simpa using hn.symm
   subst this
   refine .inr ⟨0, v, m, rfl, ?_, rfl, ⟨_, rfl⟩, hv, hmk, fun y => ?_⟩
   ·simp [Instr.findNow, Instr.sameNow, hmk]
   ·simp only [mpPut, hb]; rfl
  ·next hb =>
   obtain ⟨n', rfl, hmk, hn⟩ := hkk false hb
   have hne : (n == n') = false := hn.symm
   have hfn : Instr.findNow (.int q) (.int j n) (m :: ms) i0 = Instr.findNow (.int q) (.int j n) ms (i0 + 1) := by
    simp [Instr.findNow, Instr.sameNow, hmk, hne]
   have hmp : ∀ y, mpPut (.int j n) y ((.int j n', v) :: es) = (mpPut (.int j n) y es).map ((.int j n', v) :: ·) := fun y => by simp only [mpPut, hb]
   rcases find_now es ms (i0 + 1) (by simpa using hl) (fun i k' v' h' => by simpa using hr (i + 1) k' v' (by simpa using h')) f e with ⟨a, b, d⟩ | ⟨i, v', m', a, b, d, ⟨k', g⟩, p1, p2, p3⟩
   ·exact .inl ⟨a, by rw [hfn]; exact b, fun y => by rw [hmp, d]; rfl⟩
   ·exact .inr ⟨i + 1, v', m', a, by rw [hfn, b]; congr 3; omega, by simpa using d, ⟨k', by simpa using g⟩, p1, p2, fun y => by rw [hmp, p3]; rfl⟩
  ·cases e
theorem key_int {kt : TypeId} {q j : IntKind} {n : Int} (hd : P.underlying kt = some (.int q)) : KeyIs P w μ h kt (.int j n) (.int j n) := by
 refine ⟨fun em => ?_, ?_, fun es ms hl hr f hf => ?_⟩
 ·unfold Instr.checkKey
  simp [Sem.run_bind, run_underlying hd, Result.andThen]
 ·simp [Instr.keyThatStays, Instr.sameBits]
 ·rcases find_now (q := q) es ms 0 hl hr f hf with ⟨a, b, d⟩ | ⟨i, v, m, a, b, d, g, p1, p2, p3⟩
  ·exact .inl ⟨a, by simp [Instr.findKey, run_underlying hd, Result.andThen, b], d⟩
  ·exact .inr ⟨i, v, m, a, by simp [Instr.findKey, run_underlying hd, Result.andThen, b], d, g, p1, p2, p3⟩
theorem zip_all_self (n : Nat) : ∀ l : List Int, (((l.map (Value.int .i64)).zip (l.map (Value.int .i64))).all fun x => Instr.sameBits n x.1 x.2) = true
 | [] => rfl
 | a :: l => by simp [Instr.sameBits, zip_all_self n l]
theorem check_ints {kt e : TypeId} {n : Nat} (ht : P.underlying kt = some (.array n e)) (he : P.underlying e = some (.int .i64)) (hsz : ∀ w, (sizeOf e).run P w = .ok 1 w) (l : List Int) (hl : l.length = n) (em : Bool) (d : Nat) :
  (Instr.checkKey em (d + 2) kt (.agg (l.map (Value.int .i64)).toArray)).run P w = .ok () w := by
 rw [Instr.checkKey]
 simp only [Sem.run_bind, run_underlying ht, Result.andThen_ok, hsz, Std.Legacy.Range.forIn_eq_forIn_range', Std.Legacy.Range.size, Nat.sub_zero, Nat.add_sub_cancel, Nat.div_one]
 have hl' : ∀ i ∈ List.range' 0 n 1, i < n := fun i hi => by simpa using (List.mem_range'_1.1 hi).2
 generalize List.range' 0 n 1 = r at hl' ⊢
 induction r with
 | nil => simp
 | cons i r ih =>
  have hi : i < n := hl' i (by simp)
  have px : (part e (l.map (Value.int .i64)).toArray (i * 1)).run P w = .ok (.int .i64 (l.getD i 0)) w := by
   simp [part, isAgg, run_underlying he, List.getD, List.getElem?_eq_getElem (show i < l.length by omega)]
  have pc : (Instr.checkKey em (d + 1) e (.int .i64 (l.getD i 0))).run P w = .ok () w := by
   unfold Instr.checkKey
   simp [Sem.run_bind, run_underlying he, Result.andThen]
  simp only [List.forIn_cons, Sem.run_bind, hsz, Result.andThen_ok, px, pc, Sem.run_pure]
  exact ih fun j hj => hl' j (by simp [hj])
theorem find_asking {kt e : TypeId} {n : Nat} (ht : P.underlying kt = some (.array n e)) (he : P.underlying e = some (.int .i64)) (hsz : ∀ w, (sizeOf e).run P w = .ok 1 w) {cs : List AVal} {l : List Int} (hcs : intsOf cs = some l) (hl : l.length = n) :
  ∀ (es : List (AVal × AVal)) (ms : List MapEntry) (i0 : Nat), ms.length = es.length → (∀ (i : Nat) k v, es[i]? = some (k, v) → ∃ m, ms[i]? = some m ∧ VR μ h k m.key ∧ VR μ h v m.val) → ∀ f, mpFind (.agg cs) es = some f →
  (f = none ∧ (Instr.findAsking kt (.agg (l.map (Value.int .i64)).toArray) ms i0).run P w = .ok none w ∧ ∀ y, mpPut (.agg cs) y es = some (es ++ [(.agg cs, y)])) ∨
  ∃ (i : Nat) (v : AVal) (m : MapEntry), f = some v ∧ (Instr.findAsking kt (.agg (l.map (Value.int .i64)).toArray) ms i0).run P w = .ok (some (i0 + i, m.val)) w ∧ ms[i]? = some m ∧ (∃ k, es[i]? = some (k, v)) ∧ VR μ h v m.val ∧ m.key = .agg (l.map (Value.int .i64)).toArray ∧ ∀ y, mpPut (.agg cs) y es = some (es.set i (.agg cs, y))
 | [], ms, i0, hl, _, f, hf => by
  have : ms = [] := List.length_eq_zero_iff.1 hl
  subst this
  simp only [mpFind] at hf
  cases hf
  exact .inl ⟨rfl, by simp [Instr.findAsking], fun y => rfl⟩
 |(k, v) :: es, [], i0, hl, _, f, hf => by simp at hl
 |(k, v) :: es, m :: ms, i0, hml, hr, f, hf => by
  obtain ⟨m', hm, hk, hv⟩ := hr 0 k v rfl
  simp only [List.getElem?_cons_zero, Option.some.injEq] at hm
  subst hm
  simp only [mpFind] at hf
  have hkk : ∀ b, keyIs (.agg cs) k = some b → ∃ l', m.key = .agg (l'.map (Value.int .i64)).toArray ∧ l'.length = n ∧ b = (l == l') := fun b hb => by
   cases k with
   | agg cs' =>
    simp only [keyIs, hcs] at hb
    cases h' : intsOf cs' with
    | none => rw [h'] at hb; cases hb
    | some l' =>
     rw [h'] at hb
     simp only at hb
     split at hb
     ·next el =>
      simp only [VR] at hk
      obtain ⟨ds, hd, hds, _⟩ := hk
      have := intsOf_VRs h' hds
      exact ⟨l', by rw [hd, ← this], by omega, (Option.some.inj hb).symm⟩
     ·cases hb
   | _ => simp [keyIs] at hb
  have heq : ∀ l', l'.length = n → (Op.equal kt (.agg (l.map (Value.int .i64)).toArray) (.agg (l'.map (Value.int .i64)).toArray)).run P w = .ok (l == l') w := fun l' hl' => run_equalIn_ints 9998 kt e n .i64 ht he hsz l l' hl hl'
  split at hf
  ·next hb =>
   obtain ⟨l', hmk, hll, hn⟩ := hkk true hb
   cases hf
   have : l = l' := by simpa using hn.symm
   subst this
   refine .inr ⟨0, v, m, rfl, ?_, rfl, ⟨_, rfl⟩, hv, hmk, fun y => ?_⟩
   ·simp only [Instr.findAsking, Sem.run_bind, hmk, heq l hl, Result.andThen_ok]
    simp
   ·simp only [mpPut, hb]; rfl
  ·next hb =>
   obtain ⟨l', hmk, hll, hn⟩ := hkk false hb
   have hfn : (Instr.findAsking kt (.agg (l.map (Value.int .i64)).toArray) (m :: ms) i0).run P w = (Instr.findAsking kt (.agg (l.map (Value.int .i64)).toArray) ms (i0 + 1)).run P w := by
    rw [Instr.findAsking]
    simp only [Sem.run_bind, hmk, heq l' hll, Result.andThen_ok, ← hn]
    simp
   have hmp : ∀ y, mpPut (.agg cs) y ((k, v) :: es) = (mpPut (.agg cs) y es).map ((k, v) :: ·) := fun y => by simp only [mpPut, hb]
   rcases find_asking ht he hsz hcs hl es ms (i0 + 1) (by simpa using hml) (fun i k' v' h' => by simpa using hr (i + 1) k' v' (by simpa using h')) f hf with ⟨a, b, d⟩ | ⟨i, v', m', a, b, d, ⟨k', g⟩, p1, p2, p3⟩
   ·exact .inl ⟨a, by rw [hfn]; exact b, fun y => by rw [hmp, d]; rfl⟩
   ·exact .inr ⟨i + 1, v', m', a, by rw [hfn, b]; congr 3; omega, by simpa using d, ⟨k', by simpa using g⟩, p1, p2, fun y => by rw [hmp, p3]; rfl⟩
  ·cases hf
theorem key_ints {kt e : TypeId} {n : Nat} (ht : P.underlying kt = some (.array n e)) (he : P.underlying e = some (.int .i64)) (hsz : ∀ w, (sizeOf e).run P w = .ok 1 w) {cs : List AVal} {l : List Int} (hcs : intsOf cs = some l) (hl : l.length = n) :
  KeyIs P w μ h kt (.agg cs) (.agg (l.map (Value.int .i64)).toArray) := by
 refine ⟨fun em => check_ints ht he hsz l hl em 9998, ?_, fun es ms hml hr f hf => ?_⟩
 ·have : Instr.sameBits 10000 (.agg (l.map (Value.int .i64)).toArray) (.agg (l.map (Value.int .i64)).toArray) = true := by
   rw [show (10000 : Nat) = 9999 + 1 from rfl, Instr.sameBits]
   simp only [beq_self_eq_true, Bool.true_and]
   exact zip_all_self 9999 l
  simp [Instr.keyThatStays, this]
 ·have hw : (match P.underlying kt with | some (.array _ _) | some (.struct _) => true | _ => false) = true := by rw [ht]
  rcases find_asking (w := w) ht he hsz hcs hl es ms 0 hml hr f hf with ⟨a, b, d⟩ | ⟨i, v, m, a, b, d, g, p1, p2, p3⟩
  ·exact .inl ⟨a, by rw [run_findKey_eq w hw]; exact b, d⟩
  ·exact .inr ⟨i, v, m, a, by rw [run_findKey_eq w hw, b, Nat.zero_add], d, g, p1, p2, p3⟩
theorem keyK_sound (hT : TOK P T) {kt : Nat} {k : AVal} {x : Value} (hx : VR μ h k x) {K : AVal → Prop} (H : keyK T kt k K) : ∃ key, KeyIs P w μ h kt key x ∧ VR μ h key x ∧ K key := by
 unfold keyK at H
 split at H
 ·next q e =>
  split at H
  ·next j n =>
   obtain ⟨th⟩ := hT.told kt (by rw [e]; simp)
   have hd := th.hd
   rw [tdOf_int (P := P) (d := th.d) (by rw [← th.td, e])] at hd
   simp only [VR] at hx
   subst hx
   exact ⟨_, key_int hd, by simp only [VR], H⟩
  ·exact H.elim
 ·next n et e =>
  split at H
  ·next e2 =>
   cases hz : ((tget T et).size == 1) with
   | false => rw [hz] at H; exact H.elim
   | true =>
    rw [hz] at H
    simp only [cond_true] at H
    split at H
    ·next cs =>
     obtain ⟨⟨l, hl, hn⟩, H⟩ := H
     obtain ⟨th⟩ := hT.told kt (by rw [e]; simp)
     have hd := th.hd
     rw [tdOf_arr (P := P) (d := th.d) (by rw [← th.td, e])] at hd
     obtain ⟨te⟩ := hT.told et (by rw [e2]; simp)
     have hde := te.hd
     rw [tdOf_int (P := P) (d := te.d) (by rw [← te.td, e2])] at hde
     have hs1 : te.i.size = 1 := by rw [← te.size]; simpa using hz
     have hx0 := hx
     simp only [VR] at hx
     obtain ⟨ds, rfl, hds, _⟩ := hx
     have := intsOf_VRs hl hds
     have e3 : ds = (l.map (Value.int .i64)).toArray := by rw [← this]
     subst e3
     exact ⟨_, key_ints hd hde (fun w => by rw [run_sizeOf te.hi, hs1]) hl hn, hx0, H⟩
    ·exact H.elim
  ·exact H.elim
 ·exact H.elim
theorem newM_sound (r : Rel μ h w) {t : TypeId} {K : AVal → H → Prop} (H : newM h K) : ∃ d w' v h' μ', (Instr.makeMap t none).run P w = .ok d w' ∧ K v h' ∧ Tr μ h w μ' h' w' ∧ VR μ' h' v d := by
 refine ⟨.map (some w.heap.size), _, _, _, _, ?_, H, Tr.newMap r, ?_⟩
 ·simp [Instr.makeMap, Result.andThen]
 ·simp only [VR, MR]
  refine ⟨by unfold inf; simp, _, rfl, fun m e => ?_⟩
  rw [upd_self]
theorem mput_sound (hT : TOK P T) (r : Rel μ h w) {t kt e : Nat} (ht : (tget T t).d = .map kt e) {m key x : AVal} {m' k' x' : Value} (hk : KeyIs P w μ h kt key k') (hkv : VR μ h key k') (hm : VR μ h m m') (hx : VR μ h x x') {K : H → Prop} (H : mput m key x h K) :
  ∃ w' h', (Instr.mapUpdate t m' k' x').run P w = .ok () w' ∧ K h' ∧ Tr μ h w μ h' w' := by
 obtain ⟨o, es, es', rfl, ho, hp, H⟩ := H
 obtain ⟨th⟩ := hT.told t (by rw [ht]; simp)
 have hd := th.hd
 rw [tdOf_map (P := P) (d := th.d) (by rw [← th.td, ht])] at hd
 obtain ⟨hlt, ms, ck, hb, ⟨hsz, hck⟩, hr⟩ := r.mp o es ho
 have hq : m' = .map (some (μ o).b) := by
  simp only [VR, MR] at hm
  obtain ⟨_, q, rfl, hq⟩ := hm
  rw [hq 0 (by unfold inf; rw [ho])]
 subst hq
 have hf : ∃ f, mpFind key es = some f := by
  clear hsz hck hr ho
  revert hp
  generalize es' = es2
  intro hp
  induction es generalizing es2 with
  | nil => exact ⟨_, rfl⟩
  | cons a es ih =>
   simp only [mpPut] at hp
   simp only [mpFind]
   split at hp
   ·exact ⟨_, rfl⟩
   ·cases h2 : mpPut key x es with
    | none => rw [h2] at hp; cases hp
    | some y => exact ih y h2
   ·cases hp
 obtain ⟨f, hf⟩ := hf
 rcases hk.find es ms.toList (by simpa using hsz) (fun i k v hv => by obtain ⟨m, a, _, b⟩ := hr i k v hv; exact ⟨m, by simpa using a, b⟩) f hf with ⟨_, h1, h2⟩ | ⟨i, v, m, _, h1, h2, ⟨k, h3⟩, h4, h5, h6⟩
 ·have e1 : es' = es ++ [(key, x)] := by rw [h2] at hp; exact (Option.some.inj hp).symm
  subst e1
  have tr := Tr.setMap r ho (es' := es ++ [(key, x)]) (ms' := ms.push ⟨k', x', ck⟩) (by simp [hsz]) (fun i k v hv => by
   rw [List.getElem?_append] at hv
   split at hv
   ·next hi =>
    obtain ⟨m, a, b⟩ := hr i k v hv
    exact ⟨m, by rw [Array.getElem?_push, if_neg (by omega)]; exact a, b⟩
   ·next hi =>
    have hi2 : i = es.length := by
     have := (List.getElem?_eq_some_iff.1 hv).1
     simp at this; omega
    subst hi2
    simp at hv
    obtain ⟨rfl, rfl⟩ := hv
    exact ⟨⟨k', x', ck⟩, by rw [Array.getElem?_push, if_pos hsz.symm], hck, hkv, hx⟩)
  refine ⟨_, _, ?_, H, tr⟩
  simp [Instr.mapUpdate, run_underlying hd, Go.MapKept.run_getObj_map hb, hk.check, h1, Go.MapKept.run_setObj_map _ hb, Result.andThen, hck]
 ·have e1 : es' = es.set i (key, x) := by rw [h6] at hp; exact (Option.some.inj hp).symm
  subst e1
  have hj : ms[i]? = some m := by simpa using h2
  have hi : i < es.length := (List.getElem?_eq_some_iff.1 h3).1
  have tr := Tr.setMap r ho (es' := es.set i (key, x)) (ms' := ms.modify i fun e => { e with key := k', val := x' }) (by simp [hsz]) (fun j k2 v2 hv => by
   rw [List.getElem?_set] at hv
   split at hv
   ·next hij =>
    subst hij
    first | (rw [if_pos hi] at hv) | skip
    cases hv
    obtain ⟨m2, a, b, _⟩ := hr i k v h3
    rw [hj] at a; cases a
    exact ⟨{ m with key := k', val := x' }, by rw [Array.getElem?_modify, if_pos rfl, hj]; rfl, b, hkv, hx⟩
   ·next hij =>
    obtain ⟨m2, a, b⟩ := hr j k2 v2 hv
    exact ⟨m2, by rw [Array.getElem?_modify, if_neg hij]; exact a, b⟩)
  rw [List.length_set] at tr
  refine ⟨_, _, ?_, H, tr⟩
  simp [Instr.mapUpdate, run_underlying hd, Go.MapKept.run_getObj_map hb, hk.check, h1, hj, h5, hk.stays, Go.MapKept.run_setObj_map _ hb, Result.andThen, hck]
theorem mapAt_rel (r : Rel μ h w) {q : Option Nat} {es : List (AVal × AVal)} (ho : mapAt h q = some es) {m' : Value} (hm : VR μ h (.map q) m') : (m' = .map none ∧ es = []) ∨ ∃ b ms ck, m' = .map (some b) ∧ w.heap[b]? = some (.map ms ck) ∧ ms.size = es.length ∧
  ∀ (i : Nat) k v, es[i]? = some (k, v) → ∃ m, ms.toList[i]? = some m ∧ VR μ h k m.key ∧ VR μ h v m.val := by
 simp only [VR, MR] at hm
 cases q with
 | none =>
  simp only [mapAt] at ho
  cases ho
  exact .inl ⟨hm, rfl⟩
 | some o =>
  simp only [mapAt] at ho
  split at ho
  ·next es2 ho2 =>
   cases ho
   obtain ⟨hlt, ms, ck, hb, ⟨hsz, hck⟩, hr⟩ := r.mp o _ ho2
   obtain ⟨_, q, rfl, hq⟩ := hm
   rw [hq 0 (by unfold inf; rw [ho2])]
   exact .inr ⟨_, ms, ck, rfl, hb, hsz, fun i k v hv => by obtain ⟨m, a, _, b⟩ := hr i k v hv; exact ⟨m, by simpa using a, b⟩⟩
  ·cases ho
theorem mget_sound (hT : TOK P T) (r : Rel μ h w) {t kt e : Nat} (ht : (tget T t).d = .map kt e) {q : Option Nat} {key : AVal} {m' k' : Value} (hk : KeyIs P w μ h kt key k') (hm : VR μ h (.map q) m') {es : List (AVal × AVal)} (ho : mapAt h q = some es) {f : Option AVal} (hf : mpFind key es = some f) {z : Value} (hz : (zeroValue e).run P w = .ok z w) :
  ∃ d, (Instr.lookup t m' k' false).run P w = .ok d w ∧ ((f = none ∧ d = z) ∨ ∃ v, f = some v ∧ VR μ h v d) := by
 obtain ⟨th⟩ := hT.told t (by rw [ht]; simp)
 have hd := th.hd
 rw [tdOf_map (P := P) (d := th.d) (by rw [← th.td, ht])] at hd
 rcases mapAt_rel r ho hm with ⟨rfl, rfl⟩ | ⟨b, ms, ck, rfl, hb, hsz, hr⟩
 ·rcases hk.find [] [] rfl (fun i k v hv => by simp at hv) f hf with ⟨a, h1, _⟩ | ⟨i, v, m, _, _, h2, _⟩
  ·refine ⟨z, ?_, .inl ⟨a, rfl⟩⟩
   simp [Instr.lookup, run_underlying hd, hk.check, h1, hz, Result.andThen]
  ·simp at h2
 ·rcases hk.find es ms.toList (by simpa using hsz) hr f hf with ⟨a, h1, _⟩ | ⟨i, v, m, a, h1, h2, _, h4, _⟩
  ·refine ⟨z, ?_, .inl ⟨a, rfl⟩⟩
   simp [Instr.lookup, run_underlying hd, Go.MapKept.run_getObj_map hb, hk.check, h1, hz, Result.andThen]
  ·refine ⟨m.val, ?_, .inr ⟨v, a, h4⟩⟩
   simp [Instr.lookup, run_underlying hd, Go.MapKept.run_getObj_map hb, hk.check, h1, Result.andThen]
theorem zeroOK_int {j : IntKind} {z : Value} (e : zeroOK (.int j) z = true) : z = .int j 0 := by
 cases z <;> simp [zeroOK] at e
 rw [e.1, e.2]
theorem zeroOK_bool {z : Value} (e : zeroOK .bool z = true) : z = .bool false := by
 cases z <;> simp [zeroOK] at e
 rw [e]
theorem zeroV_run {e : Nat} (th : Told P T e) : (zeroValue e).run P w = .ok th.z w := by simp [zeroValue, typeInfo, th.hi, th.hz]
end
end Go.Proofs.Ytcoampecbpiecaa.Cl
set_option linter.unusedVariables false
set_option linter.unusedSimpArgs false
namespace Go.Proofs.Ytcoampecbpiecaa.Cl
open Go
section
variable {P : Program} {T : Tab} {μ : Mu} {h : H} {w : World}
theorem bif_true {b : Bool} {A : Prop} (H : bif b then A else False) : b = true ∧ A := by
 cases b
 ·exact H.elim
 ·exact ⟨rfl, H⟩
theorem bounds_of {fr : Frame} {a : Act} (hf : VRs μ h fr a.tmps.toList) (lo : Option Operand) (z : Int) {k : IntKind} {n : Int} (e : (lo.map (ev fr)).getD (i64 z) = .int k n) : Bound (lo.map a.eval) z n := by
 cases lo with
 | none => simp at e; rw [← e.2]; exact .none z
 | some x =>
  simp at e
  have := ev_sound hf x
  rw [e] at this
  simp only [VR] at this
  simp only [Option.map_some, this]
  exact .told k n z
theorem partT_lt {t : Nat} {cs : List AVal} {i : Int} {K : AVal → Prop} (hs : (tget T t).size = 1) (H : partT T t cs i K) : i.toNat < cs.length := by
 unfold partT at H
 split at H <;> first
  |(obtain ⟨n, h0, h1, h2⟩ := H; exact (List.getElem?_eq_some_iff.1 h1).1)
  |(obtain ⟨⟨h0, h1⟩, h2⟩ := H; omega)
  | exact H.elim
theorem args2 {α β : Type} {f : α → β} {l : Array α} {a b : β} (e : l.toList.map f = [a, b]) : ∃ x y, l = #[x, y] ∧ f x = a ∧ f y = b := by
 obtain ⟨l⟩ := l
 cases l with
 | nil => simp at e
 | cons x l => cases l with
  | nil => simp at e
  | cons y l => cases l with
   | nil => simp at e; exact ⟨x, y, rfl, e.1, e.2⟩
   | cons z l => simp at e
theorem args1 {α β : Type} {f : α → β} {l : Array α} {a : β} (e : l.toList.map f = [a]) : ∃ x, l = #[x] ∧ f x = a := by
 obtain ⟨l⟩ := l
 cases l with
 | nil => simp at e
 | cons x l => cases l with
  | nil => simp at e; exact ⟨x, rfl, e⟩
  | cons y l => simp at e
theorem OpOK.builtin {ρ : Operand → Value} {c : Call} {ty : TypeId} {b : Builtin} (hc : c.callee = .builtin b) {s : Sem Value} {R : Value → World → Prop} {d w'}
  (hb : ∀ cs, builtin b c.argTypes ty cs (c.args.map ρ) = (do pure (.value (← s)))) (e : s.run P w = .ok d w') (h : R d w') :
  OpOK P (do let d ← resolve ρ c ty; invoke d.target d.args) w R := by
 have : (do let d ← resolve ρ c ty; invoke d.target d.args : Sem Next) = (do pure (.value (← s))) := by
  unfold resolve
  simp only [hc, pure_bind]
  exact hb _
 rw [this]
 exact OpOK.val e h
theorem op_sound {S : SatT} (hS : ∀ f args h v h2, S f args h v h2 → Sat P f args h v h2) (hT : TOK P T) (r : Rel μ h w) {o : Oper} {fr : Frame} {a : Act} (hf : VRs μ h fr a.tmps.toList) {K : AVal → H → Prop}
  (H : opK S T o fr h K) : OpOK P (execOp a.eval o) w (Post μ h w K) := by
 have hev := fun x => ev_sound hf x
 unfold opK at H
 unfold execOp
 cases ho : o.op with
 | move x => simp only [ho] at H ⊢; exact Post.here r H (hev x)
 | assign x => simp only [ho] at H ⊢; exact Post.here r H (hev x)
 | pick c x y =>
  simp only [ho] at H ⊢
  unfold pickK at H
  have hc := hev c
  split at H
  ·next b e =>
   rw [e] at hc
   simp only [VR] at hc
   have main : ∀ v, K v h → VR μ h v (if b = true then a.eval x else a.eval y) → OpOK P (do pure (Next.value (if ← asBool (a.eval c) then a.eval x else a.eval y))) w (Post μ h w K) := by
    intro v hK hv
    rw [hc]
    unfold OpOK
    simp only [asBool, Sem.run_bind, Sem.run_pure, Result.andThen_ok]
    exact Post.here r hK hv
   have hx := hev x
   have hy := hev y
   split at H
   ·next p q e1 e2 =>
    rw [e1] at hx
    rw [e2] at hy
    refine main _ H ?_
    cases b <;> simpa [VR] using by assumption
   ·cases b
    ·exact main _ H hy
    ·exact main _ H hx
  ·exact H.elim
 | alloc t =>
  simp only [ho] at H ⊢
  obtain ⟨hb, H⟩ := bif_true H
  obtain ⟨x, w', μ', h1, h2, h3⟩ := alloc_sound (P := P) hT r (t := t) (by intro e; rw [e] at hb; simp [TInfo.none] at hb)
  exact OpOK.val h1 ⟨_, _, μ', H, h2, h3⟩
 | box t x =>
  simp only [ho] at H ⊢
  have hx := hev x
  cases hA : isAggT T t with
  | true =>
   rw [hA] at H
   simp only [cond_true] at H
   split at H
   ·next cs e =>
    rw [e] at hx
    simp only [VR] at hx
    obtain ⟨ds, hd, hds, hall⟩ := hx
    obtain ⟨hl, H⟩ := H
    rw [hd]
    obtain ⟨y, w', μ', h1, h2, h3⟩ := box_sound (P := P) r (t := t) (x := .agg ds) (cs := cs) hds hall
    rw [hl] at h3
    exact OpOK.val h1 ⟨_, _, μ', H, h2, h3⟩
   ·exact H.elim
  | false =>
   rw [hA] at H
   simp only [cond_false] at H
   obtain ⟨hb, H⟩ := bif_true H
   rw [Bool.and_eq_true] at hb
   obtain ⟨y, w', μ', h1, h2, h3⟩ := box_sound (P := P) r (t := t) (x := a.eval x) (cs := [ev fr x]) (by rw [cells_of_isCell hx hb.1]; exact VRs.cons hx VRs.nil) (by simp [hb.1])
   exact OpOK.val h1 ⟨_, _, μ', H, h2, h3⟩
 | build t ps =>
  simp only [ho] at H ⊢
  have H' : match (tget T t).d with
   | .struct fs => fillK T (fun i => fs[i]?) (tget T t).size (parts ps fr) (tget T t).zero fun cs => K (.agg cs) h
   | .arr _ e => bif decide (0 < (tget T e).size) then fillK T (fun i => some (i * (tget T e).size, e)) (tget T t).size (parts ps fr) (tget T t).zero fun cs => K (.agg cs) h else False
   | _ => False := H
  obtain ⟨cs, x, h1, h2, h3⟩ := build_sound (P := P) (a := a) r hT hf hev (K := fun cs => K (.agg cs) h) H'
  exact OpOK.val h1 (Post.here r h2 h3)
 | buildSlice t n ps =>
  simp only [ho] at H ⊢
  split at H
  ·next e he =>
   obtain ⟨x, w', h', μ', s, h1, h2, h3, h4⟩ := buildSlice_sound (P := P) (a := a) r hT hf hev (K := fun s h => K (.sl s) h) he H
   exact OpOK.val h1 ⟨_, _, μ', h2, h3, h4⟩
  ·exact H.elim
 | load t x =>
  simp only [ho] at H ⊢
  have hx := hev x
  split at H
  ·next p e =>
   rw [e] at hx
   obtain ⟨v, d, h1, h2, h3⟩ := ldT_sound (P := P) hT r hx H
   exact OpOK.val h1 (Post.here r h2 h3)
  ·exact H.elim
 | store t x y =>
  simp only [ho] at H ⊢
  have hx := hev x
  split at H
  ·next p e =>
   rw [e] at hx
   obtain ⟨w', h', h1, h2, h3⟩ := stT_sound (P := P) hT r hx (hev y) H
   exact OpOK.unit h1 ⟨_, _, μ, h2, h3, rfl⟩
  ·exact H.elim
 | nilCheck x =>
  simp only [ho] at H ⊢
  have hx := hev x
  obtain ⟨hn, H⟩ := H
  unfold AVal.nonNil at hn
  split at hn
  ·next p e =>
   rw [e] at hx H
   have hx' := hx
   simp only [VR, PR] at hx'
   split at hx'
   ·next e2 => rw [e2] at hn; cases hn
   ·obtain ⟨_, q, hq, _⟩ := hx'
    rw [hq] at hx ⊢
    exact Post.here r H hx
  ·next f c e =>
   rw [e] at hx H
   have hx' := hx
   simp only [VR] at hx'
   obtain ⟨ds, hd, _⟩ := hx'
   rw [hd] at hx ⊢
   exact Post.here r H hx
  ·cases hn
 | binOp op t x y yt =>
  simp only [ho] at H ⊢
  cases hst : isStrT T t with
  | true =>
   rw [hst] at H
   simp only [cond_true] at H
   obtain ⟨v, d, h1, h2, h3⟩ := binStr_sound (P := P) (w := w) (t := t) (ox := x) (oy := y) (hev x) (hev y) H
   exact OpOK.val h1 (Post.here r h2 h3)
  | false =>
   rw [hst] at H
   simp only [cond_false] at H
   obtain ⟨v, d, h1, h2, h3⟩ := binK_sound (P := P) (w := w) (ox := x) (oy := y) hT (hev x) (hev y) H
   exact OpOK.val h1 (Post.here r h2 h3)
 | unOp op t x =>
  simp only [ho] at H ⊢
  have hx := hev x
  split at H
  ·next e =>
   rw [e] at hx
   simp only [VR] at hx
   rw [hx]
   exact OpOK.val (d := .bool (!_)) (w' := w) rfl (Post.here r H rfl)
  ·next e =>
   rw [e] at hx
   simp only [VR] at hx
   rw [hx]
   exact OpOK.val (w' := w) rfl (Post.here r H rfl)
  ·exact H.elim
 | convert s d x =>
  simp only [ho] at H ⊢
  have hx := hev x
  split at H
  ·next k1 k k2 n e1 e2 e3 =>
   rw [e3] at hx
   simp only [VR] at hx
   rw [hx]
   obtain ⟨ts⟩ := hT.told s (by rw [e1]; simp)
   obtain ⟨td⟩ := hT.told d (by rw [e2]; simp)
   have hs := ts.hd
   have hd := td.hd
   rw [tdOf_int (P := P) (d := ts.d) (by rw [← ts.td, e1])] at hs
   rw [tdOf_int (P := P) (d := td.d) (by rw [← td.td, e2])] at hd
   refine OpOK.val (w' := w) (d := .int k (k.wrap n)) ?_ (Post.here r H rfl)
   simp only [convert, Sem.run_bind, run_underlying hs, run_underlying hd, Result.andThen_ok]
   rfl
  ·exact H.elim
 | makeFunc fn first cap =>
  simp only [ho] at H ⊢
  split at H
  ·next f =>
   obtain ⟨hb, H⟩ := bif_true H
   refine OpOK.val (w' := w) rfl (Post.here r H ?_)
   simp only [VR]
   refine ⟨cap.map a.eval, ?_, ?_⟩
   ·have : first = #[] := by simpa using hb
    rw [this]; simp
   ·rw [Array.toList_map]; exact maps_VRs hf _
  ·exact H.elim
 | makeSlice t n c =>
  simp only [ho] at H ⊢
  have hn := hev n
  have hc := hev c
  split at H
  ·next e k x k' y e1 e2 e3 =>
   obtain ⟨hb, H⟩ := bif_true H
   rw [Bool.and_eq_true, Bool.and_eq_true] at hb
   obtain ⟨⟨hb1, hb2⟩, hb3⟩ := hb
   have hxy : x = y := by
    split at hb3
    ·next i j =>
     have : i = j := by simpa using hb3
     subst this
     rw [e2] at e3
     simp at e3
     exact e3.2
    ·next k1 i k2 j =>
     have : i = j := by simpa using hb3
     subst this
     simp [ev, cv] at e2 e3
     omega
    ·cases hb3
   subst hxy
   rw [e2] at hn
   rw [e3] at hc
   simp only [VR] at hn hc
   rw [hn, hc]
   obtain ⟨z, w', h', μ', s, h1, h2, h3, h4⟩ := makeSlice_sound (P := P) (k := k) (k' := k') (K := fun s h => K (.sl s) h) r hT e1 (by simpa using hb1) (by simpa using hb2) H
   exact OpOK.val h1 ⟨_, _, μ', h2, h3, h4⟩
  ·exact H.elim
 | slice t x lo hi mx =>
  simp only [ho] at H ⊢
  have hx := hev x
  split at H
  ·next e s e1 e2 =>
   rw [e2] at hx
   split at H
   ·next k1 p k2 q e3 e4 =>
    obtain ⟨hb, H⟩ := bif_true H
    obtain ⟨y, s', h1, h2, h3⟩ := cut_sound (P := P) (w := w) (K := fun s => K (.sl s) h) hx hT e1 (by simpa using hb) (bounds_of hf lo 0 e3) (bounds_of hf hi s.len e4) H
    exact OpOK.val h1 (Post.here r h2 h3)
   ·exact H.elim
  ·next n e p e1 e2 =>
   rw [e2] at hx
   split at H
   ·next k1 p' k2 q e3 e4 =>
    obtain ⟨hb, H⟩ := bif_true H
    obtain ⟨y, s', h1, h2, h3⟩ := cutA_sound (P := P) (w := w) (K := fun s => K (.sl s) h) r hx hT e1 (by simpa using hb) (bounds_of hf lo 0 e3) (bounds_of hf hi n e4) H
    exact OpOK.val h1 (Post.here r h2 h3)
   ·exact H.elim
  ·next e1 =>
   obtain ⟨s, e2, H⟩ := H
   rw [e2] at hx
   simp only [VR] at hx
   rw [hx]
   split at H
   ·next k1 p' k2 q e3 e4 =>
    obtain ⟨s', h1, h2⟩ := cutStr_sound (P := P) (w := w) (K := fun s => K (.str s) h) hT e1 (bounds_of hf lo 0 e3) (bounds_of hf hi s.size e4) H
    exact OpOK.val h1 (Post.here r h2 (by simp only [VR]))
   ·exact H.elim
  ·exact H.elim
 | fieldAddr t x f =>
  simp only [ho] at H ⊢
  have hx := hev x
  split at H
  ·next fs p e1 e2 =>
   rw [e2] at hx
   split at H
   ·next off u e3 =>
    obtain ⟨hp, H⟩ := H
    obtain ⟨y, h1, h2⟩ := fieldAt_sound (P := P) (w := w) hx hT e1 e3 hp
    exact OpOK.val h1 (Post.here r H h2)
   ·exact H.elim
  ·exact H.elim
 | field t x f =>
  simp only [ho] at H ⊢
  have hx := hev x
  split at H
  ·next fs cs e1 e2 =>
   rw [e2] at hx
   simp only [VR] at hx
   obtain ⟨ds, hd, hds, hall⟩ := hx
   split at H
   ·next off u e3 =>
    obtain ⟨_, v, d, h1, h2, h3⟩ := partT_sound (P := P) (w := w) hT hds hall H
    obtain ⟨th⟩ := hT.told t (by rw [e1]; simp)
    obtain ⟨fs', hu, rfl, hfs⟩ := tdOf_struct (P := P) (d := th.d) (by rw [← th.td, e1])
    have hdd := th.hd
    rw [hu] at hdd
    rw [List.getElem?_map] at e3
    cases hq : fs'.toList[f]? with
    | none => rw [hq] at e3; cases e3
    | some g =>
     rw [hq] at e3
     simp at e3
     obtain ⟨rfl, rfl⟩ := e3
     rw [Array.getElem?_toList] at hq
     rw [hd]
     refine OpOK.val (w' := w) (d := d) ?_ (Post.here r h2 h3)
     simp only [Instr.field, Sem.run_bind, run_underlying hdd, Result.andThen_ok, hq, asAgg, Sem.run_pure]
     simpa using h1
   ·exact H.elim
  ·exact H.elim
 | indexAddr t x i =>
  simp only [ho] at H ⊢
  have hx := hev x
  have hi := hev i
  split at H
  ·next e s k n e1 e2 e3 =>
   rw [e2] at hx
   rw [e3] at hi
   simp only [VR] at hi
   rw [hi]
   obtain ⟨p, y, h1, h2, h3⟩ := ixS_sound (P := P) (w := w) (k := k) (K := fun p => K (.ptr p) h) hx hT e1 H
   exact OpOK.val h1 (Post.here r h2 h3)
  ·next len e p k n e1 e2 e3 =>
   rw [e2] at hx
   rw [e3] at hi
   simp only [VR] at hi
   rw [hi]
   obtain ⟨hb, H⟩ := bif_true H
   obtain ⟨p, y, h1, h2, h3⟩ := ixA_sound (P := P) (w := w) (k := k) (K := fun p => K (.ptr p) h) hx hT e1 (by simpa using hb) H
   exact OpOK.val h1 (Post.here r h2 h3)
  ·exact H.elim
 | index t x i =>
  simp only [ho] at H ⊢
  have hx := hev x
  have hi := hev i
  split at H
  ·next len e cs k n e1 e2 e3 =>
   rw [e2] at hx
   rw [e3] at hi
   simp only [VR] at hi hx
   obtain ⟨ds, hd, hds, hall⟩ := hx
   rw [hi, hd]
   obtain ⟨hb, hl, H⟩ := bif_true H
   obtain ⟨h0, v, d, h1, h2, h3⟩ := partT_sound (P := P) (w := w) hT hds hall H
   obtain ⟨th⟩ := hT.told t (by rw [e1]; simp)
   have hu := tdOf_arr (P := P) (d := th.d) (by rw [← th.td, e1])
   have hdd := th.hd
   rw [hu] at hdd
   have hs1 : (tget T e).size = 1 := by simpa using hb
   obtain ⟨te⟩ := hT.toldS e (by omega)
   have hlt : n < len := by
    have := partT_lt hs1 H
    rw [hl] at this
    omega
   refine OpOK.val (w' := w) (d := d) ?_ (Post.here r h2 h3)
   simp only [Instr.index, Sem.run_bind, asIntOf, Sem.run_pure, Result.andThen_ok, run_underlying hdd]
   rw [if_pos ⟨h0, hlt⟩]
   simp only [Sem.run_bind, run_sizeOf te.hi, Result.andThen_ok]
   rw [← te.size, hs1, Nat.mul_one]
   exact h1
  ·next k n e1 e3 =>
   obtain ⟨s, e2, H⟩ := H
   rw [e2] at hx
   rw [e3] at hi
   simp only [VR] at hi hx
   rw [hi, hx]
   obtain ⟨b, h0, hb, H⟩ := H
   obtain ⟨th⟩ := hT.told t (by rw [e1]; simp)
   have hu := tdOf_str (P := P) (d := th.d) (by rw [← th.td, e1])
   have hdd := th.hd
   rw [hu] at hdd
   refine OpOK.val (w' := w) (d := .int .u8 (b.toNat : Nat)) ?_ (Post.here r H (by simp only [VR]))
   simp only [Instr.index, Sem.run_bind, asIntOf, Sem.run_pure, Result.andThen_ok, run_underlying hdd]
   rw [if_pos h0, hb]
   simp only [Sem.run_pure]
  ·exact H.elim
 | extract x i =>
  simp only [ho] at H ⊢
  have hx := hev x
  obtain ⟨vs, e, H⟩ := H
  rw [e] at hx
  obtain ⟨v, d, h1, h2, h3⟩ := extract_sound (P := P) (w := w) hx H
  exact OpOK.val h1 (Post.here r h2 h3)
 | makeMap t hint =>
  simp only [ho] at H ⊢
  split at H
  ·obtain ⟨d, w', v, h', μ', h1, h2, h3, h4⟩ := newM_sound (P := P) (t := t) r H
   exact OpOK.val h1 ⟨_, _, μ', h2, h3, h4⟩
  ·exact H.elim
 | mapUpdate t m k x =>
  simp only [ho] at H ⊢
  split at H
  ·next kt e he =>
   obtain ⟨key, hk, hkv, H⟩ := keyK_sound (P := P) (w := w) hT (hev k) H
   obtain ⟨w', h', h1, h2, h3⟩ := mput_sound (P := P) hT r he hk hkv (hev m) (hev x) H
   exact OpOK.unit h1 ⟨_, _, μ, h2, h3, rfl⟩
  ·exact H.elim
 | lookup t m k ok =>
  simp only [ho] at H ⊢
  split at H
  ·next kt e he =>
   obtain ⟨key, hk, hkv, H⟩ := keyK_sound (P := P) (w := w) hT (hev k) H
   split at H
   ·next j hj =>
    obtain ⟨te⟩ := hT.told e (by rw [hj]; simp)
    have hde := tdOf_int (P := P) (d := te.d) (by rw [← te.td, hj])
    have hzk := te.zok
    rw [hde] at hzk
    have hz : te.z = .int j 0 := zeroOK_int hzk
    obtain ⟨q, es, f, n, hq, hes, hf, hfn, H⟩ := H
    have hm := hev m
    rw [hq] at hm
    obtain ⟨d, h1, h2⟩ := mget_sound (P := P) hT r he hk hm hes hf (zeroV_run te)
    refine OpOK.val h1 (Post.here r H ?_)
    rcases h2 with ⟨a, b⟩ | ⟨v, a, b⟩
    ·rcases hfn with ⟨_, rfl⟩ | hfn
     ·rw [b, hz]; simp only [VR]
     ·rw [a] at hfn; cases hfn
    ·rcases hfn with ⟨c, _⟩ | hfn
     ·rw [a] at c; cases c
     ·rw [a] at hfn; cases hfn; exact b
   ·next hj =>
    obtain ⟨te⟩ := hT.told e (by rw [hj]; simp)
    have hde := tdOf_bool (P := P) (d := te.d) (by rw [← te.td, hj])
    have hzk := te.zok
    rw [hde] at hzk
    have hz : te.z = .bool false := zeroOK_bool hzk
    obtain ⟨q, es, f, n, hq, hes, hf, hfn, H⟩ := H
    have hm := hev m
    rw [hq] at hm
    obtain ⟨d, h1, h2⟩ := mget_sound (P := P) hT r he hk hm hes hf (zeroV_run te)
    refine OpOK.val h1 (Post.here r H ?_)
    rcases h2 with ⟨a, b⟩ | ⟨v, a, b⟩
    ·rcases hfn with ⟨_, rfl⟩ | hfn
     ·rw [b, hz]; simp only [VR]
     ·rw [a] at hfn; cases hfn
    ·rcases hfn with ⟨c, _⟩ | hfn
     ·rw [a] at c; cases c
     ·rw [a] at hfn; cases hfn; exact b
   ·exact H.elim
  ·exact H.elim
 | call c =>
  simp only [ho] at H ⊢
  have hargs := maps_VRs hf c.args.toList
  split at H
  ·
   next g hc =>
   have e : (do let d ← resolve a.eval c o.type; invoke d.target d.args : Sem Next) = callFunc g (c.args.map a.eval) := by
    unfold resolve
    simp only [hc, Act.eval, Deferred.ofValue, pure_bind, invoke]
    simp
   rw [e]
   have := call_sound hS r H hargs
   rwa [show (c.args.toList.map a.eval).toArray = c.args.map a.eval from Array.toList_inj.1 (by simp)] at this
  ·
   next f _ hc =>
   obtain ⟨g, cap, hg, H⟩ := H
   have hf' := hev f
   rw [hg] at hf'
   simp only [VR] at hf'
   obtain ⟨ds, hd, hds⟩ := hf'
   have e : (do let d ← resolve a.eval c o.type; invoke d.target d.args : Sem Next) = callFunc g (c.args.map a.eval ++ ds) := by
    unfold resolve
    simp only [hc, hd, Deferred.ofValue, pure_bind, invoke]
    simp
   rw [e]
   have := call_sound hS r H (hargs.append hds)
   rwa [show (c.args.toList.map a.eval ++ ds.toList).toArray = c.args.map a.eval ++ ds from Array.toList_inj.1 (by simp)] at this
  ·next hc =>
   split at H
   ·next e e2 =>
    split at H
    ·next s e1 =>
     obtain ⟨x, hx, hxs⟩ := args1 e1
     obtain ⟨t, ht, hte⟩ := args1 e2
     have hv := hev x
     rw [hxs] at hv
     simp only [VR] at hv
     obtain ⟨th⟩ := hT.told t (by rw [hte]; simp)
     have hd := th.hd
     rw [tdOf_sl (P := P) (d := th.d) (by rw [← th.td, hte])] at hd
     refine OpOK.builtin hc (fun cs => rfl) (d := .int .i64 s.len) (w' := w) ?_ (Post.here r H rfl)
     rw [hx, ht]
     unfold SR at hv
     split at hv
     ·obtain ⟨hl, hv⟩ := hv
      simp [Builtin.len_, hv, run_underlying hd, hl, goInt]
     ·obtain ⟨_, _, p, q, hv, _⟩ := hv
      simp [Builtin.len_, hv, run_underlying hd, goInt]
    ·exact H.elim
   ·next n e e2 =>
    split at H
    ·next v e1 =>
     obtain ⟨x, hx, hxs⟩ := args1 e1
     obtain ⟨t, ht, hte⟩ := args1 e2
     obtain ⟨th⟩ := hT.told t (by rw [hte]; simp)
     have hd := th.hd
     rw [tdOf_arr (P := P) (d := th.d) (by rw [← th.td, hte])] at hd
     refine OpOK.builtin hc (fun cs => rfl) (d := .int .i64 n) (w' := w) ?_ (Post.here r H rfl)
     rw [hx, ht]
     simp [Builtin.len_, run_underlying hd, goInt]
    ·exact H.elim
   ·next kt e e2 =>
    split at H
    ·next m e1 =>
     obtain ⟨x, hx, hxs⟩ := args1 e1
     obtain ⟨t, ht, hte⟩ := args1 e2
     have hv := hev x
     rw [hxs] at hv
     obtain ⟨th⟩ := hT.told t (by rw [hte]; simp)
     have hd := th.hd
     rw [tdOf_map (P := P) (d := th.d) (by rw [← th.td, hte])] at hd
     obtain ⟨q, es, rfl, hes, H⟩ := H
     refine OpOK.builtin hc (fun cs => rfl) (d := .int .i64 (es.length : Nat)) (w' := w) ?_ (Post.here r H rfl)
     rw [hx, ht]
     rcases mapAt_rel r hes hv with ⟨hv, rfl⟩ | ⟨b, ms, ck, hv, hb, hsz, _⟩
     ·simp [Builtin.len_, hv, run_underlying hd, goInt]
     ·simp [Builtin.len_, hv, run_underlying hd, goInt, Go.MapKept.run_getObj_map hb, hsz, Result.andThen]
    ·exact H.elim
   ·next e2 =>
    split at H
    ·next v e1 =>
     obtain ⟨x, hx, hxs⟩ := args1 e1
     obtain ⟨t, ht, hte⟩ := args1 e2
     obtain ⟨s, es, H⟩ := H
     have hv := hev x
     rw [hxs, es] at hv
     simp only [VR] at hv
     obtain ⟨th⟩ := hT.told t (by rw [hte]; simp)
     have hd := th.hd
     rw [tdOf_str (P := P) (d := th.d) (by rw [← th.td, hte])] at hd
     refine OpOK.builtin hc (fun cs => rfl) (d := .int .i64 s.size) (w' := w) ?_ (Post.here r H rfl)
     rw [hx, ht]
     simp [Builtin.len_, hv, run_underlying hd, goInt]
    ·exact H.elim
   ·exact H.elim
  ·next hc =>
   split at H
   ·next s x e ex e1 e2 =>
    obtain ⟨hb, H⟩ := bif_true H
    rw [Bool.and_eq_true, Bool.and_eq_true] at hb
    obtain ⟨⟨hb1, hb2⟩, hb3⟩ := hb
    obtain ⟨x1, x2, hx, hx1, hx2⟩ := args2 e1
    obtain ⟨t1, t2, ht, ht1, ht2⟩ := args2 e2
    have hv1 := hev x1
    have hv2 := hev x2
    rw [hx1] at hv1
    rw [hx2] at hv2
    obtain ⟨y, w', h', μ', s', k1, k2, k3, k4⟩ := app_sound (P := P) (ty := o.type) (K := fun s h => K (.sl s) h) r hT ht1 ht2 (by simpa using hb1) (by simpa using hb2) (by simpa using hb3) hv1 hv2 H
    refine OpOK.builtin hc (fun cs => rfl) (d := y) (w' := w') ?_ ⟨_, _, μ', k2, k3, k4⟩
    rw [hx, ht]
    simp only [List.map_toArray, List.map_cons, List.map_nil]
    exact k1
   ·exact H.elim
  ·next hc =>
   split at H
   ·next s x e ex e1 e2 =>
    obtain ⟨hb, H⟩ := bif_true H
    obtain ⟨x1, x2, hx, hx1, hx2⟩ := args2 e1
    obtain ⟨t1, t2, ht, ht1, ht2⟩ := args2 e2
    have hv1 := hev x1
    have hv2 := hev x2
    rw [hx1] at hv1
    rw [hx2] at hv2
    obtain ⟨w', h', n, k1, k2, k3⟩ := copy_sound (P := P) (ty := o.type) (K := fun n h => K (.int .i64 n) h) r hT ht1 ht2 (by simpa using hb) hv1 hv2 H
    refine OpOK.builtin hc (fun cs => rfl) (d := .int .i64 n) (w' := w') ?_ ⟨_, _, μ, k2, k3, rfl⟩
    rw [hx, ht]
    simp only [List.map_toArray, List.map_cons, List.map_nil]
    exact k1
   ·exact H.elim
  ·next hc =>
   split at H
   ·next s e e1 e2 =>
    obtain ⟨hb, H⟩ := bif_true H
    obtain ⟨x, hx, hxs⟩ := args1 e1
    obtain ⟨t, ht, hte⟩ := args1 e2
    have hv := hev x
    rw [hxs] at hv
    obtain ⟨w', h', k1, k2, k3⟩ := clear_sound (P := P) (ty := o.type) (K := fun h => K .gone h) r hT hte (by simpa using hb) hv H
    refine OpOK.builtin hc (fun cs => rfl) (d := .tuple #[]) (w' := w') ?_ ⟨_, _, μ, k2, k3, rfl⟩
    rw [hx, ht]
    simp only [List.map_toArray, List.map_cons, List.map_nil]
    exact k1
   ·exact H.elim
  ·next hc =>
   split at H
   ·next k n l e =>
    have hA : ∃ xs, (c.args.map a.eval).toList = .int k n :: xs ∧ VRs μ h l xs := by
     rw [e] at hargs
     simp only [VRs, VR] at hargs
     obtain ⟨d, ds', h1, rfl, h2⟩ := hargs
     exact ⟨ds', by rw [Array.toList_map]; exact h1, h2⟩
    obtain ⟨xs, hx, hxs⟩ := hA
    obtain ⟨v, d, k1, k2, k3⟩ := foldI_sound (P := P) (w := w) (f := mxI) (m2 := Builtin.max2) (fun _ _ _ _ => rfl) l xs n (fun v => K v h) hxs H
    refine OpOK.builtin hc (fun cs => rfl) (d := d) (w' := w) ?_ (Post.here r k2 k3)
    unfold Builtin.max_
    rw [hx]
    exact k1
   ·exact H.elim
  ·next hc =>
   split at H
   ·next k n l e =>
    have hA : ∃ xs, (c.args.map a.eval).toList = .int k n :: xs ∧ VRs μ h l xs := by
     rw [e] at hargs
     simp only [VRs, VR] at hargs
     obtain ⟨d, ds', h1, rfl, h2⟩ := hargs
     exact ⟨ds', by rw [Array.toList_map]; exact h1, h2⟩
    obtain ⟨xs, hx, hxs⟩ := hA
    obtain ⟨v, d, k1, k2, k3⟩ := foldI_sound (P := P) (w := w) (f := mnI) (m2 := Builtin.min2) (fun _ _ _ _ => rfl) l xs n (fun v => K v h) hxs H
    refine OpOK.builtin hc (fun cs => rfl) (d := d) (w' := w) ?_ (Post.here r k2 k3)
    unfold Builtin.min_
    rw [hx]
    exact k1
   ·exact H.elim
  ·exact H.elim
 | _ => simp only [ho] at H
end
end Go.Proofs.Ytcoampecbpiecaa.Cl
set_option linter.unusedVariables false
set_option linter.unusedSimpArgs false
namespace Go.Proofs.Ytcoampecbpiecaa.Cl
open Go
section
variable {P : Program} {T : Tab} {S : SatT}
theorem OpOK.upon {o : Oper} {a : Act} {w : World} {R : Value → World → Prop} {next : Act → World → Prop} {Q : Exit → Act → World → Prop} (h : OpOK P (execOp a.eval o) w R)
  (hn : ∀ v w', R v w' → next (a.put o.dst v) w') : o.wp P a w next Q := by
 unfold OpOK at h
 unfold Oper.wp Oper.upon
 split at h
 ·next v w' e => rw [e]; exact hn _ _ h
 ·next w' e => rw [e]; exact hn _ _ h
 ·next f args w' e =>
  rw [e]
  refine Calls.mono h fun e w'' ⟨v, he, hr⟩ => ?_
  rw [he]
  exact hn _ _ hr
 ·exact h.elim
theorem put_VRs {μ h} {fr : Frame} {a : Act} {d : Option Nat} {v : AVal} {x : Value} (hf : VRs μ h fr a.tmps.toList) (hv : VR μ h v x) : VRs μ h (put fr d v) (a.put d x).tmps.toList := by
 cases d with
 | none => exact hf
 | some d =>
  simp only [put, Act.put, Array.toList_setIfInBounds]
  exact hf.set d hv
theorem put_defers (a : Act) (d : Option Nat) (x : Value) : (a.put d x).defers = a.defers := by cases d <;> rfl
theorem yielded_of {μ h} {fr : Frame} {a : Act} {ops : Array Oper} {j d : Nat} (hf : VRs μ h fr a.tmps.toList) (hd : dstOf ops.toList j = some d) {v : AVal} (e : fr.getD d .undef = v) (hu : v ≠ .undef) :
  ∃ x, a.tmps[d]? = some x ∧ VR μ h v x ∧ yielded ops a.tmps j = (match x with | .bool b => some b | _ => none) := by
 rw [List.getD_eq_getElem?_getD] at e
 cases hq : fr[d]? with
 | none => rw [hq] at e; exact absurd e.symm hu
 | some v' =>
  rw [hq] at e
  obtain rfl : v' = v := e
  obtain ⟨x, h1, h2⟩ := hf.get hq
  rw [Array.getElem?_toList] at h1
  refine ⟨x, h1, h2, ?_⟩
  unfold dstOf at hd
  rw [Array.getElem?_toList] at hd
  unfold yielded
  rw [hd]
  simp only [Option.bind_some, h1]
  cases x <;> rfl
theorem set_same {fr : Frame} {d : Nat} {v : AVal} (e : fr.getD d .undef = v) (hu : v ≠ .undef) : fr.set d v = fr := by
 rw [List.getD_eq_getElem?_getD] at e
 cases hq : fr[d]? with
 | none => rw [hq] at e; exact absurd e.symm hu
 | some v' =>
  rw [hq] at e
  obtain rfl : v' = v := e
  apply List.ext_getElem?
  intro i
  rw [List.getElem?_set]
  split
  ·next h => subst h; rw [if_pos (List.getElem?_eq_some_iff.1 hq).1, hq]
  ·rfl
theorem put_keeps {a : Act} {d : Option Nat} {x : Value} {i : Nat} (h : d ≠ some i) : (a.put d x).tmps[i]? = a.tmps[i]? := by
 cases d with
 | none => rfl
 | some d =>
  simp only [Act.put]
  rw [Array.getElem?_setIfInBounds]
  rw [if_neg (fun e => h (by rw [e]))]
theorem runOps_keeps (hS : ∀ f args h v h2, S f args h v h2 → Sat P f args h v h2) (hT : TOK P T) {ops : Array Oper} {k : Frame → H → Prop} {Q : Exit → Act → World → Prop} :
  ∀ (l : List Oper) (i : Nat), ops.toList.drop i = l → ∀ {μ : Mu} {h : H} {w : World} {fr : Frame} {a : Act}, Rel μ h w → VRs μ h fr a.tmps.toList → runOps S T ops.toList l k fr h →
   (∀ μ' h' w' fr' a', Tr μ h w μ' h' w' → VRs μ' h' fr' a'.tmps.toList → a'.defers = a.defers → (∀ d, (∀ o ∈ l, o.dst ≠ some d) → a'.tmps[d]? = a.tmps[d]?) → k fr' h' → Q .normal a' w') → wpOps P ops Q (List.range' i l.length) a w
 | [], i, _, μ, h, w, fr, a, r, hf, hR, hQ => hQ μ h w fr a (Tr.refl r) hf rfl (fun _ _ => rfl) hR
 | o :: l, i, hl, μ, h, w, fr, a, r, hf, hR, hQ => by
  have ho : ops[i]? = some o := by
   rw [← Array.getElem?_toList]
   have := congrArg (·[0]?) hl
   simpa using this
  have hl' : ops.toList.drop (i + 1) = l := by
   rw [← List.drop_drop, hl]; rfl
  rw [List.length_cons, List.range'_succ]
  simp only [wpOps, ho]
  have stepOK : ∀ {K : AVal → H → Prop}, opK S T o fr h K → (∀ v h', K v h' → runOps S T ops.toList l k (put fr o.dst v) h') →
    o.wp P a w (wpOps P ops Q (List.range' (i + 1) l.length)) Q ∨ (o.asks P a w ∧ LetsOut Q) := by
   intro K hK hn
   refine .inl ((op_sound hS hT r hf hK).upon fun x w' ⟨v, h', μ', h1, h2, h3⟩ => ?_)
   refine runOps_keeps hS hT l (i + 1) hl' h2.rel (put_VRs (VRs.step h2.step hf) h3) (hn v h' h1) fun μ2 h2' w2 fr2 a2 t2 f2 d2 g2 k2 => ?_
   exact hQ μ2 h2' w2 fr2 a2 (h2.trans t2) f2 (by rw [d2, put_defers]) (fun d hd => (g2 d fun o' ho' => hd o' (List.mem_cons_of_mem _ ho')).trans (put_keeps (hd o (List.mem_cons_self ..)))) k2
  have skipOK : runOps S T ops.toList l k (put fr o.dst .gone) h → wpOps P ops Q (List.range' (i + 1) l.length) (a.put o.dst undef) w := by
   intro hK
   refine runOps_keeps hS hT l (i + 1) hl' r (put_VRs (v := .gone) (x := undef) hf (by simp only [VR]; rfl)) hK fun μ2 h2' w2 fr2 a2 t2 f2 d2 g2 k2 => ?_
   exact hQ μ2 h2' w2 fr2 a2 t2 f2 (by rw [d2, put_defers]) (fun d hd => (g2 d fun o' ho' => hd o' (List.mem_cons_of_mem _ ho')).trans (put_keeps (hd o (List.mem_cons_self ..)))) k2
  unfold runOps at hR
  cases hg : o.guard with
  | none =>
   rw [hg] at hR
   rw [if_pos (by unfold Region.wanted; rw [hg])]
   exact stepOK hR fun v h' hK => hK
  | some g =>
   obtain ⟨j, want⟩ := g
   rw [hg] at hR
   simp only at hR
   have hw : Region.wanted o (yielded ops a.tmps) = (yielded ops a.tmps j == some want) := by unfold Region.wanted; rw [hg]
   cases hd : dstOf ops.toList j with
   | none => rw [hd] at hR; exact hR.elim
   | some d =>
    rw [hd] at hR
    simp only at hR
    split at hR
    ·next b e =>
     obtain ⟨x, hx1, hx2, hx3⟩ := yielded_of hf hd e (by simp)
     simp only [VR] at hx2
     subst hx2
     have es := set_same e (by simp)
     cases b <;> cases want <;> simp only [cond_true, cond_false, es] at hR <;> first
      |(rw [if_pos (by rw [hw, hx3]; rfl)]; exact stepOK hR fun v h' hK => hK)
      |(rw [if_neg (by rw [hw, hx3]; simp)]; exact skipOK hR)
    ·next e =>
     obtain ⟨x, hx1, hx2, hx3⟩ := yielded_of hf hd e (by simp)
     simp only [VR] at hx2
     subst hx2
     rw [if_neg (by rw [hw, hx3]; simp)]
     exact skipOK hR
    ·exact hR.elim
theorem runOps_sound (hS : ∀ f args h v h2, S f args h v h2 → Sat P f args h v h2) (hT : TOK P T) {ops : Array Oper} {k : Frame → H → Prop} {Q : Exit → Act → World → Prop}
  (l : List Oper) (i : Nat) (hl : ops.toList.drop i = l) {μ : Mu} {h : H} {w : World} {fr : Frame} {a : Act} (r : Rel μ h w) (hf : VRs μ h fr a.tmps.toList) (hR : runOps S T ops.toList l k fr h)
  (hQ : ∀ μ' h' w' fr' a', Tr μ h w μ' h' w' → VRs μ' h' fr' a'.tmps.toList → a'.defers = a.defers → k fr' h' → Q .normal a' w') : wpOps P ops Q (List.range' i l.length) a w :=
 runOps_keeps hS hT l i hl r hf hR fun μ' h' w' fr' a' t f d _ k => hQ μ' h' w' fr' a' t f d k
end
end Go.Proofs.Ytcoampecbpiecaa.Cl
set_option linter.unusedVariables false
set_option linter.unusedSimpArgs false
namespace Go.Proofs.Ytcoampecbpiecaa.Cl
open Go
def Lin {α : Type} (F : (α → Prop) → Prop) : Prop := ∃ R : α → Prop, ∀ K, F K ↔ ∃ x, R x ∧ K x
namespace Lin
variable {α β : Type}
theorem ret (x : α) : Lin fun K => K x := ⟨fun y => y = x, fun K => by simp⟩
theorem no : Lin fun (_ : α → Prop) => False := ⟨fun _ => False, fun K => by simp⟩
theorem ex (A : α → Prop) : Lin fun K => ∃ x, A x ∧ K x := ⟨A, fun K => Iff.rfl⟩
theorem and {F : (α → Prop) → Prop} (A : Prop) (h : Lin F) : Lin fun K => A ∧ F K := by
 obtain ⟨R, hR⟩ := h
 refine ⟨fun x => A ∧ R x, fun K => ?_⟩
 show (A ∧ F K) ↔ _
 rw [hR]
 constructor
 ·rintro ⟨a, x, b, c⟩; exact ⟨x, ⟨a, b⟩, c⟩
 ·rintro ⟨x, ⟨a, b⟩, c⟩; exact ⟨a, x, b, c⟩
theorem exists_ {γ : Type} {F : γ → (α → Prop) → Prop} (h : ∀ g, Lin (F g)) : Lin fun K => ∃ g, F g K := by
 obtain ⟨R, hR⟩ : ∃ R : γ → α → Prop, ∀ g K, F g K ↔ ∃ x, R g x ∧ K x := ⟨fun g => Classical.choose (h g), fun g => Classical.choose_spec (h g)⟩
 refine ⟨fun x => ∃ g, R g x, fun K => ?_⟩
 constructor
 ·rintro ⟨g, hg⟩
  obtain ⟨x, a, b⟩ := (hR g K).1 hg
  exact ⟨x, ⟨g, a⟩, b⟩
 ·rintro ⟨x, ⟨g, a⟩, b⟩
  exact ⟨g, (hR g K).2 ⟨x, a, b⟩⟩
theorem bind {F : (α → Prop) → Prop} {G : α → (β → Prop) → Prop} (hF : Lin F) (hG : ∀ x, Lin (G x)) : Lin fun K => F fun x => G x K := by
 obtain ⟨R, hR⟩ := hF
 obtain ⟨R', hR'⟩ : ∃ R' : α → β → Prop, ∀ x K, G x K ↔ ∃ y, R' x y ∧ K y := ⟨fun g => Classical.choose (hG g), fun g => Classical.choose_spec (hG g)⟩
 refine ⟨fun y => ∃ x, R x ∧ R' x y, fun K => ?_⟩
 show (F fun x => G x K) ↔ _
 rw [hR]
 constructor
 ·rintro ⟨x, a, b⟩
  obtain ⟨y, c, d⟩ := (hR' x K).1 b
  exact ⟨y, ⟨x, a, c⟩, d⟩
 ·rintro ⟨y, ⟨x, a, c⟩, d⟩
  exact ⟨x, a, (hR' x K).2 ⟨y, c, d⟩⟩
theorem map {F : (α → Prop) → Prop} (hF : Lin F) (g : α → β) : Lin fun K => F fun x => K (g x) := bind hF fun x => ret (g x)
theorem bif_ {F G : (α → Prop) → Prop} (b : Bool) (hF : Lin F) (hG : Lin G) : Lin fun K => bif b then F K else G K := by cases b; exact hG; exact hF
end Lin
theorem Lin.wit {α : Type} {F : (α → Prop) → Prop} (hF : Lin F) {K : α → Prop} (h : F K) : ∃ x, K x ∧ F fun y => y = x := by
 obtain ⟨R, hR⟩ := hF
 obtain ⟨x, h1, h2⟩ := (hR K).1 h
 exact ⟨x, h2, (hR _).2 ⟨x, h1, rfl⟩⟩
theorem Lin.mono {α : Type} {F : (α → Prop) → Prop} (hF : Lin F) {K K' : α → Prop} (hk : ∀ x, K x → K' x) (h : F K) : F K' := by
 obtain ⟨R, hR⟩ := hF
 obtain ⟨x, h1, h2⟩ := (hR K).1 h
 exact (hR _).2 ⟨x, h1, hk x h2⟩
def Lin2 {α : Type} (F : (α → H → Prop) → Prop) : Prop := Lin fun (K : α × H → Prop) => F fun a h => K (a, h)
theorem Lin.two {α : Type} {F : (α → H → Prop) → Prop} (h : Lin2 F) : ∃ R : α → H → Prop, ∀ K, F K ↔ ∃ x h, R x h ∧ K x h := by
 obtain ⟨R, hR⟩ := h
 refine ⟨fun a h => R (a, h), fun K => ?_⟩
 have := hR fun p => K p.1 p.2
 simp only at this
 rw [this]
 constructor
 ·rintro ⟨⟨a, h⟩, b, c⟩; exact ⟨a, h, b, c⟩
 ·rintro ⟨a, h, b, c⟩; exact ⟨(a, h), b, c⟩
section
variable {T : Tab} {S : SatT} {h : H}
theorem ldT_lin (t p) : Lin (ldT T t p h) := by
 unfold ldT
 split
 ·exact (Lin.ex fun n => cell h p = some (.int _ n)).map _
 ·exact (Lin.ex fun n => cell h p = some (.bool n)).map _
 ·exact (Lin.ex fun n => cell h p = some (.sl n)).map _
 ·exact (Lin.ex fun n => cell h p = some (.ptr n)).map _
 ·exact (Lin.ex fun n => range h p.o p.n p.off _ = some n).map _
 ·exact (Lin.ex fun n => range h p.o p.n p.off _ = some n).map _
 ·exact Lin.ex fun n => cell h p = some n
 ·exact Lin.ex fun n => cell h p = some n
 ·exact Lin.ex fun n => cell h p = some n
 ·exact Lin.no
theorem fillK_lin (pl n) : ∀ ps Z, Lin (fillK T pl n ps Z)
 | [], Z => Lin.ret Z
 |(i, v) :: ps, Z => by
  show Lin fun K => fillK T pl n ((i, v) :: ps) Z K
  unfold fillK
  split
  ·exact Lin.no
  ·refine Lin.bif_ _ (Lin.bif_ _ ?_ (Lin.bif_ _ (fillK_lin pl n ps _) Lin.no)) Lin.no
   split
   ·exact (fillK_lin pl n ps _).and _
   ·exact Lin.no
theorem binI_lin (op k a b) : Lin (binI op k a b) := by
 cases op <;> first | exact Lin.ret _ | exact (Lin.ret _).and _
theorem binK_lin (op t x y yc) : Lin (binK T op t x y yc) := by
 unfold binK
 split
 ·exact Lin.bif_ _ (binI_lin _ _ _ _) Lin.no
 ·split <;> first | exact Lin.ret _ | exact Lin.no
 ·split <;> first | exact Lin.ret _ | exact Lin.no
 ·refine Lin.bif_ _ ?_ Lin.no
  split <;> first | exact Lin.ret _ | exact Lin.no
 ·refine Lin.bif_ _ ?_ Lin.no
  split <;> first | exact Lin.ret _ | exact Lin.no
 ·have key : ∀ k n a b (g : Bool → AVal), Lin fun (K : AVal → Prop) => eqA k n a b fun r => K (g r) := fun k n a b g => by
   unfold eqA
   exact Lin.exists_ fun l => Lin.exists_ fun m => ((((Lin.ret _).and _).and _).and _).and _
  split
  ·exact key _ _ _ _ _
  ·exact key _ _ _ _ _
  ·exact Lin.no
 ·exact Lin.no
theorem pickK_lin (c a b) : Lin (pickK c a b) := by
 unfold pickK
 split
 ·split
  ·exact Lin.ret _
  ·exact Lin.bif_ _ (Lin.ret _) (Lin.ret _)
 ·exact Lin.no
theorem partT_lin (t cs i) : Lin (partT T t cs i) := by
 have key : ∀ {α : Type} (A : α → Prop) (f : α → AVal), Lin fun (K : AVal → Prop) => ∃ n, 0 ≤ i ∧ A n ∧ K (f n) := fun A f => Lin.exists_ fun n => ((Lin.ret (f n)).and (A n)).and _
 unfold partT
 split <;> first
  | exact key _ _
  | exact (Lin.ret _).and _
  | exact Lin.no
theorem exT_lin (t vs i) : Lin (exT T t vs i) := by
 have key : ∀ {α : Type} (A : α → Prop) (f : α → AVal), Lin fun (K : AVal → Prop) => ∃ n, A n ∧ K (f n) := fun A f => Lin.exists_ fun n => (Lin.ret (f n)).and (A n)
 unfold exT
 split <;> exact key _ _
theorem foldI_lin (f k) : ∀ l a, Lin (foldI f k a l)
 | [], a => Lin.ret _
 | v :: l, a => by
  cases v <;> first | exact Lin.no | skip
  show Lin fun K => foldI f k a (_ :: l) K
  unfold foldI
  exact Lin.bif_ _ (foldI_lin f k l _) Lin.no
theorem callK_lin (t f args) : Lin2 (callK S T t f args h) := by
 have key : ∀ {α : Type} (g : α → AVal), Lin fun (K : AVal × H → Prop) => ∃ v h', S f args h (g v) h' ∧ K (g v, h') := fun g => Lin.exists_ fun v => Lin.exists_ fun h' => (Lin.ret _).and _
 unfold Lin2 callK
 split <;> exact key _
theorem stT_lin (t p v) : Lin (stT T t p v h) := by
 unfold stT
 refine Lin.bif_ _ ?_ (Lin.bif_ _ (Lin.ex fun h' => put1 h p v = some h') Lin.no)
 split
 ·exact Lin.exists_ fun h' => ((Lin.ret h').and _).and _
 ·exact Lin.no
theorem app_lin (s x z) : Lin2 (app s x z h) := by
 unfold Lin2 app
 exact Lin.exists_ fun xs => Lin.exists_ fun s' => Lin.exists_ fun h' => ((((Lin.ret (s', h')).and _).and _).and _).and _
theorem copyS_lin (s x z) : Lin2 (copyS s x z h) := by
 unfold Lin2 copyS
 exact Lin.exists_ fun xs => Lin.exists_ fun h' => ((((Lin.ret (_, h')).and _).and _).and _).and _
theorem clearS_lin (s z) : Lin (clearS s z h) := by
 unfold clearS
 split
 ·exact Lin.ret _
 ·exact Lin.exists_ fun h' => ((Lin.ret h').and _).and _
theorem Lin.pair {α : Type} {F : (α → Prop) → Prop} (hF : Lin F) (g : α → AVal × H) : Lin2 fun (K : AVal → H → Prop) => F fun x => K (g x).1 (g x).2 := hF.map g
theorem Lin2.pair {α : Type} {F : (α → H → Prop) → Prop} (hF : Lin2 F) (g : α → AVal) : Lin2 fun (K : AVal → H → Prop) => F fun x h => K (g x) h := Lin.map hF fun p => (g p.1, p.2)
theorem Lin2.no {α : Type} : Lin2 fun (_ : α → H → Prop) => False := Lin.no
theorem Lin2.ret {α : Type} (v : α) (h : H) : Lin2 fun (K : α → H → Prop) => K v h := Lin.ret (v, h)
theorem Lin2.bif_ {α : Type} {F G : (α → H → Prop) → Prop} (b : Bool) (hF : Lin2 F) (hG : Lin2 G) : Lin2 fun K => bif b then F K else G K := Lin.bif_ b hF hG
theorem mlen_lin (m) : Lin (mlen m h) := by
 unfold mlen
 exact Lin.exists_ fun r => Lin.exists_ fun es => ((Lin.ret _).and _).and _
theorem mput_lin (m k x) : Lin (mput m k x h) := by
 unfold mput
 exact Lin.exists_ fun o => Lin.exists_ fun es => Lin.exists_ fun es' => (((Lin.ret _).and _).and _).and _
theorem mgetI_lin (j m k) : Lin (mgetI j m k h) := by
 unfold mgetI
 exact Lin.exists_ fun r => Lin.exists_ fun es => Lin.exists_ fun f => Lin.exists_ fun n => ((((Lin.ret n).and _).and _).and _).and _
theorem mgetB_lin (m k) : Lin (mgetB m k h) := by
 unfold mgetB
 exact Lin.exists_ fun r => Lin.exists_ fun es => Lin.exists_ fun f => Lin.exists_ fun n => ((((Lin.ret n).and _).and _).and _).and _
theorem keyK_lin {β : Type} (t : Nat) (k : AVal) {F : AVal → (β → H → Prop) → Prop} (hF : ∀ key, Lin2 (F key)) : Lin2 fun K => keyK T t k fun key => F key K := by
 unfold keyK
 split
 ·split
  ·exact hF _
  ·exact Lin2.no
 ·split
  ·refine Lin2.bif_ _ ?_ Lin2.no
   split
   ·unfold keyA
    exact (hF _).and _
   ·exact Lin2.no
  ·exact Lin2.no
 ·exact Lin2.no
theorem opK_lin (o : Oper) (fr : Frame) : Lin2 (opK S T o fr h) := by
 unfold opK
 cases o.op with
 | move x => exact Lin2.ret _ _
 | assign x => exact Lin2.ret _ _
 | pick c a b => exact (pickK_lin _ _ _).pair fun v => (v, h)
 | alloc t => exact Lin2.bif_ _ (Lin2.ret _ _) Lin2.no
 | box t x =>
  refine Lin2.bif_ _ ?_ (Lin2.bif_ _ (Lin2.ret _ _) Lin2.no)
  split
  ·exact (Lin2.ret (α := AVal) _ _).and _
  ·exact Lin2.no
 | build t ps =>
  dsimp only
  split
  ·exact (fillK_lin _ _ _ _).pair fun cs => (.agg cs, h)
  ·exact Lin2.bif_ _ ((fillK_lin _ _ _ _).pair fun cs => (.agg cs, h)) Lin2.no
  ·exact Lin2.no
 | buildSlice t n ps =>
  dsimp only
  split
  ·exact Lin2.bif_ _ ((fillK_lin _ _ _ _).pair fun cs => (_, _)) Lin2.no
  ·exact Lin2.no
 | load t a =>
  dsimp only
  split
  ·exact (ldT_lin _ _).pair fun v => (v, h)
  ·exact Lin2.no
 | store t a x =>
  dsimp only
  split
  ·exact (stT_lin _ _ _).pair fun h => (.gone, h)
  ·exact Lin2.no
 | nilCheck x => exact (Lin2.ret (α := AVal) _ _).and _
 | binOp op t x y _ =>
  dsimp only
  refine Lin2.bif_ _ ?_ ((binK_lin _ _ _ _ _).pair fun v => (v, h))
  unfold binStr strEq viaStr
  split <;> first | exact Lin2.no | exact Lin.exists_ fun a => (Lin.exists_ fun b => (Lin2.ret (α := AVal) _ _).and _).and _
 | unOp op t x => dsimp only; split <;> first | exact Lin2.ret _ _ | exact Lin2.no
 | convert s d x => dsimp only; split <;> first | exact Lin2.ret _ _ | exact Lin2.no
 | makeFunc fn first cap => dsimp only; split <;> first | exact Lin2.bif_ _ (Lin2.ret _ _) Lin2.no | exact Lin2.no
 | makeSlice t n c => dsimp only; split <;> first | exact Lin2.bif_ _ ((Lin2.ret (α := AVal) _ _).and _) Lin2.no | exact Lin2.no
 | slice t x lo hi mx =>
  have k1 : ∀ s z a b, Lin2 fun (K : AVal → H → Prop) => cut s z a b h fun s => K (.sl s) h := fun s z a b => by
   unfold cut
   exact ((((Lin2.ret (α := AVal) _ _).and _).and _).and _).and _
  have k2 : ∀ s n z a b, Lin2 fun (K : AVal → H → Prop) => cutA s n z a b fun s => K (.sl s) h := fun s n z a b => by
   unfold cutA
   exact (((Lin2.ret (α := AVal) _ _).and _).and _).and _
  dsimp only
  split
  ·split
   ·exact Lin2.bif_ _ (k1 _ _ _ _) Lin2.no
   ·exact Lin2.no
  ·split
   ·exact Lin2.bif_ _ (k2 _ _ _ _ _) Lin2.no
   ·exact Lin2.no
  ·unfold viaStr
   refine Lin.exists_ fun s => Lin.and _ ?_
   dsimp only
   split
   ·unfold cutStr
    exact (Lin2.ret (α := AVal) _ _).and _
   ·exact Lin2.no
  ·exact Lin2.no
 | fieldAddr t x f =>
  dsimp only
  split
  ·split
   ·exact (Lin2.ret (α := AVal) _ _).and _
   ·exact Lin2.no
  ·exact Lin2.no
 | field t x f =>
  dsimp only
  split
  ·split
   ·exact (partT_lin _ _ _).pair fun v => (v, h)
   ·exact Lin2.no
  ·exact Lin2.no
 | indexAddr t x i =>
  dsimp only
  split
  ·exact (((Lin2.ret (α := AVal) _ _).and _).and _).and _
  ·exact Lin2.bif_ _ (((Lin2.ret (α := AVal) _ _).and _).and _) Lin2.no
  ·exact Lin2.no
 | index t x i =>
  dsimp only
  split
  ·exact Lin2.bif_ _ (((partT_lin _ _ _).pair fun v => (v, h)).and _) Lin2.no
  ·unfold viaStr ixStr
   exact Lin.exists_ fun s => (Lin.exists_ fun b => ((Lin2.ret (α := AVal) _ _).and _).and _).and _
  ·exact Lin2.no
 | extract x i =>
  dsimp only
  exact Lin.exists_ fun vs => ((exT_lin _ _ _).pair fun v => (v, h)).and _
 | makeMap t hint =>
  dsimp only
  split
  ·exact Lin2.ret _ _
  ·exact Lin2.no
 | mapUpdate t m k x =>
  dsimp only
  split
  ·exact keyK_lin _ _ fun key => (mput_lin _ _ _).pair fun h => (.gone, h)
  ·exact Lin2.no
 | lookup t m k ok =>
  dsimp only
  split
  ·refine keyK_lin _ _ fun key => ?_
   split
   ·exact (mgetI_lin _ _ _).pair fun n => (.int _ n, h)
   ·exact (mgetB_lin _ _).pair fun b => (.bool b, h)
   ·exact Lin2.no
  ·exact Lin2.no
 | call c =>
  dsimp only
  split
  ·exact callK_lin _ _ _
  ·unfold viaF
   exact Lin.exists_ fun f => Lin.exists_ fun cap => (callK_lin _ _ _).and _
  ·split
   ·split <;> first | exact Lin2.ret _ _ | exact Lin2.no
   ·split <;> first | exact Lin2.ret _ _ | exact Lin2.no
   ·split
    ·exact (mlen_lin _).pair fun n => (.int .i64 n, h)
    ·exact Lin2.no
   ·split
    ·unfold viaStr
     exact Lin.exists_ fun s => (Lin2.ret (α := AVal) _ _).and _
    ·exact Lin2.no
   ·exact Lin2.no
  ·split <;> first | exact Lin2.bif_ _ ((app_lin _ _ _).pair _) Lin2.no | exact Lin2.no
  ·split <;> first | exact Lin2.bif_ _ ((copyS_lin _ _ _).pair _) Lin2.no | exact Lin2.no
  ·split <;> first | exact Lin2.bif_ _ ((clearS_lin _ _).pair fun h => (_, h)) Lin2.no | exact Lin2.no
  ·split <;> first | exact (foldI_lin _ _ _ _).pair fun v => (v, h) | exact Lin2.no
  ·split <;> first | exact (foldI_lin _ _ _ _).pair fun v => (v, h) | exact Lin2.no
  ·exact Lin2.no
 | _ => exact Lin2.no
end
end Go.Proofs.Ytcoampecbpiecaa.Cl
set_option linter.unusedVariables false
set_option linter.unusedSimpArgs false
namespace Go.Proofs.Ytcoampecbpiecaa.Cl
open Go
section
variable {T : Tab} {S : SatT} {h : H}
theorem parts_congr {fr fr' : Frame} {ps : Array (Nat × Operand)} (hp : ∀ x ∈ ps.toList.map (·.2), ev fr x = ev fr' x) : parts ps fr = parts ps fr' := by
 unfold parts
 apply List.map_congr_left
 intro p hm
 rw [hp p.2 (List.mem_map_of_mem hm)]
theorem opt_congr {fr fr' : Frame} {o : Option Operand} (hp : ∀ x ∈ o.toArray.toList, ev fr x = ev fr' x) : o.map (ev fr) = o.map (ev fr') := by
 cases o with
 | none => rfl
 | some x => simp only [Option.map_some]; rw [hp x (by simp)]
theorem opK_congr {o : Oper} {fr fr' : Frame} (hp : ∀ x ∈ o.op.operands.toList, ev fr x = ev fr' x) (K : AVal → H → Prop) : opK S T o fr h K = opK S T o fr' h K := by
 unfold opK
 cases ho : o.op with
 | move x => simp only [ho, Op.operands] at hp ⊢; rw [hp x (by simp)]
 | assign x => simp only [ho, Op.operands] at hp ⊢; rw [hp x (by simp)]
 | pick c a b => simp only [ho, Op.operands] at hp ⊢; rw [hp c (by simp), hp a (by simp), hp b (by simp)]
 | alloc t => rfl
 | box t x => simp only [ho, Op.operands] at hp ⊢; rw [hp x (by simp)]
 | build t ps =>
  simp only [ho, Op.operands] at hp ⊢
  rw [parts_congr (fr' := fr') (by simpa using hp)]
 | buildSlice t n ps =>
  simp only [ho, Op.operands] at hp ⊢
  rw [parts_congr (fr' := fr') (by simpa using hp)]
 | load t a => simp only [ho, Op.operands] at hp ⊢; rw [hp a (by simp)]
 | store t a x => simp only [ho, Op.operands] at hp ⊢; rw [hp a (by simp), hp x (by simp)]
 | nilCheck x => simp only [ho, Op.operands] at hp ⊢; rw [hp x (by simp)]
 | binOp op t x y _ => simp only [ho, Op.operands] at hp ⊢; rw [hp x (by simp), hp y (by simp)]
 | unOp op t x => simp only [ho, Op.operands] at hp ⊢; rw [hp x (by simp)]
 | convert s d x => simp only [ho, Op.operands] at hp ⊢; rw [hp x (by simp)]
 | makeFunc fn first cap =>
  simp only [ho, Op.operands] at hp ⊢
  rw [List.map_congr_left (f := ev fr) (g := ev fr') (l := cap.toList) (fun x hx => hp x (by simp; exact .inr (by simpa using hx)))]
 | makeSlice t n c => simp only [ho, Op.operands] at hp ⊢; rw [hp n (by simp), hp c (by simp)]
 | slice t x lo hi mx =>
  simp only [ho, Op.operands] at hp ⊢
  rw [hp x (by simp), opt_congr (fr := fr) (fr' := fr') (o := lo) (fun y hy => hp y (by simp at hy ⊢; simp [hy])), opt_congr (fr := fr) (fr' := fr') (o := hi) (fun y hy => hp y (by simp at hy ⊢; simp [hy]))]
 | fieldAddr t x f => simp only [ho, Op.operands] at hp ⊢; rw [hp x (by simp)]
 | field t x f => simp only [ho, Op.operands] at hp ⊢; rw [hp x (by simp)]
 | indexAddr t x i => simp only [ho, Op.operands] at hp ⊢; rw [hp x (by simp), hp i (by simp)]
 | index t x i => simp only [ho, Op.operands] at hp ⊢; rw [hp x (by simp), hp i (by simp)]
 | extract x i => simp only [ho, Op.operands] at hp ⊢; rw [hp x (by simp)]
 | mapUpdate t m k x => simp only [ho, Op.operands] at hp ⊢; rw [hp m (by simp), hp k (by simp), hp x (by simp)]
 | lookup t m k ok => simp only [ho, Op.operands] at hp ⊢; rw [hp m (by simp), hp k (by simp)]
 | call c =>
  simp only [ho, Op.operands, Call.operands] at hp ⊢
  have ha : c.args.toList.map (ev fr) = c.args.toList.map (ev fr') := List.map_congr_left fun x hx => hp x (by simp; exact .inr (by simpa using hx))
  rw [ha]
  split
  ·rfl
  ·next f _ hc =>
   rw [hp f (by rw [hc]; simp)]
  all_goals rfl
 | _ => rfl
theorem keyK_mono {t : Nat} {k : AVal} {K K' : AVal → Prop} (hk : ∀ key, K key → K' key) (H : keyK T t k K) : keyK T t k K' := by
 unfold keyK at *
 split at H
 ·split at H
  ·exact hk _ H
  ·exact H
 ·split at H
  ·cases hz : ((tget T _).size == 1) with
   | false => rw [hz] at H; exact H.elim
   | true =>
    rw [hz] at H
    simp only [cond_true] at H ⊢
    split at H
    ·exact ⟨H.1, hk _ H.2⟩
    ·exact H
  ·exact H
 ·exact H
theorem readT_same {t : Nat} {p : Pt} {h' : H} {R : AVal → Prop} (e : bif isAggT T t then range h' p.o p.n p.off (tget T t).size = range h p.o p.n p.off (tget T t).size else cell h' p = cell h p) (K : AVal → Prop) :
  ldT T t p h K → ldT T t p h' K := by
 intro hK
 unfold ldT at *
 unfold isAggT at e
 split at hK
 all_goals first
  |(next e1 => rw [e1] at e; simp only [cond_true, cond_false] at e; obtain ⟨n, h1, h2⟩ := hK; exact ⟨n, by rw [e]; exact h1, h2⟩)
  | exact hK.elim
theorem same_eq (o : Oper) (fr : Frame) (hm : isMut o.op = false) (h : H) (K : AVal → H → Prop) : opK S T o fr h K = opK S T o fr h (fun v _ => K v h) := by
 unfold opK
 cases ho : o.op with
 | call c =>
  rw [ho] at hm
  simp only
  unfold isMut at hm
  split <;> first
   | rfl
   |(next hc => simp only [hc] at hm; cases hm)
   |(next hc _ => simp only [hc] at hm; cases hm)
   |(next hc => simp [hc] at hm)
 | _ => first
  | rfl
  |(rw [ho] at hm; simp [isMut] at hm; done)
theorem pure_eq (o : Oper) (fr : Frame) (hm : isMut o.op = false) (hr : isRead o.op = false) (h h0 : H) (K : AVal → H → Prop) : opK S T o fr h K = opK S T o fr h0 (fun v _ => K v h) := by
 unfold opK
 cases ho : o.op with
 | call c =>
  rw [ho] at hm hr
  simp only
  unfold isMut at hm
  unfold isRead at hr
  split <;> first
   | rfl
   |(next hc => simp only [hc] at hr; cases hr)
   |(next hc => simp only [hc] at hm; cases hm)
   |(next hc _ => simp only [hc] at hm; cases hm)
   |(next hc => simp [hc] at hm)
 | _ => first
  | rfl
  |(rw [ho] at hm; simp [isMut] at hm; done)
  |(rw [ho] at hr; simp [isRead] at hr; done)
theorem nonmut (o : Oper) (fr : Frame) (hm : isMut o.op = false) : ∃ R : H → AVal → Prop, (∀ h K, opK S T o fr h K ↔ ∃ v, R h v ∧ K v h) ∧ (isRead o.op = false → ∀ h h' v, R h v → R h' v) ∧
  (∀ h h' K', chkK T o fr h h' K' → (∀ v, R h v → R h' v) ∧ K') := by
 refine ⟨fun h v => opK S T o fr h (fun v2 _ => v2 = v), fun h K => ?_, fun hr h h' v hv => ?_, fun h h' K' hK => ?_⟩
 ·rw [same_eq o fr hm h K]
  obtain ⟨R, hR⟩ := Lin.two (opK_lin (S := S) (T := T) (h := h) o fr)
  rw [hR]
  constructor
  ·rintro ⟨v, h2, a, b⟩; exact ⟨v, (hR _).2 ⟨v, h2, a, rfl⟩, b⟩
  ·rintro ⟨v, a, b⟩
   obtain ⟨v2, h2, c, rfl⟩ := (hR _).1 a
   exact ⟨v2, h2, c, b⟩
 ·show opK S T o fr h' _
  rw [pure_eq o fr hm hr h' h]; exact hv
 ·unfold chkK at hK
  cases hr : isRead o.op with
  | false =>
   refine ⟨fun v hv => by show opK S T o fr h' _; rw [pure_eq o fr hm hr h' h]; exact hv, ?_⟩
   cases ho : o.op <;> simp only [ho] at hK hr <;> first
    | exact hK
    |(simp [isRead] at hr; done)
    |(split at hK
      ·next hc => simp [isRead, hc] at hr
      ·exact hK)
  | true =>
   cases ho : o.op <;> simp only [ho] at hK hr <;> first | (simp [isRead] at hr; done) | skip
   ·next t a =>
    unfold opK
    simp only [ho]
    split at hK
    ·next p e =>
     cases hA : isAggT T t with
     | true => rw [hA] at hK; exact ⟨fun v => readT_same (R := fun _ => True) (by rw [hA]; exact hK.1) _, hK.2⟩
     | false => rw [hA] at hK; exact ⟨fun v => readT_same (R := fun _ => True) (by rw [hA]; exact hK.1) _, hK.2⟩
    ·next hne =>
     exact ⟨fun v hv => hv.elim, hK⟩
   ·next t x lo hi mx =>
    unfold opK
    simp only [ho]
    split at hK
    ·next e0 s e1 e2 =>
     simp only [e1, e2]
     refine ⟨fun v hv => ?_, hK.2⟩
     cases mx with
     | some m => exact hv
     | none =>
      simp only at hv ⊢
      split at hv
      ·next k1 a k2 b e3 e4 =>
       obtain ⟨hb, h1, h2, h3⟩ := bif_true hv
       rw [hb]
       exact ⟨h1, hK.1, h3⟩
      ·exact hv
    ·next hne =>
     refine ⟨fun v hv => ?_, hK⟩
     split at hv
     ·next e0 s e1 e2 => exact absurd e2 (hne _ _ e1)
     ·exact hv
     ·exact hv
     ·exact hv
   ·next t m k ok =>
    unfold opK
    simp only [ho]
    obtain ⟨hs, hK⟩ := hK
    refine ⟨fun v hv => ?_, hK⟩
    split at hv
    ·refine keyK_mono (fun key hv => ?_) hv
     split at hv
     ·obtain ⟨r, es, f, n, a, b, d⟩ := hv
      exact ⟨r, es, f, n, a, by rw [hs r a]; exact b, d⟩
     ·obtain ⟨r, es, f, n, a, b, d⟩ := hv
      exact ⟨r, es, f, n, a, by rw [hs r a]; exact b, d⟩
     ·exact hv
    ·exact hv
   ·next c =>
    unfold opK
    simp only [ho]
    have hr' : (match c.callee with | .builtin .len => true | _ => false) = true := hr
    split at hr'
    ·next hc =>
     simp only [hc] at hK ⊢
     split at hK
     ·next kt e e2 =>
      try simp only [e2]
      split at hK
      ·next m e1 =>
       try simp only [e1]
       obtain ⟨hs, hK⟩ := hK
       refine ⟨fun v hv => ?_, hK⟩
       obtain ⟨r, es, a, b, d⟩ := hv
       exact ⟨r, es, a, by rw [hs r a]; exact b, d⟩
      ·next hne =>
       refine ⟨fun v hv => ?_, hK⟩
       first
        | exact hv.elim
        |(split at hv
          ·next m e1 => exact absurd e1 (hne _)
          ·exact hv)
     ·next hne =>
      refine ⟨fun v hv => ?_, hK⟩
      split at hv
      ·exact hv
      ·exact hv
      ·next e2 => exact absurd e2 (hne _ _)
      ·exact hv
      ·exact hv
    ·cases hr'
end
end Go.Proofs.Ytcoampecbpiecaa.Cl
set_option linter.unusedVariables false
set_option linter.unusedSimpArgs false
namespace Go.Proofs.Ytcoampecbpiecaa.Cl
open Go
theorem testBit_fold (A : Nat → Nat) (x : Nat) : ∀ (l : List Nat) (s0 : Nat), (l.foldl (fun s j => s ||| 2 ^ j ||| A j) s0).testBit x = (s0.testBit x || l.any fun j => decide (j = x) || (A j).testBit x)
 | [], s0 => by simp
 | j :: l, s0 => by
  rw [List.foldl_cons, testBit_fold A x l, Nat.testBit_or, Nat.testBit_or, Nat.testBit_two_pow, List.any_cons, Bool.or_assoc, Bool.or_assoc, Bool.or_assoc]
theorem befs_pre : ∀ (os : List Oper) (acc : List Nat), ∃ rest, befs os acc = acc ++ rest ∧ rest.length = os.length
 | [], acc => ⟨[], by simp [befs], rfl⟩
 | o :: os, acc => by
  obtain ⟨rest, h1, h2⟩ := befs_pre os (acc ++ [(deps o).foldl (fun s j => s ||| 2 ^ j ||| acc.getD j 0) 0])
  refine ⟨(deps o).foldl (fun s j => s ||| 2 ^ j ||| acc.getD j 0) 0 :: rest, ?_, by simp [h2]⟩
  unfold befs
  rw [h1]
  simp
theorem befs_get : ∀ (os : List Oper) (acc : List Nat) (p : Nat) (o : Oper), os[p]? = some o → (∀ d ∈ deps o, d < acc.length + p) →
  ∀ x, bef (befs os acc) (acc.length + p) x = (deps o).any fun j => decide (j = x) || bef (befs os acc) j x
 | [], acc, p, o, h, _, x => by simp at h
 | o' :: os, acc, 0, o, h, hd, x => by
  simp at h
  subst h
  obtain ⟨rest, h1, h2⟩ := befs_pre os (acc ++ [(deps o').foldl (fun s j => s ||| 2 ^ j ||| acc.getD j 0) 0])
  unfold befs
  rw [h1]
  unfold bef
  have e : ((acc ++ [(deps o').foldl (fun s j => s ||| 2 ^ j ||| acc.getD j 0) 0]) ++ rest).getD (acc.length + 0) 0 = (deps o').foldl (fun s j => s ||| 2 ^ j ||| acc.getD j 0) 0 := by
   rw [List.getD_eq_getElem?_getD, List.append_assoc, List.getElem?_append_right (by omega)]
   simp
  rw [e, testBit_fold]
  simp only [Nat.zero_testBit, Bool.false_or]
  rw [Bool.eq_iff_iff, List.any_eq_true, List.any_eq_true]
  have key : ∀ j ∈ deps o', ((acc ++ [(deps o').foldl (fun s j => s ||| 2 ^ j ||| acc.getD j 0) 0]) ++ rest).getD j 0 = acc.getD j 0 := fun j hj => by
   have := hd j hj
   rw [List.getD_eq_getElem?_getD, List.getD_eq_getElem?_getD, List.append_assoc, List.getElem?_append_left (by omega)]
  constructor
  ·rintro ⟨j, hj, hx⟩; exact ⟨j, hj, by rw [key j hj]; exact hx⟩
  ·rintro ⟨j, hj, hx⟩; exact ⟨j, hj, by rw [key j hj] at hx; exact hx⟩
 | o' :: os, acc, p + 1, o, h, hd, x => by
  have := befs_get os (acc ++ [(deps o').foldl (fun s j => s ||| 2 ^ j ||| acc.getD j 0) 0]) p o (by simpa using h) (fun d hd' => by have := hd d hd'; simp; omega) x
  simp only [List.length_append, List.length_cons, List.length_nil] at this
  rw [show acc.length + (p + 1) = acc.length + (0 + 1) + p by omega]
  unfold befs
  exact this
theorem bef_none {ops : List Oper} {p : Nat} (ho : ops[p]? = none) (x : Nat) : bef (befs ops []) p x = false := by
 obtain ⟨rest, h1, h2⟩ := befs_pre ops []
 unfold bef
 rw [h1, List.getD_eq_getElem?_getD, List.getElem?_eq_none]
 ·simp
 ·have := List.getElem?_eq_none_iff.1 ho
  simp
  omega
section
variable {ops : List Oper} (hdeps : ∀ (p : Nat) o, ops[p]? = some o → ∀ d ∈ deps o, d < p)
include hdeps
theorem bef_iff {p : Nat} {o : Oper} (ho : ops[p]? = some o) (x : Nat) : bef (befs ops []) p x = true ↔ ∃ d ∈ deps o, d = x ∨ bef (befs ops []) d x = true := by
 have := befs_get ops [] p o ho (fun d hd => by simpa using hdeps p o ho d hd) x
 simp only [List.length_nil, Nat.zero_add] at this
 rw [this, List.any_eq_true]
 simp
theorem bef_lt : ∀ (p x : Nat), bef (befs ops []) p x = true → x < p := by
 intro p
 induction p using Nat.strongRecOn with
 | _ p ih =>
  intro x h
  cases ho : ops[p]? with
  | none => rw [bef_none ho] at h; cases h
  | some o =>
   obtain ⟨d, hd, h1⟩ := (bef_iff hdeps ho x).1 h
   have := hdeps p o ho d hd
   rcases h1 with rfl | h1
   ·exact this
   ·have := ih d this x h1
    omega
theorem bef_trans : ∀ (c b a : Nat), bef (befs ops []) c b = true → bef (befs ops []) b a = true → bef (befs ops []) c a = true := by
 intro c
 induction c using Nat.strongRecOn with
 | _ c ih =>
  intro b a h1 h2
  cases ho : ops[c]? with
  | none => rw [bef_none ho] at h1; cases h1
  | some o =>
   obtain ⟨d, hd, h3⟩ := (bef_iff hdeps ho b).1 h1
   refine (bef_iff hdeps ho a).2 ⟨d, hd, .inr ?_⟩
   rcases h3 with rfl | h3
   ·exact h2
   ·exact ih d (hdeps c o ho d hd) b a h3 h2
end
theorem okPairs_spec {ops : List Oper} {b : List Nat} (l : List (Oper × Nat)) : okPairs ops b l = true → ∀ (p q : Nat) x y i j, l[p]? = some (x, i) → l[q]? = some (y, j) → p < q → pairOK ops b i j x y = true ∧ dstApart x y = true := by
 induction l with
 | nil => intro _ p q x y i j h1; simp at h1
 | cons a l ih =>
  intro h p q x y i j h1 h2 hlt
  obtain ⟨x', i'⟩ := a
  have h' : ((l.all fun p => pairOK ops b i' p.2 x' p.1 && dstApart x' p.1) && okPairs ops b l) = true := h
  rw [Bool.and_eq_true, List.all_eq_true] at h'
  cases q with
  | zero => omega
  | succ q =>
   rw [List.getElem?_cons_succ] at h2
   cases p with
   | zero =>
    rw [List.getElem?_cons_zero] at h1
    injection h1 with h1
    injection h1 with h1 h3
    subst h1 h3
    have := h'.1 (y, j) (List.mem_of_getElem? h2)
    rwa [Bool.and_eq_true] at this
   | succ p =>
    rw [List.getElem?_cons_succ] at h1
    exact ih h'.2 p q x y i j h1 h2 (by omega)
theorem okD_spec {ops : List Oper} (h : okD ops (befs ops []) = true) : (∀ (p : Nat) o, ops[p]? = some o → ∀ d ∈ deps o, d < p) ∧
  ∀ (i j : Nat) x y, ops[i]? = some x → ops[j]? = some y → i < j → pairOK ops (befs ops []) i j x y = true ∧ dstApart x y = true := by
 unfold okD at h
 rw [Bool.and_eq_true, List.all_eq_true] at h
 have hz : ∀ (p : Nat) o, ops[p]? = some o → ops.zipIdx[p]? = some (o, p) := fun p o ho => by
  rw [List.getElem?_zipIdx, ho]; simp
 refine ⟨fun p o ho d hd => ?_, fun i j x y hx hy hij => okPairs_spec _ h.2 i j x y i j (hz i x hx) (hz j y hy) hij⟩
 have := h.1 (o, p) (List.mem_of_getElem? (hz p o ho))
 simp only [List.all_eq_true, decide_eq_true_eq] at this
 exact this d hd
structure Stp where
 i : Nat
 o : Oper
 fr : Frame
 ex : Bool
 v : AVal
 h : H
 h' : H
section
variable {P : Program} {T : Tab} {S : SatT} {ops : List Oper}
def gOK (ops : List Oper) (fr : Frame) (o : Oper) : Prop :=
 match o.guard with
 | none => True
 | some (j, want) => ∃ d, dstOf ops j = some d ∧ fr.getD d .undef = .bool want
def gNo (ops : List Oper) (fr : Frame) (o : Oper) : Prop :=
 match o.guard with
 | none => False
 | some (j, want) => ∃ d, dstOf ops j = some d ∧ (fr.getD d .undef = .bool (!want) ∨ fr.getD d .undef = .gone)
def agree (ops : List Oper) (o : Oper) (fr fr' : Frame) : Prop := ∀ t ∈ readsOf ops o, fr.getD t .undef = fr'.getD t .undef
def Tells (S : SatT) (T : Tab) (a : Stp) (h : H) : Prop := opK S T a.o a.fr h fun v h2 => v = a.v ∧ h2 = h
inductive Val (S : SatT) (T : Tab) (ops : List Oper) : Frame → H → List Stp → Frame → H → Prop where
 | nil {fr h} : Val S T ops fr h [] fr h
 | cons {fr h st l fr2 h2} : st.h = h → agree ops st.o fr st.fr → (st.ex = true → gOK ops st.fr st.o ∧ opK S T st.o st.fr st.h fun v h => v = st.v ∧ h = st.h') →
   (st.ex = false → gNo ops st.fr st.o ∧ st.v = .gone ∧ st.h' = st.h) → Val S T ops (put fr st.o.dst st.v) st.h' l fr2 h2 → Val S T ops fr h (st :: l) fr2 h2
def Stp.chg (a : Stp) : Prop := a.ex = true ∧ isMut a.o.op = true
structure Sim (a b : Stp) : Prop where
 i : a.i = b.i
 o : a.o = b.o
 fr : a.fr = b.fr
 ex : a.ex = b.ex
 v : a.v = b.v
 chg : a.chg → a.h = b.h ∧ a.h' = b.h'
theorem Sim.refl (a : Stp) : Sim a a := ⟨rfl, rfl, rfl, rfl, rfl, fun _ => ⟨rfl, rfl⟩⟩
def Both (S : SatT) (T : Tab) (b : List Nat) (x y : Stp) : Prop := x.ex = true → isMut x.o.op = false → y.chg → unord b x.i y.i = true → Tells S T x y.h ∧ Tells S T x y.h'
theorem Both.sim {b x y x' y'} (h : Both S T b x y) (sx : Sim x x') (sy : Sim y y') : Both S T b x' y' := by
 intro e1 e2 e3 e4
 have m : y.chg := ⟨by rw [sy.ex]; exact e3.1, by rw [sy.o]; exact e3.2⟩
 have := h (by rw [sx.ex]; exact e1) (by rw [sx.o]; exact e2) m (by rw [sx.i, sy.i]; exact e4)
 unfold Tells at *
 rw [← sx.o, ← sx.fr, ← sx.v, ← (sy.chg m).1, ← (sy.chg m).2]
 exact this
theorem getD_put (fr : Frame) (d : Option Nat) (v : AVal) (t : Nat) (h : ∀ d', d = some d' → d' ≠ t) : (put fr d v).getD t .undef = fr.getD t .undef := by
 cases d with
 | none => rfl
 | some d =>
  simp only [put, List.getD_eq_getElem?_getD]
  rw [List.getElem?_set_ne (h d rfl)]
theorem put_comm (fr : Frame) (d e : Option Nat) (u v : AVal) (h : ∀ x y, d = some x → e = some y → x ≠ y) : put (put fr d u) e v = put (put fr e v) d u := by
 cases d with
 | none => rfl
 | some d => cases e with
  | none => rfl
  | some e => simp only [put]; exact List.set_comm _ _ (h d e rfl rfl)
theorem nonmut_same {a : Stp} (hm : isMut a.o.op = false) (h : opK S T a.o a.fr a.h fun v h2 => v = a.v ∧ h2 = a.h') : a.h' = a.h := by
 obtain ⟨R, h1, _, _⟩ := nonmut (S := S) (T := T) a.o a.fr hm
 obtain ⟨v, _, _, e⟩ := (h1 _ _).1 h
 exact e.symm
structure Apart (ops : List Oper) (b : List Nat) (x y : Stp) : Prop where
 un : unord b x.i y.i = true
 chg : ¬ (isMut x.o.op = true ∧ isMut y.o.op = true)
 xy : ∀ d, x.o.dst = some d → d ∉ readsOf ops y.o
 yx : ∀ d, y.o.dst = some d → d ∉ readsOf ops x.o
 dd : ∀ d e, x.o.dst = some d → y.o.dst = some e → d ≠ e
theorem unord_comm (b : List Nat) (i j : Nat) : unord b i j = unord b j i := by unfold unord; rw [Bool.and_comm]
theorem swap {b : List Nat} {fr h x y l fr2 h2} (H : Val S T ops fr h (x :: y :: l) fr2 h2) (ap : Apart ops b x y) (c1 : Both S T b x y) (c2 : Both S T b y x) :
  ∃ x' y', Sim x x' ∧ Sim y y' ∧ Val S T ops fr h (y' :: x' :: l) fr2 h2 := by
 cases H with
 | cons hx ax ex nx H =>
 cases H with
 | cons hy ay ey ny H =>
 have ay' : agree ops y.o fr y.fr := fun t ht => by rw [← ay t ht, getD_put _ _ _ _ fun d hd e => ap.xy d hd (e ▸ ht)]
 have ax' : agree ops x.o (put fr y.o.dst y.v) x.fr := fun t ht => by rw [getD_put _ _ _ _ fun d hd e => ap.yx d hd (e ▸ ht)]; exact ax t ht
 have hput : put (put fr x.o.dst x.v) y.o.dst y.v = put (put fr y.o.dst y.v) x.o.dst x.v := put_comm _ _ _ _ _ fun d e h1 h2 => ap.dd d e h1 h2
 rw [hput] at H
 by_cases mx : x.chg
 ·
  have hyy : y.h' = y.h := by
   cases e : y.ex with
   | false => exact (ny e).2.2
   | true =>
    have : isMut y.o.op = false := by
     cases hm : isMut y.o.op with
     | false => rfl
     | true => exact absurd ⟨mx.2, hm⟩ ap.chg
    exact nonmut_same this (ey e).2
  refine ⟨x, { y with h := h, h' := h }, Sim.refl _, ⟨rfl, rfl, rfl, rfl, rfl, fun m => absurd ⟨mx.2, m.2⟩ ap.chg⟩, ?_⟩
  refine .cons rfl ay' (fun e => ⟨(ey e).1, ?_⟩) (fun e => ⟨(ny e).1, (ny e).2.1, rfl⟩) ?_
  ·have hm : isMut y.o.op = false := by
    cases hm : isMut y.o.op with
    | false => rfl
    | true => exact absurd ⟨mx.2, hm⟩ ap.chg
   have := (c2 e hm mx (by rw [unord_comm]; exact ap.un)).1
   rw [hx] at this
   exact this
  ·refine .cons hx ax' ex nx ?_
   rw [hyy, hy] at H
   exact H
 ·have hxx : x.h' = x.h := by
   cases e : x.ex with
   | false => exact (nx e).2.2
   | true =>
    have : isMut x.o.op = false := by
     cases hm : isMut x.o.op with
     | false => rfl
     | true => exact absurd ⟨e, hm⟩ mx
    exact nonmut_same this (ex e).2
  refine ⟨{ x with h := y.h', h' := y.h' }, y, ⟨rfl, rfl, rfl, rfl, rfl, fun m => absurd m mx⟩, Sim.refl _, ?_⟩
  refine .cons (by rw [hy, hxx, hx]) ay' ey ny ?_
  refine .cons rfl ax' (fun e => ⟨(ex e).1, ?_⟩) (fun e => ⟨(nx e).1, (nx e).2.1, rfl⟩) H
  have hm : isMut x.o.op = false := by
   cases hm : isMut x.o.op with
   | false => rfl
   | true => exact absurd ⟨e, hm⟩ mx
  by_cases my : y.chg
  ·exact (c1 e hm my ap.un).2
  ·have hyy : y.h' = y.h := by
    cases e : y.ex with
    | false => exact (ny e).2.2
    | true =>
     have : isMut y.o.op = false := by
      cases hm : isMut y.o.op with
      | false => rfl
      | true => exact absurd ⟨e, hm⟩ my
     exact nonmut_same this (ey e).2
   have := (ex e).2
   rw [hxx] at this
   show opK S T x.o x.fr y.h' fun v h2 => v = x.v ∧ h2 = y.h'
   rw [hyy, hy, hxx]
   exact this
def Sims : List Stp → List Stp → Prop
 | [], [] => True
 | a :: l, b :: m => Sim a b ∧ Sims l m
 | _, _ => False
theorem Sims.refl : ∀ l, Sims l l
 | [] => trivial
 | a :: l => ⟨Sim.refl a, Sims.refl l⟩
theorem front {b : List Nat} {s : Stp} {post : List Stp} : ∀ (pre : List Stp) {fr h fr2 h2}, Val S T ops fr h (pre ++ s :: post) fr2 h2 →
  (∀ x ∈ pre, Apart ops b x s ∧ Both S T b x s ∧ Both S T b s x) → ∃ pre' s', Sims pre pre' ∧ Sim s s' ∧ Val S T ops fr h (s' :: pre' ++ post) fr2 h2
 | [], fr, h, fr2, h2, hV, _ => ⟨[], s, trivial, Sim.refl s, hV⟩
 | x :: pre, fr, h, fr2, h2, hV, hp => by
  cases hV with
  | cons k1 k2 k3 k4 k5 =>
   obtain ⟨pre', s', q1, q2, q3⟩ := front pre k5 fun y hy => hp y (by simp [hy])
   obtain ⟨p1, p2, p3⟩ := hp x (by simp)
   have hx : Val S T ops fr h (x :: s' :: (pre' ++ post)) fr2 h2 := .cons k1 k2 k3 k4 q3
   have ap : Apart ops b x s' := ⟨by rw [← q2.i]; exact p1.un, by rw [← q2.o]; exact p1.chg, by rw [← q2.o]; exact p1.xy, by rw [← q2.o]; exact p1.yx, by rw [← q2.o]; exact p1.dd⟩
   obtain ⟨x', s'', r1, r2, r3⟩ := swap hx ap (p2.sim (Sim.refl x) q2) (p3.sim q2 (Sim.refl x))
   exact ⟨x' :: pre', s'', ⟨r1, q1⟩, ⟨q2.i.trans r2.i, q2.o.trans r2.o, q2.fr.trans r2.fr, q2.ex.trans r2.ex, q2.v.trans r2.v, fun m => by
    have m1 := q2.chg m
    have m' : s'.chg := ⟨by rw [← q2.ex]; exact m.1, by rw [← q2.o]; exact m.2⟩
    have m2 := r2.chg m'
    exact ⟨m1.1.trans m2.1, m1.2.trans m2.2⟩⟩, r3⟩
def Rr (S : SatT) (T : Tab) (o : Oper) (fr : Frame) (h : H) (v : AVal) : Prop := opK S T o fr h fun v2 h2 => v2 = v ∧ h2 = h
theorem chk_tells {o : Oper} {fr : Frame} (hm : isMut o.op = false) {h h' : H} {K : Prop} (e : chkK T o fr h h' K) : (∀ v, Rr S T o fr h v → Rr S T o fr h' v) ∧ K := by
 obtain ⟨R, h1, _, h3⟩ := nonmut (S := S) (T := T) o fr hm
 obtain ⟨k1, k2⟩ := h3 h h' K e
 refine ⟨fun v hv => ?_, k2⟩
 obtain ⟨v', a, rfl, _⟩ := (h1 _ _).1 hv
 exact (h1 _ _).2 ⟨v', k1 v' a, rfl, rfl⟩
theorem pure_tells {o : Oper} {fr : Frame} (hm : isMut o.op = false) (hr : isRead o.op = false) (h h' : H) (v : AVal) (e : Rr S T o fr h v) : Rr S T o fr h' v := by
 obtain ⟨R, h1, h2, _⟩ := nonmut (S := S) (T := T) o fr hm
 obtain ⟨v', a, rfl, _⟩ := (h1 _ _).1 e
 exact (h1 _ _).2 ⟨v', h2 hr h h' v' a, rfl, rfl⟩
theorem op_one {o : Oper} {fr : Frame} {h : H} {K : AVal → H → Prop} (e : opK S T o fr h K) : ∃ v h', (opK S T o fr h fun v2 h2 => v2 = v ∧ h2 = h') ∧ K v h' := by
 obtain ⟨R, hR⟩ := Lin.two (opK_lin (S := S) (T := T) (h := h) o fr)
 obtain ⟨v, h', a, b⟩ := (hR _).1 e
 exact ⟨v, h', (hR _).2 ⟨v, h', a, rfl, rfl⟩, b⟩
theorem op_same {o : Oper} {fr : Frame} {h h' : H} {v : AVal} (hm : isMut o.op = false) (e : opK S T o fr h fun v2 h2 => v2 = v ∧ h2 = h') : h' = h := by
 obtain ⟨R, h1, _, _⟩ := nonmut (S := S) (T := T) o fr hm
 obtain ⟨v, _, _, e⟩ := (h1 _ _).1 e
 exact e.symm
theorem chkPend_spec {b : List Nat} {k : Nat} {h' : H} : ∀ (pend : List (Nat × Oper × Frame × H)) (K : Prop), (∀ e ∈ pend, isMut e.2.1.op = false) → chkPend T b k h' pend K →
  K ∧ ∀ e ∈ pend, unord b e.1 k = true → ∀ v, Rr S T e.2.1 e.2.2.1 e.2.2.2 v → Rr S T e.2.1 e.2.2.1 h' v
 | [], K, _, hK => ⟨hK, fun e he => by simp at he⟩
 |(i, o, fr, h) :: l, K, hm, hK => by
  unfold chkPend at hK
  cases hu : unord b i k with
  | false =>
   rw [hu] at hK
   obtain ⟨h1, h2⟩ := chkPend_spec l K (fun e he => hm e (by simp [he])) hK
   refine ⟨h1, fun e he hu' => ?_⟩
   rcases List.mem_cons.1 he with rfl | he
   ·rw [hu] at hu'; cases hu'
   ·exact h2 e he hu'
  | true =>
   rw [hu] at hK
   obtain ⟨h0, hK⟩ := chk_tells (S := S) (hm (i, o, fr, h) (by simp)) hK
   obtain ⟨h1, h2⟩ := chkPend_spec l K (fun e he => hm e (by simp [he])) hK
   refine ⟨h1, fun e he hu' => ?_⟩
   rcases List.mem_cons.1 he with rfl | he
   ·exact h0
   ·exact h2 e he hu'
theorem chkPast_spec {b : List Nat} {i : Nat} {o : Oper} {fr : Frame} {h : H} (hm : isMut o.op = false) : ∀ (past : List (Nat × H)) (K : Prop), chkPast T b i o fr h past K →
  K ∧ ∀ e ∈ past, unord b i e.1 = true → ∀ v, Rr S T o fr h v → Rr S T o fr e.2 v
 | [], K, hK => ⟨hK, fun e he => by simp at he⟩
 |(k, h0) :: l, K, hK => by
  unfold chkPast at hK
  cases hu : unord b i k with
  | false =>
   rw [hu] at hK
   obtain ⟨h1, h2⟩ := chkPast_spec hm l K hK
   refine ⟨h1, fun e he hu' => ?_⟩
   rcases List.mem_cons.1 he with rfl | he
   ·rw [hu] at hu'; cases hu'
   ·exact h2 e he hu'
  | true =>
   rw [hu] at hK
   obtain ⟨h0, hK⟩ := chk_tells (S := S) hm hK
   obtain ⟨h1, h2⟩ := chkPast_spec hm l K hK
   refine ⟨h1, fun e he hu' => ?_⟩
   rcases List.mem_cons.1 he with rfl | he
   ·exact h0
   ·exact h2 e he hu'
def PC (b : List Nat) : List (Nat × H × H) → H → Prop
 | [], _ => True
 |(k, h0, h1) :: rest, h => h1 = h ∧ (∀ e ∈ rest, bef b k e.1 = true) ∧ PC b rest h0
theorem past_both {b : List Nat} {Q : H → Prop} {i : Nat} (htr : ∀ c b' a, bef b c b' = true → bef b b' a = true → bef b c a = true) (hlt : ∀ p x, bef b p x = true → x < p) :
  ∀ (past : List (Nat × H × H)) (h : H), PC b past h → (∀ e ∈ past, e.1 < i) → Q h → (∀ e ∈ past, unord b i e.1 = true → Q e.2.1) → ∀ e ∈ past, unord b i e.1 = true → Q e.2.1 ∧ Q e.2.2
 | [], h, _, _, _, _, e, he, _ => by simp at he
 |(k, h0, h1) :: rest, h, hp, hi, hQ, hq, e, he, hu => by
  obtain ⟨rfl, hb, hp⟩ := hp
  rcases List.mem_cons.1 he with rfl | he'
  ·exact ⟨hq _ (by simp) hu, hQ⟩
  ·have hk : unord b i k = true := by
    have hb1 := hb e he'
    have h2 := hi (k, h0, h1) (by simp)
    unfold unord at hu ⊢
    rw [Bool.and_eq_true] at hu ⊢
    refine ⟨?_, ?_⟩
    ·cases h3 : bef b i k with
     | false => rfl
     | true =>
      have := htr i k e.1 h3 hb1
      rw [this] at hu
      cases hu.1
    ·cases h3 : bef b k i with
     | false => rfl
     | true => have := hlt k i h3; simp at h2; omega
   exact past_both htr hlt rest h0 hp (fun e he => hi e (by simp [he])) (hq (k, h0, h1) (by simp) hk) (fun e he => hq e (by simp [he])) e he' hu
theorem run_trace (hok : okD ops (befs ops []) = true) {k : Frame → H → Prop} :
  ∀ (l : List (Oper × Nat)) (past : List (Nat × H × H)) (pend : List (Nat × Oper × Frame × H)) (fr : Frame) (h : H),
   (∀ p ∈ l, ops[p.2]? = some p.1) → l.Pairwise (fun p q => p.2 < q.2) → (∀ e ∈ past, (∃ o, ops[e.1]? = some o ∧ isMut o.op = true) ∧ ∀ p ∈ l, e.1 < p.2) → (∀ e ∈ pend, isMut e.2.1.op = false ∧ ∀ p ∈ l, e.1 < p.2) →
   PC (befs ops []) past h → (∀ e ∈ pend, ∀ p ∈ l, isMut p.1.op = true → unord (befs ops []) e.1 p.2 = true → ∀ v, Rr S T e.2.1 e.2.2.1 e.2.2.2 v → Rr S T e.2.1 e.2.2.1 h v) →
   runDraw S T ops (befs ops []) l (past.map fun e => (e.1, e.2.1)) pend k fr h →
   ∃ L fr2 h2, Val S T ops fr h L fr2 h2 ∧ k fr2 h2 ∧ L.map (fun s => (s.o, s.i)) = l ∧ (∀ x ∈ L, ∀ y ∈ L, Both S T (befs ops []) x y) ∧
    (∀ e ∈ pend, ∀ y ∈ L, y.chg → unord (befs ops []) e.1 y.i = true → ∀ v, Rr S T e.2.1 e.2.2.1 e.2.2.2 v → Rr S T e.2.1 e.2.2.1 y.h v ∧ Rr S T e.2.1 e.2.2.1 y.h' v) ∧
    (∀ e ∈ past, ∀ x ∈ L, x.ex = true → isMut x.o.op = false → unord (befs ops []) x.i e.1 = true → Tells S T x e.2.1 ∧ Tells S T x e.2.2) := by
 obtain ⟨hdeps, hpair⟩ := okD_spec hok
 intro l
 induction l with
 | nil =>
  intro past pend fr h _ _ _ _ _ _ hR
  exact ⟨[], fr, h, .nil, hR, rfl, fun x hx => by simp at hx, fun e _ y hy => by simp at hy, fun e _ x hx => by simp at hx⟩
 | cons p l ih =>
  obtain ⟨o, i⟩ := p
  intro past pend fr h hops hinc hpast hpend hPC hpo hR
  have hmm : ∀ e ∈ past, isMut o.op = true → bef (befs ops []) i e.1 = true := fun e he hm => by
   obtain ⟨⟨o', ho', hm'⟩, hlt⟩ := hpast e he
   have := (hpair e.1 i o' o ho' (hops (o, i) (by simp)) (hlt (o, i) (by simp))).1
   unfold pairOK at this
   rw [hm, hm'] at this
   simpa using this
  have skipOK : gNo ops fr o → runDraw S T ops (befs ops []) l (past.map fun e => (e.1, e.2.1)) pend k (put fr o.dst .gone) h →
   ∃ L fr2 h2, Val S T ops fr h L fr2 h2 ∧ k fr2 h2 ∧ L.map (fun s => (s.o, s.i)) = (o, i) :: l ∧ (∀ x ∈ L, ∀ y ∈ L, Both S T (befs ops []) x y) ∧
    (∀ e ∈ pend, ∀ y ∈ L, y.chg → unord (befs ops []) e.1 y.i = true → ∀ v, Rr S T e.2.1 e.2.2.1 e.2.2.2 v → Rr S T e.2.1 e.2.2.1 y.h v ∧ Rr S T e.2.1 e.2.2.1 y.h' v) ∧
    (∀ e ∈ past, ∀ x ∈ L, x.ex = true → isMut x.o.op = false → unord (befs ops []) x.i e.1 = true → Tells S T x e.2.1 ∧ Tells S T x e.2.2) := by
   intro hg hR
   obtain ⟨L, fr2, h2, q1, q2, q3, q4, q5, q6⟩ := ih past pend (put fr o.dst .gone) h (fun p hp => hops p (by simp [hp])) (List.pairwise_cons.1 hinc).2 (fun e he => ⟨(hpast e he).1, fun p hp => (hpast e he).2 p (by simp [hp])⟩)
    (fun e he => ⟨(hpend e he).1, fun p hp => (hpend e he).2 p (by simp [hp])⟩) hPC (fun e he p hp => hpo e he p (by simp [hp])) hR
   refine ⟨⟨i, o, fr, false, .gone, h, h⟩ :: L, fr2, h2, .cons rfl (fun _ _ => rfl) (fun e => by cases e) (fun _ => ⟨hg, rfl, rfl⟩) q1, q2, by simp [q3], ?_, ?_, ?_⟩
   ·intro x hx y hy
    rcases List.mem_cons.1 hx with rfl | hx
    ·intro e; cases e
    ·rcases List.mem_cons.1 hy with rfl | hy
     ·intro _ _ m; cases m.1
     ·exact q4 x hx y hy
   ·intro e he y hy
    rcases List.mem_cons.1 hy with rfl | hy
    ·intro m; cases m.1
    ·exact q5 e he y hy
   ·intro e he x hx
    rcases List.mem_cons.1 hx with rfl | hx
    ·intro e; cases e
    ·exact q6 e he x hx
  have stepOK : gOK ops fr o → (stepDraw S T (befs ops []) i o (past.map fun e => (e.1, e.2.1)) pend fr h fun past pend v h => runDraw S T ops (befs ops []) l past pend k (put fr o.dst v) h) →
   ∃ L fr2 h2, Val S T ops fr h L fr2 h2 ∧ k fr2 h2 ∧ L.map (fun s => (s.o, s.i)) = (o, i) :: l ∧ (∀ x ∈ L, ∀ y ∈ L, Both S T (befs ops []) x y) ∧
    (∀ e ∈ pend, ∀ y ∈ L, y.chg → unord (befs ops []) e.1 y.i = true → ∀ v, Rr S T e.2.1 e.2.2.1 e.2.2.2 v → Rr S T e.2.1 e.2.2.1 y.h v ∧ Rr S T e.2.1 e.2.2.1 y.h' v) ∧
    (∀ e ∈ past, ∀ x ∈ L, x.ex = true → isMut x.o.op = false → unord (befs ops []) x.i e.1 = true → Tells S T x e.2.1 ∧ Tells S T x e.2.2) := by
   intro hg hR
   unfold stepDraw at hR
   cases hm : isMut o.op with
   | true =>
    rw [hm] at hR
    simp only [cond_true] at hR
    obtain ⟨v, h', hv, hK⟩ := op_one hR
    obtain ⟨hK, hc⟩ := chkPend_spec (S := S) pend _ (fun e he => (hpend e he).1) hK
    obtain ⟨L, fr2, h2, q1, q2, q3, q4, q5, q6⟩ := ih ((i, h, h') :: past) pend (put fr o.dst v) h' (fun p hp => hops p (by simp [hp])) (List.pairwise_cons.1 hinc).2
     (fun e he => by
      rcases List.mem_cons.1 he with rfl | he
      ·exact ⟨⟨o, hops (o, i) (by simp), hm⟩, fun p hp => (List.pairwise_cons.1 hinc).1 p hp⟩
      ·exact ⟨(hpast e he).1, fun p hp => (hpast e he).2 p (by simp [hp])⟩)
     (fun e he => ⟨(hpend e he).1, fun p hp => (hpend e he).2 p (by simp [hp])⟩) ⟨rfl, fun e he => hmm e he hm, hPC⟩
     (fun e he p hp hpm hu v hv => by
      refine hc e he ?_ v hv
      have h1 : bef (befs ops []) p.2 i = true := by
       have := (hpair i p.2 o p.1 (hops (o, i) (by simp)) (hops p (by simp [hp])) ((List.pairwise_cons.1 hinc).1 p hp)).1
       unfold pairOK at this
       rw [hm, hpm] at this
       simpa using this
      have h2 := (hpend e he).2 (o, i) (by simp)
      unfold unord at hu ⊢
      rw [Bool.and_eq_true] at hu ⊢
      refine ⟨?_, ?_⟩
      ·cases h3 : bef (befs ops []) e.1 i with
       | false => rfl
       | true => have := bef_lt hdeps _ _ h3; simp at h2; omega
      ·cases h3 : bef (befs ops []) i e.1 with
       | false => rfl
       | true =>
        have := bef_trans hdeps _ _ _ h1 h3
        rw [this] at hu
        cases hu.2)
     hK
    refine ⟨⟨i, o, fr, true, v, h, h'⟩ :: L, fr2, h2, .cons rfl (fun _ _ => rfl) (fun _ => ⟨hg, hv⟩) (fun e => by cases e) q1, q2, by simp [q3], ?_, ?_, ?_⟩
    ·intro x hx y hy
     rcases List.mem_cons.1 hx with rfl | hx
     ·intro _ e; simp only at e; rw [hm] at e; cases e
     ·rcases List.mem_cons.1 hy with rfl | hy
      ·intro e1 e2 _ e4
       exact q6 (i, h, h') (by simp) x hx e1 e2 e4
      ·exact q4 x hx y hy
    ·intro e he y hy
     rcases List.mem_cons.1 hy with rfl | hy
     ·intro _ hu v hv
      exact ⟨hpo e he (o, i) (by simp) hm hu v hv, hc e he hu v hv⟩
     ·exact q5 e he y hy
    ·intro e he x hx
     rcases List.mem_cons.1 hx with rfl | hx
     ·intro _ e; simp only at e; rw [hm] at e; cases e
     ·exact q6 e (by simp [he]) x hx
   | false =>
    rw [hm] at hR
    simp only [cond_false] at hR
    have main : ∀ (v : AVal) (pend' : List (Nat × Oper × Frame × H)), (opK S T o fr h fun v2 h2 => v2 = v ∧ h2 = h) → (∀ e ∈ past, unord (befs ops []) i e.1 = true → ∀ v, Rr S T o fr h v → Rr S T o fr e.2.1 v) →
      (∀ e ∈ pend', e ∈ pend ∨ (e = (i, o, fr, h))) → (∀ e ∈ pend, e ∈ pend') → ((i, o, fr, h) ∈ pend' ∨ isRead o.op = false) →
      runDraw S T ops (befs ops []) l (past.map fun e => (e.1, e.2.1)) pend' k (put fr o.dst v) h →
      ∃ L fr2 h2, Val S T ops fr h L fr2 h2 ∧ k fr2 h2 ∧ L.map (fun s => (s.o, s.i)) = (o, i) :: l ∧ (∀ x ∈ L, ∀ y ∈ L, Both S T (befs ops []) x y) ∧
       (∀ e ∈ pend, ∀ y ∈ L, y.chg → unord (befs ops []) e.1 y.i = true → ∀ v, Rr S T e.2.1 e.2.2.1 e.2.2.2 v → Rr S T e.2.1 e.2.2.1 y.h v ∧ Rr S T e.2.1 e.2.2.1 y.h' v) ∧
       (∀ e ∈ past, ∀ x ∈ L, x.ex = true → isMut x.o.op = false → unord (befs ops []) x.i e.1 = true → Tells S T x e.2.1 ∧ Tells S T x e.2.2) := by
     intro v pend' hv hpst hsub hsup hnew hR
     obtain ⟨L, fr2, h2, q1, q2, q3, q4, q5, q6⟩ := ih past pend' (put fr o.dst v) h (fun p hp => hops p (by simp [hp])) (List.pairwise_cons.1 hinc).2 (fun e he => ⟨(hpast e he).1, fun p hp => (hpast e he).2 p (by simp [hp])⟩)
      (fun e he => by
       rcases hsub e he with he | rfl
       ·exact ⟨(hpend e he).1, fun p hp => (hpend e he).2 p (by simp [hp])⟩
       ·exact ⟨hm, fun p hp => (List.pairwise_cons.1 hinc).1 p hp⟩) hPC
      (fun e he p hp => by
       rcases hsub e he with he | rfl
       ·exact hpo e he p (by simp [hp])
       ·exact fun _ _ v hv => hv) hR
     refine ⟨⟨i, o, fr, true, v, h, h⟩ :: L, fr2, h2, .cons rfl (fun _ _ => rfl) (fun _ => ⟨hg, hv⟩) (fun e => by cases e) q1, q2, by simp [q3], ?_, ?_, ?_⟩
     ·intro x hx y hy
      rcases List.mem_cons.1 hx with rfl | hx
      ·rcases List.mem_cons.1 hy with rfl | hy
       ·intro _ _ m; have := m.2; simp only at this; rw [hm] at this; cases this
       ·intro _ _ m hu
        rcases hnew with hnew | hnew
        ·exact q5 (i, o, fr, h) hnew y hy m hu v hv
        ·exact ⟨pure_tells hm hnew h _ v hv, pure_tells hm hnew h _ v hv⟩
      ·rcases List.mem_cons.1 hy with rfl | hy
       ·intro _ _ m; have := m.2; simp only at this; rw [hm] at this; cases this
       ·exact q4 x hx y hy
     ·intro e he y hy
      rcases List.mem_cons.1 hy with rfl | hy
      ·intro m; have := m.2; simp only at this; rw [hm] at this; cases this
      ·exact q5 e (hsup e he) y hy
     ·intro e he x hx
      rcases List.mem_cons.1 hx with rfl | hx
      ·intro _ _ hu
       exact past_both (Q := fun h => Rr S T o fr h v) (i := i) (fun c b a => bef_trans hdeps c b a) (fun p x => bef_lt hdeps p x) past h hPC (fun e he => (hpast e he).2 (o, i) (by simp)) hv (fun e he hu => hpst e he hu v hv) e he hu
      ·exact q6 e he x hx
    cases hr : isRead o.op with
    | true =>
     rw [hr] at hR
     simp only [cond_true] at hR
     obtain ⟨v, h', hv, hK⟩ := op_one hR
     have e := op_same hm hv
     subst e
     obtain ⟨hK, hc⟩ := chkPast_spec (S := S) hm _ _ hK
     exact main v ((i, o, fr, h') :: pend) hv (fun e he hu => hc (e.1, e.2.1) (List.mem_map_of_mem he) hu) (fun e he => (List.mem_cons.1 he).symm) (fun e he => by simp [he]) (.inl (by simp)) hK
    | false =>
     rw [hr] at hR
     simp only [cond_false] at hR
     obtain ⟨v, h', hv, hK⟩ := op_one hR
     have e := op_same hm hv
     subst e
     exact main v pend hv (fun e he hu v hv => pure_tells hm hr h' _ v hv) (fun e he => .inl he) (fun e he => he) (.inr hr) hK
  unfold runDraw at hR
  cases hg : o.guard with
  | none =>
   rw [hg] at hR
   exact stepOK (by unfold gOK; rw [hg]; trivial) hR
  | some g =>
   obtain ⟨j, want⟩ := g
   rw [hg] at hR
   simp only at hR
   cases hd : dstOf ops j with
   | none => rw [hd] at hR; exact hR.elim
   | some d =>
    rw [hd] at hR
    simp only at hR
    split at hR
    ·next c e =>
     have es := set_same e (by simp)
     cases c <;> cases want <;> simp only [cond_true, cond_false, es] at hR <;> first
      | exact stepOK (by unfold gOK; rw [hg]; exact ⟨d, hd, e⟩) hR
      | exact skipOK (by unfold gNo; rw [hg]; exact ⟨d, hd, .inl e⟩) hR
    ·next e => exact skipOK (by unfold gNo; rw [hg]; exact ⟨d, hd, .inr e⟩) hR
    ·exact hR.elim
end
end Go.Proofs.Ytcoampecbpiecaa.Cl
set_option linter.unusedVariables false
set_option linter.unusedSimpArgs false
namespace Go.Proofs.Ytcoampecbpiecaa.Cl
open Go
abbrev Fil := Nat → Option (List AVal)
def fillO (f : Option (List AVal)) (x : AObj) : AObj := match x, f with
 | .dead, some cs => .own cs
 | x, _ => x
def fill (F : Fil) (h : H) : H := h.mapIdx fun i x => fillO (F i) x
theorem fill_len (F : Fil) (h : H) : (fill F h).length = h.length := by simp [fill]
theorem fill_get (F : Fil) (h : H) (i : Nat) : (fill F h)[i]? = (h[i]?).map (fillO (F i)) := by simp [fill, List.getElem?_mapIdx]
theorem fillO_live {f : Option (List AVal)} {x : AObj} (h : x ≠ .dead) : fillO f x = x := by
 unfold fillO
 cases x <;> first | rfl | exact absurd rfl h
theorem fill_live {F : Fil} {h : H} {i : Nat} {x : AObj} (e : h[i]? = some x) (hx : x ≠ .dead) : (fill F h)[i]? = some x := by
 rw [fill_get, e]; simp [fillO_live hx]
theorem fill_none (h : H) : fill (fun _ => none) h = h := by
 apply List.ext_getElem?
 intro i
 rw [fill_get]
 cases h[i]? with
 | none => rfl
 | some x => cases x <;> rfl
theorem fill_fill (F G : Fil) (h : H) : fill F (fill G h) = fill (fun i => (G i).orElse fun _ => F i) h := by
 apply List.ext_getElem?
 intro i
 rw [fill_get, fill_get, fill_get]
 cases h[i]? with
 | none => rfl
 | some x => cases x <;> cases hg : G i <;> simp [fillO]
theorem fill_set (F : Fil) (h : H) (n : Nat) {x : AObj} (hx : x ≠ .dead) : fill F (h.set n x) = (fill F h).set n x := by
 apply List.ext_getElem?
 intro i
 rw [fill_get, List.getElem?_set, List.getElem?_set, fill_len]
 split
 ·split
  ·simp [fillO_live hx]
  ·rfl
 ·rw [fill_get]
theorem fill_app (F : Fil) (h : H) {x : AObj} (hx : x ≠ .dead) : fill F (h ++ [x]) = fill F h ++ [x] := by
 apply List.ext_getElem?
 intro i
 rw [fill_get]
 by_cases hi : i < h.length
 ·rw [List.getElem?_append_left hi, List.getElem?_append_left (by rw [fill_len]; exact hi), fill_get]
 ·rw [List.getElem?_append_right (by omega), List.getElem?_append_right (by rw [fill_len]; omega), fill_len]
  cases hq : [x][i - h.length]? with
  | none => rfl
  | some y =>
   have : y = x := by
    have := List.mem_of_getElem? hq
    simpa using this
   subst this
   simp [fillO_live hx]
def one1 (n : Nat) (cs : List AVal) : Fil := fun i => if i = n then some cs else none
theorem set_fill {h : H} {n : Nat} (cs : List AVal) (e : h[n]? = some .dead) : h.set n (.own cs) = fill (one1 n cs) h := by
 apply List.ext_getElem?
 intro i
 rw [fill_get, List.getElem?_set]
 unfold one1
 have hl := (List.getElem?_eq_some_iff.1 e).1
 by_cases hi : n = i
 ·subst hi
  rw [if_pos rfl, if_pos hl, if_pos rfl, e]; rfl
 ·rw [if_neg hi, if_neg (fun e => hi e.symm)]
  cases h[i]? with
  | none => rfl
  | some x => cases x <;> rfl
section
variable {h : H} (F : Fil)
theorem cells_fill {o n cs} (e : cells h o n = some cs) : cells (fill F h) o n = some cs := by
 unfold cells at e ⊢
 split at e
 ·next c hc => rw [fill_live hc (by simp)]; exact e
 ·next c hc => rw [fill_live hc (by simp)]; exact e
 ·cases e
theorem owned_fill {o n cs} (e : owned h o n = some cs) : owned (fill F h) o n = some cs := by
 unfold owned at e ⊢
 split at e
 ·next c hc => rw [fill_live hc (by simp)]; exact e
 ·cases e
theorem range_fill {o n off k cs} (e : range h o n off k = some cs) : range (fill F h) o n off k = some cs := by
 unfold range at e ⊢
 cases o with
 | none => exact e
 | some o =>
  simp only at e ⊢
  obtain ⟨c, h1, h2⟩ := Option.bind_eq_some_iff.1 e
  rw [cells_fill F h1]; exact h2
theorem cell_fill {p v} (e : cell h p = some v) : cell (fill F h) p = some v := by
 unfold cell at e ⊢
 cases ho : p.o with
 | none => rw [ho] at e; exact e
 | some o =>
  rw [ho] at e
  simp only at e ⊢
  obtain ⟨c, h1, h2⟩ := Option.bind_eq_some_iff.1 e
  rw [cells_fill F h1]; exact h2
theorem put1_fill {p v h'} (e : put1 h p v = some h') : put1 (fill F h) p v = some (fill F h') := by
 unfold put1 at e ⊢
 cases ho : p.o with
 | none => rw [ho] at e; cases e
 | some o =>
  rw [ho] at e
  simp only at e ⊢
  obtain ⟨c, h1, h2⟩ := Option.bind_eq_some_iff.1 e
  rw [owned_fill F h1]
  simp only [Option.bind_some]
  split at h2
  ·next hl => cases h2; rw [if_pos hl, fill_set F _ _ (by simp)]
  ·cases h2
theorem putN_fill {o n off vs h'} (e : putN h o n off vs = some h') : putN (fill F h) o n off vs = some (fill F h') := by
 unfold putN at e ⊢
 cases o with
 | none => cases e
 | some o =>
  simp only at e ⊢
  obtain ⟨c, h1, h2⟩ := Option.bind_eq_some_iff.1 e
  rw [owned_fill F h1]
  simp only [Option.bind_some]
  split at h2
  ·next hl => cases h2; rw [if_pos hl, fill_set F _ _ (by simp)]
  ·cases h2
theorem sread_fill {s cs} (e : sread h s = some cs) : sread (fill F h) s = some cs := by
 unfold sread at e ⊢
 split
 ·next hz => rw [if_pos hz] at e; exact e
 ·next hz => rw [if_neg hz] at e; exact range_fill F e
theorem okS_fill {s} (e : okS h s) : okS (fill F h) s := by
 unfold okS at e ⊢
 cases ho : s.o with
 | none => trivial
 | some o =>
  rw [ho] at e
  simp only at e ⊢
  cases hc : cells h o s.n with
  | none => rw [hc] at e; cases e
  | some c => rw [cells_fill F hc]; rfl
variable {T : Tab} {S : SatT}
theorem ldT_fill {t p K} (e : ldT T t p h K) : ldT T t p (fill F h) K := by
 unfold ldT at e ⊢
 split at e
 ·obtain ⟨x, a, b⟩ := e; exact ⟨x, cell_fill F a, b⟩
 ·obtain ⟨x, a, b⟩ := e; exact ⟨x, cell_fill F a, b⟩
 ·obtain ⟨x, a, b⟩ := e; exact ⟨x, cell_fill F a, b⟩
 ·obtain ⟨x, a, b⟩ := e; exact ⟨x, cell_fill F a, b⟩
 ·obtain ⟨x, a, b⟩ := e; exact ⟨x, range_fill F a, b⟩
 ·obtain ⟨x, a, b⟩ := e; exact ⟨x, range_fill F a, b⟩
 ·obtain ⟨x, a, b⟩ := e; exact ⟨x, cell_fill F a, b⟩
 ·obtain ⟨x, a, b⟩ := e; exact ⟨x, cell_fill F a, b⟩
 ·obtain ⟨x, a, b⟩ := e; exact ⟨x, cell_fill F a, b⟩
 ·exact e
theorem st1_fill {p v K} (e : st1 p v h K) : st1 p v (fill F h) fun h2 => ∃ h1, K h1 ∧ h2 = fill F h1 := by
 obtain ⟨h', a, b⟩ := e; exact ⟨_, put1_fill F a, _, b, rfl⟩
theorem stN_fill {p k vs K} (e : stN p k vs h K) : stN p k vs (fill F h) fun h2 => ∃ h1, K h1 ∧ h2 = fill F h1 := by
 obtain ⟨h', a, b, c⟩ := e; exact ⟨_, a, putN_fill F b, _, c, rfl⟩
theorem stT_fill {t p v K} (e : stT T t p v h K) : stT T t p v (fill F h) fun h2 => ∃ h1, K h1 ∧ h2 = fill F h1 := by
 unfold stT at e ⊢
 cases hA : isAggT T t with
 | true =>
  rw [hA] at e
  simp only [cond_true] at e ⊢
  split at e
  ·exact stN_fill F e
  ·exact e.elim
 | false =>
  rw [hA] at e
  simp only [cond_false] at e ⊢
  cases hc : (v.isCell && (tget T t).size == 1) with
  | true => rw [hc] at e; exact st1_fill F e
  | false => rw [hc] at e; exact e.elim
theorem App_fill {z s m xs s' h'} (e : App z s m xs h s' h') : App z s m xs (fill F h) s' (fill F h') := by
 cases e with
 | zero a => exact .zero a
 | fresh a b =>
  rw [fill_app F _ (by simp)]
  have := App.fresh (z := z) (xs := xs) (h := fill F h) a b
  rw [fill_len] at this
  exact this
 | fits a b c d e => exact .fits a b c d (putN_fill F e)
 | grows a b c d e f => rw [fill_set F _ _ (by simp)]; exact .grows a b c d e (owned_fill F f)
 | moves a b c d f =>
  rw [fill_app F _ (by simp), fill_set F _ _ (by simp)]
  have := App.moves (h := fill F h) (xs := xs) a b c d (owned_fill F f)
  rw [fill_len] at this
  exact this
theorem app_fill {s x z K} (e : app s x z h K) : app s x z (fill F h) fun s' h2 => ∃ h1, K s' h1 ∧ h2 = fill F h1 := by
 obtain ⟨xs, s', h', a, b, c, d, k⟩ := e
 exact ⟨xs, s', _, sread_fill F a, b, c, App_fill F d, _, k, rfl⟩
theorem copyS_fill {s x z K} (e : copyS s x z h K) : copyS s x z (fill F h) fun n h2 => ∃ h1, K n h1 ∧ h2 = fill F h1 := by
 obtain ⟨xs, h', a, b, c, d, k⟩ := e
 exact ⟨xs, _, range_fill F a, b, c, putN_fill F d, _, k, rfl⟩
theorem clearS_fill {s z K} (e : clearS s z h K) : clearS s z (fill F h) fun h2 => ∃ h1, K h1 ∧ h2 = fill F h1 := by
 unfold clearS at e ⊢
 split
 ·next hz => rw [if_pos hz] at e; exact ⟨_, e, rfl⟩
 ·next hz =>
  rw [if_neg hz] at e
  obtain ⟨h', a, b, k⟩ := e
  exact ⟨_, a, putN_fill F b, _, k, rfl⟩
theorem cut_fill {s z lo hi K} (e : cut s z lo hi h K) : cut s z lo hi (fill F h) K := by
 obtain ⟨a, b, c⟩ := e
 exact ⟨a, okS_fill F b, c⟩
theorem callK_fill {t f args h'} {v : AVal} (hc : ∀ v, S f args h v h' → S f args (fill F h) v (fill F h')) (e : callK S T t f args h fun v2 h2 => v2 = v ∧ h2 = h') :
  callK S T t f args (fill F h) fun v2 h2 => v2 = v ∧ h2 = fill F h' := by
 unfold callK at e ⊢
 split at e <;> (obtain ⟨x, h1, a, b, rfl⟩ := e; exact ⟨x, _, hc _ a, b, rfl⟩)
theorem mapAt_fill {r es} (e : mapAt h r = some es) : mapAt (fill F h) r = some es := by
 cases r with
 | none => exact e
 | some o =>
  simp only [mapAt] at e ⊢
  split at e
  ·next es2 ho => rw [fill_live ho (by simp)]; exact e
  ·cases e
theorem mput_fill {m k x K} (e : mput m k x h K) : mput m k x (fill F h) fun h2 => ∃ h1, K h1 ∧ h2 = fill F h1 := by
 obtain ⟨o, es, es', a, b, d, k⟩ := e
 exact ⟨o, es, es', a, fill_live b (by simp), d, _, k, (fill_set F h o (by simp)).symm⟩
theorem rr_fill {o : Oper} {fr : Frame} {v : AVal} (hm : isMut o.op = false) (e : Rr S T o fr h v) : Rr S T o fr (fill F h) v := by
 unfold Rr at e ⊢
 cases hr : isRead o.op with
 | false =>
  rw [pure_eq o fr hm hr h (fill F h)] at e
  rw [same_eq o fr hm (fill F h)]
  exact Lin.mono (opK_lin (S := S) (T := T) (h := fill F h) o fr) (K := fun p => p.1 = v ∧ h = h) (K' := fun p => p.1 = v ∧ fill F h = fill F h) (fun p hp => ⟨hp.1, rfl⟩) e
 | true =>
  unfold opK at e ⊢
  cases ho : o.op <;> rw [ho] at hr <;> first
   |(simp [isRead] at hr; done)
   | skip
  ·simp only [ho] at e ⊢
   split at e
   ·next p he => exact Lin.mono (ldT_lin _ _) (K := fun v2 => v2 = v ∧ True) (fun v2 h => ⟨h.1, trivial⟩) (ldT_fill F e)
   ·exact e.elim
  ·simp only [ho] at e ⊢
   split at e
   ·split at e
    ·next a b ea eb =>
     obtain ⟨hz, e⟩ := bif_true e
     rw [hz]
     exact cut_fill F e
    ·exact e.elim
   ·split at e
    ·obtain ⟨hz, e⟩ := bif_true e
     rw [hz]
     obtain ⟨a, b, c, d⟩ := e
     exact ⟨a, b, c, d⟩
    ·exact e.elim
   ·exact e
   ·exact e.elim
  ·simp only [ho] at e ⊢
   split at e
   ·refine keyK_mono (fun key e => ?_) e
    split at e
    ·obtain ⟨r, es, f, n, a, b, d⟩ := e
     exact ⟨r, es, f, n, a, mapAt_fill F b, d⟩
    ·obtain ⟨r, es, f, n, a, b, d⟩ := e
     exact ⟨r, es, f, n, a, mapAt_fill F b, d⟩
    ·exact e
   ·exact e.elim
  ·next c =>
   simp only [ho] at e ⊢
   have hr' : (match c.callee with | .builtin .len => true | _ => false) = true := hr
   split at hr'
   ·next hc =>
    simp only [hc] at e ⊢
    split at e
    ·exact e
    ·exact e
    ·split at e
     ·obtain ⟨r, es, a, b, d⟩ := e
      exact ⟨r, es, a, mapAt_fill F b, d⟩
     ·exact e.elim
    ·exact e
    ·exact e.elim
   ·cases hr'
theorem opK_fill {o : Oper} {fr : Frame} {v : AVal} {h' : H} (ha : isAlloc o.op = false) (hc : ∀ f args v, (∀ {μ w ds}, VRs μ h fr ds → Rel μ h w → ∃ ds2, VRs μ h args ds2) → S f args h v h' → S f args (fill F h) v (fill F h'))
  (e : opK S T o fr h fun v2 h2 => v2 = v ∧ h2 = h') : opK S T o fr (fill F h) fun v2 h2 => v2 = v ∧ h2 = fill F h' := by
 have dn : ∀ {v2 : AVal} {h2 : H}, (∃ h1, (v2 = v ∧ h1 = h') ∧ h2 = fill F h1) → v2 = v ∧ h2 = fill F h' := fun ⟨_, ⟨a, b⟩, c⟩ => ⟨a, by rw [c, b]⟩
 cases hm : isMut o.op with
 | false =>
  have hh := op_same hm e
  subst hh
  exact rr_fill F hm e
 | true =>
  unfold opK at e ⊢
  cases ho : o.op <;> rw [ho] at hm ha <;> first
   |(simp [isMut] at hm; done)
   |(simp [isAlloc] at ha; done)
   | skip
  ·simp only [ho] at e ⊢
   split at e
   ·next p he => exact Lin.mono (stT_lin _ _ _) (K := fun h2 => ∃ h1, (AVal.gone = v ∧ h1 = h') ∧ h2 = fill F h1) (fun h2 hx => dn hx) (stT_fill F e)
   ·exact e.elim
  ·simp only [ho] at e ⊢
   split at e
   ·obtain ⟨a, b⟩ := e
    unfold newM
    rw [fill_len]
    exact ⟨a, by rw [← b, fill_app F h (by simp)]⟩
   ·exact e.elim
  ·simp only [ho] at e ⊢
   split at e
   ·exact keyK_mono (fun key e => Lin.mono (mput_lin _ _ _) (K := fun h2 => ∃ h1, (AVal.gone = v ∧ h1 = h') ∧ h2 = fill F h1) (fun h2 hx => dn hx) (mput_fill F e)) e
   ·exact e.elim
  ·next c =>
   simp only [ho] at e ⊢
   split at e
   ·exact callK_fill F (fun v => hc _ _ v fun {μ w ds} hf r => ⟨_, maps_VRs (a := ⟨ds.toArray, []⟩) (by simpa using hf) _⟩) e
   ·obtain ⟨f, cap, a, b⟩ := e
    refine ⟨f, cap, a, callK_fill F (fun v => hc _ _ v fun {μ w ds} hf r => ?_) b⟩
    next g hg _ =>
    have hv := ev_sound (a := ⟨ds.toArray, []⟩) (μ := μ) (h := h) (fr := fr) (by simpa using hf) g
    rw [a] at hv
    simp only [VR] at hv
    obtain ⟨dc, _, hdc⟩ := hv
    exact ⟨_, VRs.append (maps_VRs (a := ⟨ds.toArray, []⟩) (by simpa using hf) _) hdc⟩
   ·next hcal => simp [isMut, hcal] at hm
   ·split at e
    ·obtain ⟨hz, e⟩ := bif_true e
     rw [hz]
     exact Lin.mono (app_lin _ _ _) (K := fun p => ∃ h1, (AVal.sl p.1 = v ∧ h1 = h') ∧ p.2 = fill F h1) (K' := fun p => AVal.sl p.1 = v ∧ p.2 = fill F h') (fun p hx => dn hx) (app_fill F e)
    ·exact e.elim
   ·split at e
    ·obtain ⟨hz, e⟩ := bif_true e
     rw [hz]
     exact Lin.mono (copyS_lin _ _ _) (K := fun p => ∃ h1, (AVal.int .i64 p.1 = v ∧ h1 = h') ∧ p.2 = fill F h1) (K' := fun p => AVal.int .i64 p.1 = v ∧ p.2 = fill F h') (fun p hx => dn hx) (copyS_fill F e)
    ·exact e.elim
   ·split at e
    ·obtain ⟨hz, e⟩ := bif_true e
     rw [hz]
     exact Lin.mono (clearS_lin _ _) (K := fun h2 => ∃ h1, (AVal.gone = v ∧ h1 = h') ∧ h2 = fill F h1) (fun h2 hx => dn hx) (clearS_fill F e)
    ·exact e.elim
   ·next hcal => simp [isMut, hcal] at hm
   ·next hcal => simp [isMut, hcal] at hm
   ·exact e.elim
end
end Go.Proofs.Ytcoampecbpiecaa.Cl
set_option linter.unusedVariables false
set_option linter.unusedSimpArgs false
namespace Go.Proofs.Ytcoampecbpiecaa.Cl
open Go
abbrev live (h : H) (o : Nat) : Prop := (inf h o).isSome = true
mutual
def al (h : H) : AVal → Prop
 | .ptr p => ∀ o, p.o = some o → live h o
 | .sl s => ∀ o, s.o = some o → live h o
 | .map r => ∀ o, r = some o → live h o
 | .func _ cap => als h cap
 | .agg cs => als h cs
 | .tuple vs => als h vs
 | .undef => True | .gone => True | .bool _ => True | .int _ _ => True | .str _ => True | .nilFunc => True
def als (h : H) : List AVal → Prop
 | [] => True
 | c :: cs => al h c ∧ als h cs
end
mutual
theorem VR.al {μ h} : ∀ {c v}, VR μ h c v → al h c
 | .undef, v, _ => by simp only [Cl.al]
 | .gone, v, _ => by simp only [Cl.al]
 | .bool b, v, _ => by simp only [Cl.al]
 | .int k n, v, _ => by simp only [Cl.al]
 | .str _, v, _ => by simp only [Cl.al]
 | .nilFunc, v, _ => by simp only [Cl.al]
 | .ptr p, v, r => by
  simp only [VR, PR] at r
  simp only [Cl.al]
  intro o e
  rw [e] at r
  exact r.1
 | .sl p, v, r => by
  simp only [VR, SR] at r
  simp only [Cl.al]
  intro o e
  rw [e] at r
  exact r.1
 | .map p, v, r => by
  simp only [VR, MR] at r
  simp only [Cl.al]
  intro o e
  rw [e] at r
  exact r.1
 | .func f cap, v, r => by
  simp only [VR] at r
  simp only [Cl.al]
  obtain ⟨ds, e, r⟩ := r
  exact VRs.al r
 | .agg cs, v, r => by
  simp only [VR] at r
  simp only [Cl.al]
  obtain ⟨ds, e, r, c⟩ := r
  exact VRs.al r
 | .tuple cs, v, r => by
  simp only [VR] at r
  simp only [Cl.al]
  obtain ⟨ds, e, r⟩ := r
  exact VRs.al r
theorem VRs.al {μ h} : ∀ {cs ds}, VRs μ h cs ds → als h cs
 | [], ds, _ => by simp only [als]
 | c :: cs, ds, r => by
  simp only [VRs] at r
  obtain ⟨d, ds', e, h1, h2⟩ := r
  simp only [als]
  exact ⟨VR.al h1, VRs.al h2⟩
end
mutual
theorem al_both {h1 h2 h : H} (hb : ∀ o, live h1 o → live h2 o → live h o) : ∀ {c}, al h1 c → al h2 c → al h c
 | .undef, _, _ => by simp only [al]
 | .gone, _, _ => by simp only [al]
 | .bool b, _, _ => by simp only [al]
 | .int k n, _, _ => by simp only [al]
 | .str _, _, _ => by simp only [al]
 | .nilFunc, _, _ => by simp only [al]
 | .ptr p, a, b => by simp only [al] at *; exact fun o e => hb o (a o e) (b o e)
 | .sl p, a, b => by simp only [al] at *; exact fun o e => hb o (a o e) (b o e)
 | .map p, a, b => by simp only [al] at *; exact fun o e => hb o (a o e) (b o e)
 | .func f cap, a, b => by simp only [al] at *; exact als_both hb a b
 | .agg cap, a, b => by simp only [al] at *; exact als_both hb a b
 | .tuple cap, a, b => by simp only [al] at *; exact als_both hb a b
theorem als_both {h1 h2 h : H} (hb : ∀ o, live h1 o → live h2 o → live h o) : ∀ {cs}, als h1 cs → als h2 cs → als h cs
 | [], _, _ => by simp only [als]
 | c :: cs, a, b => by simp only [als] at *; exact ⟨al_both hb a.1 b.1, als_both hb a.2 b.2⟩
end
def Agree (h : H) (μ1 : Mu) (h1 : H) (μ2 : Mu) (h2 : H) : Prop := ∀ o, live h o → inf h1 o = inf h2 o ∧ μ1 o = μ2 o
mutual
theorem VR.to {h μ1 h1 μ2 h2} (A : Agree h μ1 h1 μ2 h2) : ∀ {c v}, al h c → VR μ1 h1 c v → VR μ2 h2 c v
 | .undef, v, _, _ => by simp only [VR]
 | .gone, v, _, r => by simpa only [VR] using r
 | .bool b, v, _, r => by simpa only [VR] using r
 | .int k n, v, _, r => by simpa only [VR] using r
 | .str _, v, _, r => by simpa only [VR] using r
 | .nilFunc, v, _, r => by simpa only [VR] using r
 | .ptr p, v, a, r => by
  simp only [VR, PR, al] at *
  split
  ·next e => rw [e] at r; exact r
  ·next o e =>
   rw [e] at r
   obtain ⟨e1, e2⟩ := A o (a o e)
   rw [← e1, ← e2]
   exact r
 | .sl p, v, a, r => by
  simp only [VR, SR, al] at *
  split
  ·next e => rw [e] at r; exact r
  ·next o e =>
   rw [e] at r
   obtain ⟨e1, e2⟩ := A o (a o e)
   rw [← e1, ← e2]
   exact r
 | .map p, v, a, r => by
  simp only [VR, MR, al] at *
  split
  ·exact r
  ·next o =>
   obtain ⟨e1, e2⟩ := A o (a o rfl)
   rw [← e1, ← e2]
   exact r
 | .func f cap, v, a, r => by
  simp only [VR, al] at *
  obtain ⟨ds, e, r⟩ := r
  exact ⟨ds, e, VRs.to A a r⟩
 | .agg cs, v, a, r => by
  simp only [VR, al] at *
  obtain ⟨ds, e, r, c⟩ := r
  exact ⟨ds, e, VRs.to A a r, c⟩
 | .tuple cs, v, a, r => by
  simp only [VR, al] at *
  obtain ⟨ds, e, r⟩ := r
  exact ⟨ds, e, VRs.to A a r⟩
theorem VRs.to {h μ1 h1 μ2 h2} (A : Agree h μ1 h1 μ2 h2) : ∀ {cs ds}, als h cs → VRs μ1 h1 cs ds → VRs μ2 h2 cs ds
 | [], ds, _, r => by simpa only [VRs] using r
 | c :: cs, ds, a, r => by
  simp only [VRs, als] at *
  obtain ⟨d, ds', e, h1, h2⟩ := r
  exact ⟨d, ds', e, VR.to A a.1 h1, VRs.to A a.2 h2⟩
end
theorem live_of {h : H} {o : Nat} {t m : Nat} (e : inf h o = some (t, m)) : live h o := by unfold live; rw [e]; rfl
theorem inf_own {h : H} {o : Nat} {cs} (e : h[o]? = some (.own cs)) : inf h o = some (0, cs.length) := by unfold inf; rw [e]
theorem inf_dead {h : H} {o : Nat} (e : h[o]? = some .dead) : inf h o = none := by unfold inf; rw [e]
theorem inf_none {h : H} {o : Nat} (e : h[o]? = none) : inf h o = none := by unfold inf; rw [e]
theorem not_dead {h : H} {o : Nat} (l : live h o) : h[o]? ≠ some .dead := fun e => by unfold live at l; rw [inf_dead e] at l; cases l
theorem dead_of {h : H} {o : Nat} (hl : o < h.length) (e : inf h o = none) : h[o]? = some .dead := by
 unfold inf at e
 split at e <;> first | (cases e; done) | skip
 next hn1 hn2 hn3 hn4 =>
 rw [List.getElem?_eq_getElem hl] at *
 cases hx : h[o] with
 | own cs => rw [hx] at hn1; exact absurd rfl (hn1 cs)
 | ro cs => rw [hx] at hn2; exact absurd rfl (hn2 cs)
 | mp cs => rw [hx] at hn3; exact absurd rfl (hn3 cs)
 | lost n => rw [hx] at hn4; exact absurd rfl (hn4 n)
 | dead => rfl
section
variable {P : Program} {T : Tab} {S : SatT}
theorem inf_fill_live {F : Fil} {h : H} {o : Nat} (l : live h o) : inf (fill F h) o = inf h o := by
 have hd := not_dead l
 unfold inf
 rw [fill_get]
 cases hx : h[o]? with
 | none => rfl
 | some x =>
  have : x ≠ .dead := fun e => hd (by rw [hx, e])
  simp only [Option.map_some, fillO_live this]
theorem Rel.unfill {μ μ0 : Mu} {F : Fil} {h : H} {w w0 : World} (r : Rel μ (fill F h) w) (r0 : Rel μ0 h w0) : Rel μ h w := by
 have A : Agree h μ (fill F h) μ h := fun o l => ⟨inf_fill_live l, rfl⟩
 refine ⟨fun o cs e => ?_, fun o cs e i v hv => ?_, fun o es e => ?_, fun o o' t m t' m' e1 ht e2 hz hne hb => ?_⟩
 ·obtain ⟨h1, h2, h3, h4⟩ := r.own o cs (fill_live e (by simp))
  refine ⟨h1, h2, h3, fun i v hv => ?_⟩
  obtain ⟨k1, d, k2, k3⟩ := h4 i v hv
  obtain ⟨_, _, _, q4⟩ := r0.own o cs e
  obtain ⟨_, _, _, q⟩ := q4 i v hv
  exact ⟨k1, d, k2, k3.to A q.al⟩
 ·obtain ⟨k1, d, k2, k3⟩ := r.ro o cs (fill_live e (by simp)) i v hv
  obtain ⟨_, _, _, q⟩ := r0.ro o cs e i v hv
  exact ⟨k1, d, k2, k3.to A q.al⟩
 ·obtain ⟨h1, ms, ck, h2, h3, h4⟩ := r.mp o es (fill_live e (by simp))
  refine ⟨h1, ms, ck, h2, h3, fun i k v hv => ?_⟩
  obtain ⟨k1, m, k2, k3, k4⟩ := h4 i k v hv
  obtain ⟨_, _, _, _, _, q4⟩ := r0.mp o es e
  obtain ⟨_, _, _, q5, q6⟩ := q4 i k v hv
  exact ⟨k1, m, k2, k3.to A q5.al, k4.to A q6.al⟩
 ·exact r.sep o o' t m t' m' (by rw [inf_fill_live (live_of e1)]; exact e1) ht (by rw [inf_fill_live (live_of e2)]; exact e2) hz hne hb
def Fits (F : Fil) (h : H) : Prop := ∀ o cs, F o = some cs → h[o]? = some .dead
theorem VR.unfill {μ : Mu} {F : Fil} {h : H} {c v} (a : Cl.al h c) (r : VR μ (fill F h) c v) : VR μ h c v := r.to (fun o l => ⟨inf_fill_live l, rfl⟩) a
theorem VRs.unfill {μ : Mu} {F : Fil} {h : H} {c v} (a : als h c) (r : VRs μ (fill F h) c v) : VRs μ h c v := r.to (fun o l => ⟨inf_fill_live l, rfl⟩) a
theorem inf_fill_at {F : Fil} {h : H} {o : Nat} {cs} (hF : F o = some cs) (e : h[o]? = some .dead) : (fill F h)[o]? = some (.own cs) := by
 rw [fill_get, e, Option.map_some, hF]; rfl
theorem Tr.fill {μ μ' : Mu} {F : Fil} {h h' : H} {w w' : World} (hF : Fits F h) (hF' : Fits F h') (r : Rel μ (fill F h) w) (t : Tr μ h w μ' h' w') :
  ∃ μ2, Tr μ (Cl.fill F h) w μ2 (Cl.fill F h') w' ∧ ∀ {c v}, VR μ' h' c v → VR μ2 (Cl.fill F h') c v := by
 classical
 have hm2 : ∀ o, live h' o → F o = none := fun o l => by
  cases e : F o with
  | none => rfl
  | some cs => exact absurd (hF' o cs e) (not_dead l)
 refine ⟨fun o => if (F o).isSome then μ o else μ' o, ?_⟩
 generalize hμ : (fun o => if (F o).isSome then μ o else μ' o) = μ2
 have m1 : ∀ o, F o = none → μ2 o = μ' o := fun o e => by rw [← hμ]; simp [e]
 have m2 : ∀ o cs, F o = some cs → μ2 o = μ o := fun o cs e => by rw [← hμ]; simp [e]
 have A : Agree h' μ' h' μ2 (Cl.fill F h') := fun o l => ⟨(inf_fill_live l).symm, (m1 o (hm2 o l)).symm⟩
 have hinf : ∀ o t m, inf (Cl.fill F h') o = some (t, m) → (∃ cs, F o = some cs ∧ inf (Cl.fill F h) o = some (t, m) ∧ t = 0) ∨ (F o = none ∧ inf h' o = some (t, m)) := by
  intro o t m e
  cases hf : F o with
  | none =>
   refine .inr ⟨rfl, ?_⟩
   unfold inf at e ⊢
   rw [fill_get] at e
   cases hx : h'[o]? with
   | none => rw [hx] at e; cases e
   | some x =>
    rw [hx] at e
    simp only [Option.map_some, hf] at e
    have : fillO none x = x := by cases x <;> rfl
    rw [this] at e
    exact e
  | some cs =>
   rw [inf_own (inf_fill_at hf (hF' o cs hf))] at e
   refine .inl ⟨cs, rfl, ?_, ?_⟩
   ·rw [inf_own (inf_fill_at hf (hF o cs hf))]; exact e
   ·cases e; rfl
 have hst : Step μ (Cl.fill F h) μ2 (Cl.fill F h') := by
  refine ⟨by rw [fill_len, fill_len]; exact t.step.len, fun o l => ?_, fun o ty m ho e => ?_⟩
  ·cases hf : F o with
   | some cs => rw [inf_own (inf_fill_at hf (hF' o cs hf))]; rfl
   | none =>
    have l' : live h o := by
     unfold live inf at *
     rw [fill_get] at l
     cases hx : h[o]? with
     | none => rw [hx] at l; cases l
     | some x =>
      rw [hx] at l
      simp only [Option.map_some, hf] at l
      have : fillO none x = x := by cases x <;> rfl
      rw [this] at l
      exact l
    have := t.step.alive o l'
    show (inf (Cl.fill F h') o).isSome = true
    rw [inf_fill_live this]; exact this
  ·rw [fill_len] at ho
   rcases hinf o ty m e with ⟨cs, hf, e2, _⟩ | ⟨hf, e2⟩
   ·exact ⟨ty, m, e2, Nat.le_refl _, fun _ => ⟨rfl, m2 o cs hf⟩, .inl rfl⟩
   ·obtain ⟨t', n, e3, h1, h2, h3⟩ := t.step.same o ty m ho e2
    refine ⟨t', n, by rw [inf_fill_live (live_of e3)]; exact e3, h1, fun hmn => by rw [m1 o hf]; exact h2 hmn, h3⟩
 have hblk : ∀ o cs, F o = some cs → (μ o).b < w.heap.size ∧ w'.heap[(μ o).b]? = w.heap[(μ o).b]? := by
  intro o cs hf
  have hq := inf_fill_at hf (hF o cs hf)
  obtain ⟨h1, _⟩ := r.own o cs hq
  refine ⟨h1, t.keep.block _ h1 ?_⟩
  rintro ⟨o', ty, m, e, ht, hb⟩
  have hne : o ≠ o' := fun e2 => by subst e2; exact not_dead (live_of e) (hF o cs hf)
  exact r.sep o o' 0 cs.length ty m (inf_own hq) (by decide) (by rw [inf_fill_live (live_of e)]; exact e) ⟨fun h => absurd h ht.1, ht.2⟩ hne hb.symm
 have hcell : ∀ o cs i, F o = some cs → w'.cell? (place (μ o) i) = w.cell? (place (μ o) i) ∧ w'.frozen? (place (μ o) i) = w.frozen? (place (μ o) i) := by
  intro o cs i hf
  have := (hblk o cs hf).2
  unfold World.cell? World.frozen?
  simp only [place]
  rw [this]
  exact ⟨rfl, rfl⟩
 refine ⟨⟨⟨fun o cs e => ?_, fun o cs e i v hv => ?_, fun o es e => ?_, fun o o' ty m ty' m' e1 ht e2 hz hne hb => ?_⟩, hst, ⟨t.keep.os, t.keep.tape, t.keep.output, t.keep.size, fun k hk hn => ?_, t.keep.drawn⟩, fun b hb => ?_, fun b hb => ?_⟩, fun {c v} hv => hv.to A hv.al⟩
 ·cases hf : F o with
  | some cs' =>
   have e' := inf_fill_at hf (hF' o cs' hf)
   rw [e'] at e
   cases e
   obtain ⟨h1, h2, h3, h4⟩ := r.own o cs (inf_fill_at hf (hF o cs hf))
   rw [m2 o cs hf]
   refine ⟨Nat.lt_of_lt_of_le h1 t.keep.size, h2, fun i hi => ?_, fun i v hv => ?_⟩
   ·rw [(hcell o cs i hf).1, (hcell o cs i hf).2]; exact h3 i hi
   ·obtain ⟨k1, d, k2, k3⟩ := h4 i v hv
    exact ⟨k1, d, by rw [(hcell o cs i hf).1]; exact k2, k3.step hst⟩
  | none =>
   have e' : h'[o]? = some (.own cs) := by
    rw [fill_get] at e
    cases hx : h'[o]? with
    | none => rw [hx] at e; cases e
    | some x =>
     rw [hx] at e
     simp only [Option.map_some, hf] at e
     have : fillO none x = x := by cases x <;> rfl
     rw [this] at e
     exact e
   obtain ⟨h1, h2, h3, h4⟩ := t.rel.own o cs e'
   rw [m1 o hf]
   refine ⟨h1, h2, h3, fun i v hv => ?_⟩
   obtain ⟨k1, d, k2, k3⟩ := h4 i v hv
   exact ⟨k1, d, k2, k3.to A k3.al⟩
 ·have hf : F o = none := by
   cases hf : F o with
   | none => rfl
   | some cs' => rw [inf_fill_at hf (hF' o cs' hf)] at e; cases e
  have e' : h'[o]? = some (.ro cs) := by
   rw [fill_get] at e
   cases hx : h'[o]? with
   | none => rw [hx] at e; cases e
   | some x =>
    rw [hx] at e
    simp only [Option.map_some, hf] at e
    have : fillO none x = x := by cases x <;> rfl
    rw [this] at e
    exact e
  obtain ⟨k1, d, k2, k3⟩ := t.rel.ro o cs e' i v hv
  rw [m1 o hf]
  exact ⟨k1, d, k2, k3.to A k3.al⟩
 ·have hf : F o = none := by
   cases hf : F o with
   | none => rfl
   | some cs' => rw [inf_fill_at hf (hF' o cs' hf)] at e; cases e
  have e' : h'[o]? = some (.mp es) := by
   rw [fill_get] at e
   cases hx : h'[o]? with
   | none => rw [hx] at e; cases e
   | some x =>
    rw [hx] at e
    simp only [Option.map_some, hf] at e
    have : fillO none x = x := by cases x <;> rfl
    rw [this] at e
    exact e
  obtain ⟨h1, ms, ck, h2, h3, h4⟩ := t.rel.mp o es e'
  rw [m1 o hf]
  refine ⟨h1, ms, ck, h2, h3, fun i k v hv => ?_⟩
  obtain ⟨k1, m, k2, k3, k4⟩ := h4 i k v hv
  exact ⟨k1, m, k2, k3.to A k3.al, k4.to A k4.al⟩
 ·have cross : ∀ o cs o' ty' m', F o = some cs → F o' = none → inf h' o' = some (ty', m') → ((ty' = 1 → 0 < m') ∧ ty' ≠ 3) → (μ o).b = (μ' o').b → False := by
   intro o cs o' ty' m' hf hf' e2 hz hb
   have hq := inf_fill_at hf (hF o cs hf)
   rcases t.has (μ' o').b ⟨o', ty', m', e2, hz, rfl⟩ with ⟨o2, t2, m2', e3, hz2, hb2⟩ | hsz
   ·have hne : o ≠ o2 := fun e => by subst e; exact not_dead (live_of e3) (hF o cs hf)
    exact r.sep o o2 0 cs.length t2 m2' (inf_own hq) (by decide) (by rw [inf_fill_live (live_of e3)]; exact e3) hz2 hne (by rw [hb2, hb])
   ·have := (hblk o cs hf).1
    omega
  rcases hinf o ty m e1 with ⟨cs, hf, e3, _⟩ | ⟨hf, e3⟩
  ·rcases hinf o' ty' m' e2 with ⟨cs', hf', e4, _⟩ | ⟨hf', e4⟩
   ·rw [m2 o cs hf, m2 o' cs' hf'] at hb
    exact r.sep o o' ty m ty' m' e3 ht e4 hz hne hb
   ·rw [m2 o cs hf, m1 o' hf'] at hb
    exact cross o cs o' ty' m' hf hf' e4 hz hb
  ·rcases hinf o' ty' m' e2 with ⟨cs', hf', e4, _⟩ | ⟨hf', e4⟩
   ·rw [m1 o hf, m2 o' cs' hf'] at hb
    exact cross o' cs' o ty m hf' hf e3 ⟨fun h => absurd h ht.1, ht.2⟩ hb.symm
   ·rw [m1 o hf, m1 o' hf'] at hb
    exact t.rel.sep o o' ty m ty' m' e3 ht e4 hz hne hb
 ·refine t.keep.block k hk fun hm => hn ?_
  obtain ⟨o, ty, m, e, ht, hb⟩ := hm
  exact ⟨o, ty, m, by rw [inf_fill_live (live_of e)]; exact e, ht, hb⟩
 ·obtain ⟨o, ty, m, e, ht, hb⟩ := hb
  rcases hinf o ty m e with ⟨cs, hf, e2, _⟩ | ⟨hf, e2⟩
  ·rw [m2 o cs hf] at hb
   exact .inl ⟨o, ty, m, e2, ht, hb⟩
  ·rw [m1 o hf] at hb
   rcases t.mine b ⟨o, ty, m, e2, ht, hb⟩ with ⟨o2, t2, m2', e3, ht2, hb2⟩ | hs
   ·exact .inl ⟨o2, t2, m2', by rw [inf_fill_live (live_of e3)]; exact e3, ht2, hb2⟩
   ·exact .inr hs
 ·obtain ⟨o, ty, m, e, ht, hb⟩ := hb
  rcases hinf o ty m e with ⟨cs, hf, e2, _⟩ | ⟨hf, e2⟩
  ·rw [m2 o cs hf] at hb
   exact .inl ⟨o, ty, m, e2, ht, hb⟩
  ·rw [m1 o hf] at hb
   rcases t.has b ⟨o, ty, m, e2, ht, hb⟩ with ⟨o2, t2, m2', e3, ht2, hb2⟩ | hs
   ·exact .inl ⟨o2, t2, m2', by rw [inf_fill_live (live_of e3)]; exact e3, ht2, hb2⟩
   ·exact .inr hs
theorem Sat.fill {F : Fil} {f : Nat} {args : List AVal} {h h' : H} {v : AVal} (hF : Fits F h) (hF' : Fits F h') {μ0 : Mu} {w0 : World} {ds0 : List Value} (r0 : Rel μ0 h w0) (a0 : VRs μ0 h args ds0)
  (s : Sat P f args h v h') : Sat P f args (Cl.fill F h) v (Cl.fill F h') := by
 refine ⟨s.1, fun μ w ds r hd => ?_⟩
 refine (s.2 μ w ds (r.unfill r0) (hd.unfill a0.al)).mono fun e w' ⟨x, μ', he, ht, hv⟩ => ?_
 obtain ⟨μ2, t2, k⟩ := ht.fill hF hF' r
 exact ⟨x, μ2, he, t2, k hv⟩
end
end Go.Proofs.Ytcoampecbpiecaa.Cl
set_option linter.unusedVariables false
set_option linter.unusedSimpArgs false
namespace Go.Proofs.Ytcoampecbpiecaa.Cl
open Go
section
variable {P : Program} {T : Tab} {S : SatT}
theorem alloc_own {o : Oper} {fr : Frame} {v : AVal} {h1 : H} (ha : isAlloc o.op = true) (e : opK S T o fr [] fun v2 h2 => v2 = v ∧ h2 = h1) :
  ∃ cs, h1 = [.own cs] ∧ ((∃ n off, v = .ptr ⟨some 0, n, off⟩) ∨ ∃ n off len sz, v = .sl ⟨some 0, n, off, len, sz⟩) ∧ ∀ g, opK S T o fr g fun v2 h2 => v2 = v.at_ g.length ∧ h2 = g ++ [.own cs] := by
 unfold opK at e ⊢
 cases ho : o.op <;> rw [ho] at ha <;> first
  |(simp [isAlloc] at ha; done)
  | skip
 ·simp only [ho] at e ⊢
  obtain ⟨hz, e⟩ := bif_true e
  obtain ⟨rfl, rfl⟩ := e
  refine ⟨_, rfl, .inl ⟨_, _, rfl⟩, fun g => ?_⟩
  rw [hz]
  exact ⟨rfl, rfl⟩
 ·next t x =>
  simp only [ho] at e ⊢
  cases hA : isAggT T t with
  | true =>
   rw [hA] at e
   simp only [cond_true] at e ⊢
   split at e
   ·obtain ⟨hl, rfl, rfl⟩ := e
    exact ⟨_, rfl, .inl ⟨_, _, rfl⟩, fun g => ⟨hl, rfl, rfl⟩⟩
   ·exact e.elim
  | false =>
   rw [hA] at e
   simp only [cond_false] at e ⊢
   obtain ⟨hz, e⟩ := bif_true e
   obtain ⟨rfl, rfl⟩ := e
   refine ⟨_, rfl, .inl ⟨_, _, rfl⟩, fun g => ?_⟩
   rw [hz]
   exact ⟨rfl, rfl⟩
 ·next t n ps =>
  simp only [ho] at e ⊢
  split at e
  ·next ee he =>
   obtain ⟨hz, e⟩ := bif_true e
   rw [hz]
   obtain ⟨cs, ⟨rfl, rfl⟩, k⟩ := Lin.wit (fillK_lin _ _ _ _) e
   exact ⟨cs, rfl, .inr ⟨_, _, _, _, rfl⟩, fun g => Lin.mono (fillK_lin _ _ _ _) (fun x hx => by subst hx; exact ⟨rfl, rfl⟩) k⟩
  ·exact e.elim
 ·next t n c =>
  simp only [ho] at e ⊢
  split at e
  ·obtain ⟨hz, e⟩ := bif_true e
   rw [hz]
   obtain ⟨hl, rfl, rfl⟩ := e
   exact ⟨_, rfl, .inr ⟨_, _, _, _, rfl⟩, fun g => ⟨hl, rfl, rfl⟩⟩
  ·exact e.elim
theorem opA_inv {o : Oper} {fr : Frame} {h : H} {p : Nat} {K : AVal → H → Prop} (ha : isAlloc o.op = true) (e : opA S T o fr h p K) :
  ∃ (v1 : AVal) (cs : List AVal), K (v1.at_ p) (h.set p (.own cs)) ∧ ((∃ n off, v1 = .ptr ⟨some 0, n, off⟩) ∨ ∃ n off len sz, v1 = .sl ⟨some 0, n, off, len, sz⟩) ∧ (∀ g, opK S T o fr g fun v2 h2 => v2 = v1.at_ g.length ∧ h2 = g ++ [.own cs]) ∧
   ∀ g q K', K' (v1.at_ q) (g.set q (.own cs)) → opA S T o fr g q K' := by
 unfold opA at e
 obtain ⟨v1, h1, e1, e2⟩ := op_one e
 obtain ⟨cs, rfl, k1, k2⟩ := alloc_own ha e1
 refine ⟨v1, cs, e2, k1, k2, fun g q K' hK => ?_⟩
 unfold opA
 exact Lin.mono (opK_lin (S := S) (T := T) (h := []) o fr) (K := fun x => x.1 = v1 ∧ x.2 = [.own cs]) (K' := fun x => match x.2 with | [y] => K' (x.1.at_ q) (g.set q y) | _ => False) (fun x hx => by rw [hx.1, hx.2]; exact hK) e1
theorem val_run {s : Sem Value} {w : World} {R : Value → World → Prop} (e : OpOK P (do pure (.value (← s))) w R) : ∃ x w1, (do pure (.value (← s)) : Sem Next).run P w = .ok (.value x) w1 ∧ R x w1 := by
 unfold OpOK at e
 rw [Sem.run_bind] at e ⊢
 cases hs : s.run P w with
 | ok x w1 =>
  rw [hs] at e
  simp only [Result.andThen_ok, Sem.run_pure] at e ⊢
  exact ⟨x, w1, rfl, e⟩
 | _ =>
  rw [hs] at e
  simp [Result.andThen] at e
theorem alloc_val {o : Oper} {ρ : Operand → Value} {w : World} {R : Value → World → Prop} (ha : isAlloc o.op = true) (e : OpOK P (execOp ρ o) w R) : ∃ x w1, (execOp ρ o).run P w = .ok (.value x) w1 ∧ R x w1 := by
 unfold execOp at e ⊢
 cases ho : o.op <;> rw [ho] at ha <;> first
  |(simp [isAlloc] at ha; done)
  |(simp only [ho] at e ⊢; exact val_run e)
theorem Step.dead (μ : Mu) (h : H) : Step μ h μ (h ++ [.dead]) :=
 ⟨by simp, fun o e => by rw [inf_push h _ o (isSome_lt e)]; exact e, fun o t m ho e => ⟨t, m, by rw [inf_push h _ o ho] at e; exact e, Nat.le_refl _, fun _ => ⟨rfl, rfl⟩, .inl rfl⟩⟩
theorem inf_dead_end (h : H) (o : Nat) : inf (h ++ [.dead]) o = inf h o := by
 by_cases hl : o < h.length
 ·exact inf_push _ _ _ hl
 ·have h1 : inf h o = none := inf_none (List.getElem?_eq_none (by omega))
  rw [h1]
  unfold inf
  rw [List.getElem?_append_right (by omega)]
  cases hq : o - h.length with
  | zero => rfl
  | succ n => rfl
theorem get_dead_end {h : H} {o : Nat} {x : AObj} (hx : x ≠ .dead) (e : (h ++ [.dead])[o]? = some x) : h[o]? = some x := by
 rw [List.getElem?_append] at e
 split at e
 ·exact e
 ·next hl =>
  cases hq : o - h.length with
  | zero => rw [hq] at e; cases e; exact absurd rfl hx
  | succ n => rw [hq] at e; cases e
theorem Tr.dead1 {μ h w} (r : Rel μ h w) : Tr μ h w μ (h ++ [.dead]) w := by
 have st := Step.dead μ h
 refine ⟨⟨fun o cs e => ?_, fun o cs e i v hv => ?_, fun o es e => ?_, fun o o' t m t' m' e1 ht e2 hz hne hb => ?_⟩, st, Keep.refl _ _, fun b hb => ?_, fun b hb => ?_⟩
 ·obtain ⟨h1, h2, h3, h4⟩ := r.own o cs (get_dead_end (by simp) e)
  exact ⟨h1, h2, h3, fun i v hv => (h4 i v hv).imp id fun ⟨d, a, b⟩ => ⟨d, a, b.step st⟩⟩
 ·exact (r.ro o cs (get_dead_end (by simp) e) i v hv).imp id fun ⟨d, a, b⟩ => ⟨d, a, b.step st⟩
 ·obtain ⟨h1, ms, ck, h2, h3, h4⟩ := r.mp o es (get_dead_end (by simp) e)
  exact ⟨h1, ms, ck, h2, h3, fun i k v hv => (h4 i k v hv).imp fun d ⟨a, b, c, e⟩ => ⟨a, b, c.step st, e.step st⟩⟩
 ·rw [inf_dead_end] at e1 e2; exact r.sep o o' t m t' m' e1 ht e2 hz hne hb
 ·obtain ⟨o, t, m, e, x⟩ := hb; rw [inf_dead_end] at e; exact .inl ⟨o, t, m, e, x⟩
 ·obtain ⟨o, t, m, e, x⟩ := hb; rw [inf_dead_end] at e; exact .inl ⟨o, t, m, e, x⟩
theorem Tr.deads {μ w} : ∀ (k : Nat) {h : H}, Rel μ h w → Tr μ h w μ (h ++ List.replicate k .dead) w
 | 0, h, r => by simpa using Tr.refl r
 | k + 1, h, r => by
  have t1 := Tr.dead1 r
  have t2 := Tr.deads k t1.rel
  rw [List.append_assoc] at t2
  exact t1.trans t2
theorem opA_sound (hS : ∀ f args h v h2, S f args h v h2 → Sat P f args h v h2) (hT : TOK P T) {μ0 μ : Mu} {h0 h : H} {w0 w : World} {o : Oper} {fr : Frame} {a : Act} {p : Nat} {K : AVal → H → Prop} (T0 : Tr μ0 h0 w0 μ h w) (hp : h0.length ≤ p) (hd : h[p]? = some .dead)
  (hf : VRs μ h fr a.tmps.toList) (ha : isAlloc o.op = true) (e : opA S T o fr h p K) :
  OpOK P (execOp a.eval o) w fun x w' => ∃ v h' μ', K v h' ∧ Tr μ0 h0 w0 μ' h' w' ∧ VR μ' h' v x ∧ VRs μ' h' fr a.tmps.toList := by
 obtain ⟨v1, cs, hK, hform, hg, _⟩ := opA_inv ha e
 obtain ⟨x, w1, run1, v, h', μ1, ⟨rfl, rfl⟩, t1, vx⟩ := alloc_val ha (op_sound hS hT T0.rel hf (hg h))
 have td := Tr.dead1 T0.rel
 obtain ⟨x', w1', run2, v, h', μ3, ⟨rfl, rfl⟩, t3, _⟩ := alloc_val ha (op_sound hS hT td.rel (hf.step td.step) (hg (h ++ [AObj.dead])))
 have hpl : p < h.length := (List.getElem?_eq_some_iff.1 hd).1
 have hnew : (h ++ [.own cs])[h.length]? = some (AObj.own cs) := by simp
 have halive : ∀ (i : Nat) v, cs[i]? = some v → al h v := by
  intro i v hv
  obtain ⟨_, _, _, q1⟩ := t1.rel.own h.length cs hnew
  obtain ⟨_, _, _, q3⟩ := t3.rel.own (h ++ [AObj.dead]).length cs (by simp)
  obtain ⟨_, _, _, k1⟩ := q1 i v hv
  obtain ⟨_, _, _, k3⟩ := q3 i v hv
  refine al_both (fun o l1 l3 => ?_) k1.al k3.al
  by_cases ho : o < h.length
  ·unfold live at *; rwa [inf_push _ _ _ ho] at l1
  ·exfalso
   have := isSome_lt l1
   simp at this
   have : o = h.length := by omega
   subst this
   exact not_dead l3 (by rw [List.getElem?_append_left (by simp)]; simp)
 have hset : (h.set p (.own cs))[p]? = some (AObj.own cs) := by simp [hpl]
 have hother : ∀ o, o ≠ p → (h.set p (.own cs))[o]? = h[o]? := fun o hne => by rw [List.getElem?_set, if_neg (fun e => hne e.symm)]
 have hinf : ∀ o, o ≠ p → inf (h.set p (.own cs)) o = inf h o := fun o hne => by unfold inf; rw [hother o hne]
 have hmu1 : ∀ o, live h o → μ1 o = μ o := fun o l => by
  unfold live at l
  cases hq : inf h o with
  | none => rw [hq] at l; cases l
  | some tm =>
   obtain ⟨ty, m⟩ := tm
   obtain ⟨_, n, e1, _, e3, _⟩ := t1.step.same o ty m (isSome_lt (live_of hq)) (by rw [inf_push _ _ _ (isSome_lt (live_of hq))]; exact hq)
   rw [hq] at e1
   cases e1
   exact (e3 rfl).2
 generalize hμ : (fun o => if o = p then μ1 h.length else μ1 o) = μ2
 have m1 : ∀ o, o ≠ p → μ2 o = μ1 o := fun o e => by rw [← hμ]; simp [e]
 have m2 : μ2 p = μ1 h.length := by rw [← hμ]; simp
 have A : Agree h μ1 (h ++ [.own cs]) μ2 (h.set p (.own cs)) := fun o l => by
  have hne : o ≠ p := fun e => by subst e; exact not_dead l hd
  exact ⟨by rw [inf_push _ _ _ (isSome_lt l), hinf o hne], (m1 o hne).symm⟩
 -- where an object of the new heap lies in the other one
 have hphi : ∀ o t m, inf (h.set p (.own cs)) o = some (t, m) → ∃ o', inf (h ++ [.own cs]) o' = some (t, m) ∧ μ2 o = μ1 o' ∧ (o' = if o = p then h.length else o) := by
  intro o t m e
  by_cases hne : o = p
  ·subst hne
   rw [inf_own hset] at e
   exact ⟨h.length, by rw [inf_own hnew]; exact e, m2, by simp⟩
  ·rw [hinf o hne] at e
   exact ⟨o, by rw [inf_push _ _ _ (isSome_lt (live_of e))]; exact e, m1 o hne, by simp [hne]⟩
 have hrel : Rel μ2 (h.set p (.own cs)) w1 := by
  refine ⟨fun o c e => ?_, fun o c e i v hv => ?_, fun o es e => ?_, fun o o' t m t' m' e1 ht e2 hz hne hb => ?_⟩
  ·by_cases hne : o = p
   ·subst hne
    rw [hset] at e
    cases e
    obtain ⟨h1, h2, h3, h4⟩ := t1.rel.own h.length cs hnew
    rw [m2]
    refine ⟨h1, h2, h3, fun i v hv => ?_⟩
    obtain ⟨k1, d, k2, k3⟩ := h4 i v hv
    exact ⟨k1, d, k2, k3.to A (halive i v hv)⟩
   ·rw [hother o hne] at e
    have hl : o < h.length := (List.getElem?_eq_some_iff.1 e).1
    obtain ⟨h1, h2, h3, h4⟩ := t1.rel.own o c (by rw [List.getElem?_append_left hl]; exact e)
    rw [m1 o hne]
    refine ⟨h1, h2, h3, fun i v hv => ?_⟩
    obtain ⟨k1, d, k2, k3⟩ := h4 i v hv
    obtain ⟨_, _, _, q4⟩ := T0.rel.own o c e
    obtain ⟨_, _, _, q⟩ := q4 i v hv
    exact ⟨k1, d, k2, k3.to A q.al⟩
  ·have hne : o ≠ p := fun e2 => by subst e2; rw [hset] at e; cases e
   rw [hother o hne] at e
   have hl : o < h.length := (List.getElem?_eq_some_iff.1 e).1
   obtain ⟨k1, d, k2, k3⟩ := t1.rel.ro o c (by rw [List.getElem?_append_left hl]; exact e) i v hv
   obtain ⟨_, _, _, q⟩ := T0.rel.ro o c e i v hv
   rw [m1 o hne]
   exact ⟨k1, d, k2, k3.to A q.al⟩
  ·have hne : o ≠ p := fun e2 => by subst e2; rw [hset] at e; cases e
   rw [hother o hne] at e
   have hl : o < h.length := (List.getElem?_eq_some_iff.1 e).1
   obtain ⟨h1, ms, ck, h2, h3, h4⟩ := t1.rel.mp o es (by rw [List.getElem?_append_left hl]; exact e)
   rw [m1 o hne]
   refine ⟨h1, ms, ck, h2, h3, fun i k v hv => ?_⟩
   obtain ⟨k1, m, k2, k3, k4⟩ := h4 i k v hv
   obtain ⟨_, _, _, _, _, q4⟩ := T0.rel.mp o es e
   obtain ⟨_, _, _, q5, q6⟩ := q4 i k v hv
   exact ⟨k1, m, k2, k3.to A q5.al, k4.to A q6.al⟩
  ·obtain ⟨a1, b1, c1, d1⟩ := hphi o t m e1
   obtain ⟨a2, b2, c2, d2⟩ := hphi o' t' m' e2
   rw [c1, c2] at hb
   have l1 := inf_lt e1
   have l2 := inf_lt e2
   simp at l1 l2
   refine t1.rel.sep a1 a2 t m t' m' b1 ht b2 hz (fun e => hne ?_) hb
   rw [d1, d2] at e
   split at e <;> split at e <;> omega
 have tt := T0.trans t1
 have hlen := T0.step.len
 refine (?_ : OpOK P (execOp a.eval o) w _)
 unfold OpOK
 rw [run1]
 refine ⟨_, _, μ2, hK, ⟨hrel, ⟨by simpa using hlen, fun o l => ?_, fun o t m ho e => ?_⟩, tt.keep, fun b hb => ?_, fun b hb => ?_⟩, ?_, (hf.step t1.step).to A hf.al⟩
 ·have hl0 := isSome_lt l
  have hne : o ≠ p := by omega
  rw [hinf o hne]; exact T0.step.alive o l
 ·have hne : o ≠ p := by omega
  rw [hinf o hne] at e
  obtain ⟨t', n, e1, e2, e3, e4⟩ := T0.step.same o t m ho e
  exact ⟨t', n, e1, e2, fun hmn => ⟨(e3 hmn).1, by rw [m1 o hne, hmu1 o (live_of e), (e3 hmn).2]⟩, e4⟩
 ·obtain ⟨o, t, m, e, ht, hb⟩ := hb
  obtain ⟨a1, b1, c1, _⟩ := hphi o t m e
  exact tt.mine b ⟨a1, t, m, b1, ht, by rw [← c1]; exact hb⟩
 ·obtain ⟨o, t, m, e, ht, hb⟩ := hb
  obtain ⟨a1, b1, c1, _⟩ := hphi o t m e
  exact tt.has b ⟨a1, t, m, b1, ht, by rw [← c1]; exact hb⟩
 ·have e1 : inf (h ++ [.own cs]) h.length = inf (h.set p (.own cs)) p := by rw [inf_own hnew, inf_own hset]
  rcases hform with ⟨n, off, rfl⟩ | ⟨n, off, len, sz, rfl⟩
  ·simp only [AVal.at_, VR, PR] at vx ⊢
   rw [← e1, m2]; exact vx
  ·simp only [AVal.at_, VR, SR] at vx ⊢
   rw [← e1, m2]; exact vx
end
end Go.Proofs.Ytcoampecbpiecaa.Cl
set_option linter.unusedVariables false
set_option linter.unusedSimpArgs false
namespace Go.Proofs.Ytcoampecbpiecaa.Cl
open Go
section
variable {P : Program} {T : Tab} {S : SatT} {ops : List Oper} {n k : Nat}
theorem alloc_mut {o : Op} (h : isAlloc o = true) : isMut o = true := by cases o <;> first | rfl | (simp [isAlloc] at h)
def opX (S : SatT) (T : Tab) (n i : Nat) (o : Oper) (fr : Frame) (h : H) (K : AVal → H → Prop) : Prop :=
 bif isAlloc o.op then opA S T o fr h (n + i) K else opK S T o fr h K
inductive ValX (S : SatT) (T : Tab) (ops : List Oper) (n : Nat) : Frame → H → List Stp → Frame → H → Prop where
 | nil {fr h} : ValX S T ops n fr h [] fr h
 | cons {fr h st l fr2 h2} : st.h = h → agree ops st.o fr st.fr → (st.ex = true → gOK ops st.fr st.o ∧ opX S T n st.i st.o st.fr st.h fun v h => v = st.v ∧ h = st.h') →
   (st.ex = false → gNo ops st.fr st.o ∧ st.v = .gone ∧ st.h' = st.h) → ValX S T ops n (put fr st.o.dst st.v) st.h' l fr2 h2 → ValX S T ops n fr h (st :: l) fr2 h2
def Room (n k i : Nat) (h : H) (F : Fil) : Prop := ∀ o cs, F o = some cs → n ≤ o ∧ o < n + k ∧ o ≠ n + i ∧ h[o]? = some .dead
structure Good (S : SatT) (T : Tab) (n k : Nat) (a : Stp) : Prop where
 fil : a.chg → ∀ F, Room n k a.i a.h F → opX S T n a.i a.o a.fr (fill F a.h) fun v h2 => v = a.v ∧ h2 = fill F a.h'
 ded : a.chg → ∀ o, n ≤ o → o < n + k → a.h'[o]? = some .dead → a.h[o]? = some .dead
 own : a.ex = true → isAlloc a.o.op = true → a.i < k ∧ a.h[n + a.i]? = some .dead
structure SimX (n k : Nat) (a b : Stp) : Prop where
 i : a.i = b.i
 o : a.o = b.o
 fr : a.fr = b.fr
 ex : a.ex = b.ex
 v : a.v = b.v
 chg : a.chg → ∃ F, Room n k a.i a.h F ∧ b.h = fill F a.h ∧ b.h' = fill F a.h'
theorem SimX.refl (a : Stp) : SimX n k a a := ⟨rfl, rfl, rfl, rfl, rfl, fun _ => ⟨fun _ => none, (fun o cs e => by cases e), (fill_none _).symm, (fill_none _).symm⟩⟩
theorem Sim.x {a b : Stp} (s : Sim a b) : SimX n k a b := ⟨s.i, s.o, s.fr, s.ex, s.v, fun c => ⟨fun _ => none, (fun o cs e => by cases e), by rw [fill_none]; exact (s.chg c).1.symm, by rw [fill_none]; exact (s.chg c).2.symm⟩⟩
theorem fill_dead {F : Fil} {h : H} {o : Nat} (e : (fill F h)[o]? = some .dead) : h[o]? = some .dead ∧ F o = none := by
 rw [fill_get] at e
 cases hx : h[o]? with
 | none => rw [hx] at e; cases e
 | some x =>
  rw [hx] at e
  simp only [Option.map_some, Option.some.injEq] at e
  cases x <;> cases hf : F o <;> simp_all [fillO]
theorem dead_fill {F : Fil} {h : H} {o : Nat} (e : h[o]? = some .dead) (hf : F o = none) : (fill F h)[o]? = some .dead := by
 rw [fill_get, e, Option.map_some, hf]; rfl
theorem SimX.chg_iff {a b : Stp} (s : SimX n k a b) : a.chg ↔ b.chg := by unfold Stp.chg; rw [s.ex, s.o]
theorem Room.none_at {i : Nat} {h : H} {F : Fil} (r : Room n k i h F) : F (n + i) = none := by
 cases e : F (n + i) with
 | none => rfl
 | some cs => exact absurd rfl (r _ cs e).2.2.1
theorem Good.sim {a b : Stp} (g : Good S T n k a) (s : SimX n k a b) : Good S T n k b := by
 refine ⟨fun c G hG => ?_, fun c o h1 h2 h3 => ?_, fun he ha => ?_⟩
 ·have c' := s.chg_iff.2 c
  obtain ⟨F, hF, e1, e2⟩ := s.chg c'
  rw [e1] at hG
  rw [e1, e2, fill_fill, fill_fill, ← s.i, ← s.o, ← s.fr, ← s.v]
  refine g.fil c' _ fun o cs ho => ?_
  cases hf : F o with
  | some cs' => exact hF o cs' hf
  | none =>
   rw [hf] at ho
   obtain ⟨q1, q2, q3, q4⟩ := hG o cs (by simpa using ho)
   rw [← s.i] at q3
   exact ⟨q1, q2, q3, (fill_dead q4).1⟩
 ·have c' := s.chg_iff.2 c
  obtain ⟨F, hF, e1, e2⟩ := s.chg c'
  rw [e2] at h3
  obtain ⟨k1, k2⟩ := fill_dead h3
  rw [e1]
  exact dead_fill (g.ded c' o h1 h2 k1) k2
 ·rw [← s.ex] at he
  rw [← s.o] at ha
  obtain ⟨q1, q2⟩ := g.own he ha
  obtain ⟨F, hF, e1, e2⟩ := s.chg ⟨he, alloc_mut ha⟩
  rw [← s.i, e1]
  exact ⟨q1, dead_fill q2 hF.none_at⟩
theorem Both.simX {b x y x' y'} (h : Both S T b x y) (sx : SimX n k x x') (sy : SimX n k y y') : Both S T b x' y' := by
 intro e1 e2 e3 e4
 have m := sy.chg_iff.2 e3
 rw [← sx.o] at e2
 obtain ⟨h1, h2⟩ := h (by rw [sx.ex]; exact e1) e2 m (by rw [sx.i, sy.i]; exact e4)
 obtain ⟨F, hF, q1, q2⟩ := sy.chg m
 unfold Tells at *
 rw [← sx.o, ← sx.fr, ← sx.v, q1, q2]
 exact ⟨rr_fill F e2 h1, rr_fill F e2 h2⟩
structure ApartX (ops : List Oper) (b : List Nat) (x y : Stp) : Prop where
 ne : x.i ≠ y.i
 un : unord b x.i y.i = true
 chg : isMut x.o.op = true → isMut y.o.op = true → isAlloc y.o.op = true
 xy : ∀ d, x.o.dst = some d → d ∉ readsOf ops y.o
 yx : ∀ d, y.o.dst = some d → d ∉ readsOf ops x.o
 dd : ∀ d e, x.o.dst = some d → y.o.dst = some e → d ≠ e
theorem nonmutX {a : Stp} (hm : isMut a.o.op = false) : (opX S T n a.i a.o a.fr a.h fun v h => v = a.v ∧ h = a.h') → (opK S T a.o a.fr a.h fun v h => v = a.v ∧ h = a.h') ∧ a.h' = a.h := by
 intro e
 have ha : isAlloc a.o.op = false := by
  cases h : isAlloc a.o.op with
  | false => rfl
  | true => rw [alloc_mut h] at hm; cases hm
 unfold opX at e
 rw [ha] at e
 exact ⟨e, nonmut_same hm e⟩
theorem still {a : Stp} (ex : a.ex = true → gOK ops a.fr a.o ∧ opX S T n a.i a.o a.fr a.h fun v h => v = a.v ∧ h = a.h') (no : a.ex = false → gNo ops a.fr a.o ∧ a.v = .gone ∧ a.h' = a.h) (hc : ¬ a.chg) : a.h' = a.h := by
 cases e : a.ex with
 | false => exact (no e).2.2
 | true =>
  have : isMut a.o.op = false := by
   cases hm : isMut a.o.op with
   | false => rfl
   | true => exact absurd ⟨e, hm⟩ hc
  exact (nonmutX this (ex e).2).2
theorem opX_non {a : Stp} {fr : Frame} {h : H} {K : AVal → H → Prop} (hm : isMut a.o.op = false) : opX S T n a.i a.o fr h K = opK S T a.o fr h K := by
 have ha : isAlloc a.o.op = false := by
  cases h : isAlloc a.o.op with
  | false => rfl
  | true => rw [alloc_mut h] at hm; cases hm
 unfold opX; rw [ha]; rfl
theorem swapX {b : List Nat} {fr h x y l fr2 h2} (H : ValX S T ops n fr h (x :: y :: l) fr2 h2) (ap : ApartX ops b x y) (hy : ¬ (y.ex = true ∧ isAlloc y.o.op = true)) (c1 : Both S T b x y) (c2 : Both S T b y x) :
  ∃ x' y', Sim x x' ∧ Sim y y' ∧ ValX S T ops n fr h (y' :: x' :: l) fr2 h2 := by
 cases H with
 | cons hx ax ex nx H =>
 cases H with
 | cons hyh ay ey ny H =>
 have ay' : agree ops y.o fr y.fr := fun t ht => by rw [← ay t ht, getD_put _ _ _ _ fun d hd e => ap.xy d hd (e ▸ ht)]
 have ax' : agree ops x.o (put fr y.o.dst y.v) x.fr := fun t ht => by rw [getD_put _ _ _ _ fun d hd e => ap.yx d hd (e ▸ ht)]; exact ax t ht
 have hput : put (put fr x.o.dst x.v) y.o.dst y.v = put (put fr y.o.dst y.v) x.o.dst x.v := put_comm _ _ _ _ _ fun d e h1 h2 => ap.dd d e h1 h2
 rw [hput] at H
 by_cases mx : x.chg
 ·have my : ¬ y.chg := fun m => hy ⟨m.1, ap.chg mx.2 m.2⟩
  have hyy := still ey ny my
  refine ⟨x, { y with h := h, h' := h }, Sim.refl _, ⟨rfl, rfl, rfl, rfl, rfl, fun m => absurd m my⟩, ?_⟩
  refine .cons rfl ay' (fun e => ⟨(ey e).1, ?_⟩) (fun e => ⟨(ny e).1, (ny e).2.1, rfl⟩) ?_
  ·have hm : isMut y.o.op = false := by
    cases hm : isMut y.o.op with
    | false => rfl
    | true => exact absurd ⟨e, hm⟩ my
   have := (c2 e hm mx (by rw [unord_comm]; exact ap.un)).1
   rw [hx] at this
   show opX S T n y.i y.o y.fr h _
   rw [opX_non hm]
   exact this
  ·refine .cons hx ax' ex nx ?_
   rw [hyy, hyh] at H
   exact H
 ·have hxx := still ex nx mx
  refine ⟨{ x with h := y.h', h' := y.h' }, y, ⟨rfl, rfl, rfl, rfl, rfl, fun m => absurd m mx⟩, Sim.refl _, ?_⟩
  refine .cons (by rw [hyh, hxx, hx]) ay' ey ny ?_
  refine .cons rfl ax' (fun e => ⟨(ex e).1, ?_⟩) (fun e => ⟨(nx e).1, (nx e).2.1, rfl⟩) H
  have hm : isMut x.o.op = false := by
   cases hm : isMut x.o.op with
   | false => rfl
   | true => exact absurd ⟨e, hm⟩ mx
  show opX S T n x.i x.o x.fr y.h' _
  rw [opX_non hm]
  by_cases my : y.chg
  ·exact (c1 e hm my ap.un).2
  ·have hyy := still ey ny my
   have := (nonmutX hm (ex e).2).1
   rw [hxx] at this
   show opK S T x.o x.fr y.h' fun v h2 => v = x.v ∧ h2 = y.h'
   rw [hyy, hyh, hxx]
   exact this
theorem room_one {p i : Nat} {h : H} {cs : List AVal} (h1 : n ≤ p) (h2 : p < n + k) (h3 : p ≠ n + i) (e : h[p]? = some .dead) : Room n k i h (one1 p cs) := by
 intro o cs' ho
 unfold one1 at ho
 split at ho
 ·next e2 => subst e2; exact ⟨h1, h2, h3, e⟩
 ·cases ho
theorem swapA {b : List Nat} {fr h x y l fr2 h2} (H : ValX S T ops n fr h (x :: y :: l) fr2 h2) (ap : ApartX ops b x y) (hye : y.ex = true) (hya : isAlloc y.o.op = true) (hyi : y.i < k) (hyd : y.h[n + y.i]? = some .dead) (gx : Good S T n k x) :
  ∃ x' y', SimX n k x x' ∧ (y'.i = y.i ∧ y'.o = y.o ∧ y'.fr = y.fr ∧ y'.ex = y.ex ∧ y'.v = y.v ∧ y'.h = h ∧ h[n + y.i]? = some .dead) ∧ ValX S T ops n fr h (y' :: x' :: l) fr2 h2 := by
 cases H with
 | cons hx ax ex nx H =>
 cases H with
 | cons hyh ay ey ny H =>
 have ay' : agree ops y.o fr y.fr := fun t ht => by rw [← ay t ht, getD_put _ _ _ _ fun d hd e => ap.xy d hd (e ▸ ht)]
 have ax' : agree ops x.o (put fr y.o.dst y.v) x.fr := fun t ht => by rw [getD_put _ _ _ _ fun d hd e => ap.yx d hd (e ▸ ht)]; exact ax t ht
 have hput : put (put fr x.o.dst x.v) y.o.dst y.v = put (put fr y.o.dst y.v) x.o.dst x.v := put_comm _ _ _ _ _ fun d e h1 h2 => ap.dd d e h1 h2
 rw [hput] at H
 have hp2 : n + y.i < n + k := by omega
 have hne : n + y.i ≠ n + x.i := fun e => ap.ne (by omega)
 rw [hyh] at hyd
 have hxd : x.h[n + y.i]? = some .dead := by
  by_cases mx : x.chg
  ·exact gx.ded mx _ (by omega) hp2 hyd
  ·rw [← still ex nx mx]; exact hyd
 obtain ⟨v1, cs, ⟨e1, e2⟩, _, _, hA⟩ := opA_inv (S := S) (T := T) (K := fun v h => v = y.v ∧ h = y.h') hya (show opA S T y.o y.fr y.h (n + y.i) _ by have := (ey hye).2; unfold opX at this; rw [hya] at this; exact this)
 rw [hyh] at e2
 have hF : Room n k x.i x.h (one1 (n + y.i) cs) := room_one (by omega) hp2 hne hxd
 refine ⟨{ x with h := fill (one1 (n + y.i) cs) x.h, h' := fill (one1 (n + y.i) cs) x.h' }, { y with h := h, h' := h.set (n + y.i) (.own cs) }, ⟨rfl, rfl, rfl, rfl, rfl, fun _ => ⟨_, hF, rfl, rfl⟩⟩, ⟨rfl, rfl, rfl, rfl, rfl, rfl, by rw [← hx]; exact hxd⟩, ?_⟩
 refine .cons rfl ay' (fun e => ⟨(ey e).1, ?_⟩) (fun e => by rw [show _ = y.ex from rfl, hye] at e; cases e) ?_
 ·show opX S T n y.i y.o y.fr h _
  unfold opX
  rw [hya]
  exact hA h (n + y.i) (fun v h2 => v = y.v ∧ h2 = h.set (n + y.i) (.own cs)) ⟨e1, rfl⟩
 ·refine .cons (by show fill _ x.h = h.set _ _; rw [hx] at hxd ⊢; exact (set_fill cs hxd).symm) ax' (fun e => ⟨(ex e).1, ?_⟩) (fun e => ⟨(nx e).1, (nx e).2.1, by show fill _ x.h' = fill _ x.h; rw [(nx e).2.2]⟩) ?_
  ·by_cases mx : x.chg
   ·exact gx.fil mx _ hF
   ·have hm : isMut x.o.op = false := by
     cases hm : isMut x.o.op with
     | false => rfl
     | true => exact absurd ⟨e, hm⟩ mx
    obtain ⟨q1, q2⟩ := nonmutX hm (ex e).2
    show opX S T n x.i x.o x.fr _ _
    rw [opX_non hm]
    rw [q2] at q1
    have := rr_fill (one1 (n + y.i) cs) hm q1
    show opK S T x.o x.fr (fill _ x.h) fun v h2 => v = x.v ∧ h2 = fill _ x.h'
    rw [q2]
    exact this
  ·show ValX S T ops n _ (fill _ x.h') l fr2 h2
   rw [← set_fill cs hyd, e2]
   exact H
def SimsX (n k : Nat) : List Stp → List Stp → Prop
 | [], [] => True
 | a :: l, b :: m => SimX n k a b ∧ SimsX n k l m
 | _, _ => False
theorem SimsX.refl : ∀ l, SimsX n k l l
 | [] => trivial
 | a :: l => ⟨SimX.refl a, SimsX.refl l⟩
theorem Sims.x : ∀ {l m}, Sims l m → SimsX n k l m
 | [], [], _ => trivial
 | a :: l, b :: m, h => ⟨h.1.x, Sims.x h.2⟩
 | [], _ :: _, h => h.elim
 | _ :: _, [], h => h.elim
theorem frontN {b : List Nat} {s : Stp} {post : List Stp} : ∀ (pre : List Stp) {fr h fr2 h2}, ValX S T ops n fr h (pre ++ s :: post) fr2 h2 → ¬ (s.ex = true ∧ isAlloc s.o.op = true) →
  (∀ x ∈ pre, ApartX ops b x s ∧ Both S T b x s ∧ Both S T b s x) → ∃ pre' s', Sims pre pre' ∧ Sim s s' ∧ ValX S T ops n fr h (s' :: pre' ++ post) fr2 h2
 | [], fr, h, fr2, h2, hV, _, _ => ⟨[], s, trivial, Sim.refl s, hV⟩
 | x :: pre, fr, h, fr2, h2, hV, hs, hp => by
  cases hV with
  | cons k1 k2 k3 k4 k5 =>
   obtain ⟨pre', s', q1, q2, q3⟩ := frontN pre k5 hs fun y hy => hp y (by simp [hy])
   obtain ⟨p1, p2, p3⟩ := hp x (by simp)
   have hx : ValX S T ops n fr h (x :: s' :: (pre' ++ post)) fr2 h2 := .cons k1 k2 k3 k4 q3
   have ap : ApartX ops b x s' := ⟨by rw [← q2.i]; exact p1.ne, by rw [← q2.i]; exact p1.un, by rw [← q2.o]; exact p1.chg, by rw [← q2.o]; exact p1.xy, by rw [← q2.o]; exact p1.yx, by rw [← q2.o]; exact p1.dd⟩
   obtain ⟨x', s'', r1, r2, r3⟩ := swapX hx ap (by rw [← q2.ex, ← q2.o]; exact hs) (p2.sim (Sim.refl x) q2) (p3.sim q2 (Sim.refl x))
   exact ⟨x' :: pre', s'', ⟨r1, q1⟩, ⟨q2.i.trans r2.i, q2.o.trans r2.o, q2.fr.trans r2.fr, q2.ex.trans r2.ex, q2.v.trans r2.v, fun m => by
    have m1 := q2.chg m
    have m' : s'.chg := ⟨by rw [← q2.ex]; exact m.1, by rw [← q2.o]; exact m.2⟩
    have m2 := r2.chg m'
    exact ⟨m1.1.trans m2.1, m1.2.trans m2.2⟩⟩, r3⟩
theorem frontA {b : List Nat} {s : Stp} {post : List Stp} (hse : s.ex = true) (hsa : isAlloc s.o.op = true) (hsi : s.i < k) (hsd : s.h[n + s.i]? = some .dead) : ∀ (pre : List Stp) {fr h fr2 h2}, ValX S T ops n fr h (pre ++ s :: post) fr2 h2 →
  (∀ x ∈ pre, ApartX ops b x s ∧ Good S T n k x) →
  ∃ pre' s', SimsX n k pre pre' ∧ (s'.i = s.i ∧ s'.o = s.o ∧ s'.fr = s.fr ∧ s'.ex = s.ex ∧ s'.v = s.v ∧ s'.h = h ∧ h[n + s.i]? = some .dead) ∧ ValX S T ops n fr h (s' :: pre' ++ post) fr2 h2
 | [], fr, h, fr2, h2, hV, _ => by
  cases hV with
  | cons k1 k2 k3 k4 k5 => exact ⟨[], s, trivial, ⟨rfl, rfl, rfl, rfl, rfl, k1, by rw [← k1]; exact hsd⟩, .cons k1 k2 k3 k4 k5⟩
 | x :: pre, fr, h, fr2, h2, hV, hp => by
  cases hV with
  | cons k1 k2 k3 k4 k5 =>
   obtain ⟨pre', s', q1, ⟨i1, i2, i3, i4, i5, i6, i7⟩, q3⟩ := frontA hse hsa hsi hsd pre k5 fun y hy => hp y (by simp [hy])
   obtain ⟨p1, p2⟩ := hp x (by simp)
   have hx : ValX S T ops n fr h (x :: s' :: (pre' ++ post)) fr2 h2 := .cons k1 k2 k3 k4 q3
   have ap : ApartX ops b x s' := ⟨by rw [i1]; exact p1.ne, by rw [i1]; exact p1.un, by rw [i2]; exact p1.chg, by rw [i2]; exact p1.xy, by rw [i2]; exact p1.yx, by rw [i2]; exact p1.dd⟩
   obtain ⟨x', s'', r1, ⟨j1, j2, j3, j4, j5, j6, j7⟩, r3⟩ := swapA hx ap (i4.trans hse) (by rw [i2]; exact hsa) (by rw [i1]; exact hsi) (by rw [i6, i1]; exact i7) p2
   exact ⟨x' :: pre', s'', ⟨r1, q1⟩, ⟨j1.trans i1, j2.trans i2, j3.trans i3, j4.trans i4, j5.trans i5, j6, by rw [i1] at j7; exact j7⟩, r3⟩
theorem frontX {b : List Nat} {s : Stp} {post : List Stp} (pre : List Stp) {fr h fr2 h2} (hV : ValX S T ops n fr h (pre ++ s :: post) fr2 h2) (gs : Good S T n k s)
  (hp : ∀ x ∈ pre, ApartX ops b x s ∧ Both S T b x s ∧ Both S T b s x ∧ Good S T n k x) :
  ∃ pre' s', SimsX n k pre pre' ∧ (s'.i = s.i ∧ s'.o = s.o ∧ s'.ex = s.ex ∧ (s.ex = true → isAlloc s.o.op = true → h[n + s.i]? = some .dead)) ∧ ValX S T ops n fr h (s' :: pre' ++ post) fr2 h2 := by
 by_cases hc : s.ex = true ∧ isAlloc s.o.op = true
 ·obtain ⟨g1, g2⟩ := gs.own hc.1 hc.2
  obtain ⟨pre', s', q1, ⟨i1, i2, i3, i4, i5, i6, i7⟩, q3⟩ := frontA hc.1 hc.2 g1 g2 pre hV fun x hx => ⟨(hp x hx).1, (hp x hx).2.2.2⟩
  exact ⟨pre', s', q1, ⟨i1, i2, i4, fun _ _ => i7⟩, q3⟩
 ·obtain ⟨pre', s', q1, q2, q3⟩ := frontN pre hV hc fun x hx => ⟨(hp x hx).1, (hp x hx).2.1, (hp x hx).2.2.1⟩
  exact ⟨pre', s', q1.x, ⟨q2.i.symm, q2.o.symm, q2.ex.symm, fun h1 h2 => absurd ⟨h1, h2⟩ hc⟩, q3⟩
end
end Go.Proofs.Ytcoampecbpiecaa.Cl
set_option linter.unusedVariables false
set_option linter.unusedSimpArgs false
namespace Go.Proofs.Ytcoampecbpiecaa.Cl
open Go
theorem okPairsE_pair {ops : List Oper} {b : List Nat} : ∀ (l : List (Oper × Nat)), okPairsE ops b l = true → l.Pairwise fun p q => pairE ops b p q = true
 | [], _ => .nil
 | p :: l, h => by
  have h' : ((l.all fun q => pairE ops b p q) && okPairsE ops b l) = true := h
  rw [Bool.and_eq_true, List.all_eq_true] at h'
  exact .cons h'.1 (okPairsE_pair l h'.2)
theorem lateGo_mem (ops : List Oper) : ∀ (fuel : Nat) (dn : List Nat), ∀ p ∈ lateGo ops fuel dn, p ∈ ops.zipIdx
 | 0, dn, p, h => by simp [lateGo] at h
 | fuel + 1, dn, p, h => by
  unfold lateGo at h
  split at h
  ·next q hq =>
   rcases List.mem_cons.1 h with rfl | h
   ·exact List.mem_of_find?_eq_some hq
   ·exact lateGo_mem ops fuel _ p h
  ·split at h
   ·next q hq =>
    rcases List.mem_cons.1 h with rfl | h
    ·exact List.mem_of_find?_eq_some hq
    ·exact lateGo_mem ops fuel _ p h
   ·simp at h
theorem late2Go_mem (ops : List Oper) (b : List Nat) : ∀ (fuel : Nat) (dn : List Nat), ∀ p ∈ late2Go ops b fuel dn, p ∈ ops.zipIdx
 | 0, dn, p, h => by simp [late2Go] at h
 | fuel + 1, dn, p, h => by
  unfold late2Go at h
  split at h
  ·next q hq =>
   rcases List.mem_cons.1 h with rfl | h
   ·exact List.mem_of_find?_eq_some hq
   ·exact late2Go_mem ops b fuel _ p h
  ·split at h
   ·split at h
    ·next q hq =>
     rcases List.mem_cons.1 h with rfl | h
     ·exact List.mem_of_find?_eq_some hq
     ·exact late2Go_mem ops b fuel _ p h
    ·simp at h
   ·split at h
    ·next q hq =>
     rcases List.mem_cons.1 h with rfl | h
     ·exact List.mem_of_find?_eq_some hq
     ·exact late2Go_mem ops b fuel _ p h
    ·simp at h
theorem pairE_ne {ops : List Oper} {b : List Nat} {p q : Oper × Nat} (h : pairE ops b p q = true) : p.2 ≠ q.2 := fun e => by
 unfold pairE at h
 simp [e] at h
theorem pairE_bef {ops : List Oper} {b : List Nat} {p q : Oper × Nat} (h : pairE ops b p q = true) : bef b p.2 q.2 = false := by
 unfold pairE at h
 simp only [Bool.and_eq_true] at h
 simpa using h.1.1.2
section
variable {P : Program} {T : Tab}
theorem callK_mono {S S' : SatT} (hS : ∀ f args h v h2, S f args h v h2 → S' f args h v h2) {t f args h K} (e : callK S T t f args h K) : callK S' T t f args h K := by
 unfold callK at e ⊢
 split at e <;> (obtain ⟨x, h1, a, b⟩ := e; exact ⟨x, h1, hS _ _ _ _ _ a, b⟩)
theorem opK_mono {S S' : SatT} (hS : ∀ f args h v h2, S f args h v h2 → S' f args h v h2) {o : Oper} {fr : Frame} {h : H} {K : AVal → H → Prop} (e : opK S T o fr h K) : opK S' T o fr h K := by
 unfold opK at e ⊢
 cases ho : o.op with
 | call c =>
  simp only [ho] at e ⊢
  split at e
  ·exact callK_mono hS e
  ·obtain ⟨f, cap, a, b⟩ := e; exact ⟨f, cap, a, callK_mono hS b⟩
  all_goals exact e
 | _ => simp only [ho] at e ⊢ <;> exact e
theorem opA_mono {S S' : SatT} (hS : ∀ f args h v h2, S f args h v h2 → S' f args h v h2) {o : Oper} {fr : Frame} {h : H} {p : Nat} {K : AVal → H → Prop} (e : opA S T o fr h p K) : opA S' T o fr h p K := opK_mono hS e
theorem OpOK.wit {s : Sem Next} {w : World} {R : Value → World → Prop} (e : OpOK P s w R) : ∃ x w', R x w' := by
 unfold OpOK at e
 split at e
 ·exact ⟨_, _, e⟩
 ·exact ⟨_, _, e⟩
 ·obtain ⟨_, w', _, ⟨v, _, r⟩, _⟩ := e []
  exact ⟨v, w', r⟩
 ·exact e.elim
theorem world_op {S : SatT} (hS : ∀ f args h v h2, S f args h v h2 → Sat P f args h v h2) (hT : TOK P T) {μ0 μ : Mu} {h0 h : H} {w0 w : World} {o : Oper} {fr : Frame} {ds : List Value} {v : AVal} {h' : H} (T0 : Tr μ0 h0 w0 μ h w) (hf : VRs μ h fr ds)
  (e : opK S T o fr h fun v2 h2 => v2 = v ∧ h2 = h') : (∃ μ' w' ds', Tr μ0 h0 w0 μ' h' w' ∧ VRs μ' h' (put fr o.dst v) ds') ∧ ∃ μ', Step μ h μ' h' := by
 obtain ⟨x, w', v', h'', μ', ⟨rfl, rfl⟩, t, vx⟩ := (op_sound hS hT T0.rel (a := ⟨ds.toArray, []⟩) (by simpa using hf) e).wit
 exact ⟨⟨μ', w', _, T0.trans t, put_VRs (a := ⟨ds.toArray, []⟩) (by simpa using hf.step t.step) vx⟩, μ', t.step⟩
theorem step_dead {μ μ' : Mu} {h h' : H} (s : Step μ h μ' h') {o : Nat} (e : h[o]? = some .dead) : h'[o]? = some .dead := by
 have hl := (List.getElem?_eq_some_iff.1 e).1
 refine dead_of (Nat.lt_of_lt_of_le hl s.len) ?_
 cases hq : inf h' o with
 | none => rfl
 | some tm =>
  obtain ⟨t, m⟩ := tm
  obtain ⟨_, n, e1, _⟩ := s.same o t m hl hq
  rw [inf_dead e] at e1
  cases e1
theorem dead_back {μ μ' : Mu} {h h' : H} (s : Step μ h μ' h') {o : Nat} (hl : o < h.length) (e : h'[o]? = some .dead) : h[o]? = some .dead := by
 refine dead_of hl ?_
 cases hq : inf h o with
 | none => rfl
 | some tm => exact absurd e (not_dead (s.alive o (by rw [hq]; rfl)))
theorem good_op {S : SatT} (hS : ∀ f args h v h2, S f args h v h2 → Sat P f args h v h2) (hT : TOK P T) {μ0 μ : Mu} {h0 h : H} {w0 w : World} {n k i : Nat} {o : Oper} {fr : Frame} {ds : List Value} {v : AVal} {h' : H} (T0 : Tr μ0 h0 w0 μ h w) (hf : VRs μ h fr ds)
  (hlen : n + k ≤ h.length) (ha : isAlloc o.op = false) (e : opK S T o fr h fun v2 h2 => v2 = v ∧ h2 = h') : Good (Sat P) T n k ⟨i, o, fr, true, v, h, h'⟩ := by
 obtain ⟨_, μ', st⟩ := world_op hS hT T0 hf e
 refine ⟨fun _ F hF => ?_, fun _ o h1 h2 h3 => dead_back st (by show o < h.length; omega) h3, fun _ h1 => by (have h1' : isAlloc o.op = true := h1); rw [ha] at h1'; cases h1'⟩
 have hF1 : Fits F h := fun o cs e => (hF o cs e).2.2.2
 have hF2 : Fits F h' := fun o cs e => step_dead st (hF1 o cs e)
 show opX (Sat P) T n i o fr (fill F h) _
 unfold opX
 rw [ha]
 exact opK_fill F ha (fun f args v hargs s => by
  obtain ⟨ds2, hd⟩ := hargs hf T0.rel
  exact s.fill hF1 hF2 T0.rel hd) (opK_mono hS e)
theorem chkPendE_spec {S : SatT} {b : List Nat} {k : Nat} {past : List (Nat × H)} {h' : H} : ∀ (pend : List (Nat × Oper × Frame × H)) (K : Prop), (∀ e ∈ pend, isMut e.2.1.op = false) → chkPendE T b k past h' pend K →
  K ∧ ∀ e ∈ pend, unord b e.1 k = true → (∃ z rest, past = z :: rest ∧ bef b z.1 e.1 = true) → ∀ v, Rr S T e.2.1 e.2.2.1 e.2.2.2 v → Rr S T e.2.1 e.2.2.1 h' v
 | [], K, _, hK => ⟨hK, fun e he => by simp at he⟩
 |(i, o, fr, h) :: l, K, hm, hK => by
  unfold chkPendE at hK
  cases hu : (unord b i k && lastDep b past i) with
  | false =>
   rw [hu] at hK
   obtain ⟨h1, h2⟩ := chkPendE_spec (S := S) l K (fun e he => hm e (by simp [he])) hK
   refine ⟨h1, fun e he hu' hz => ?_⟩
   rcases List.mem_cons.1 he with rfl | he
   ·obtain ⟨z, rest, rfl, hz⟩ := hz
    have hu'' : unord b i k = true := hu'
    have hz' : bef b z.1 i = true := hz
    rw [hu'', Bool.true_and] at hu
    have hu3 : bef b z.1 i = false := hu
    rw [hz'] at hu3; cases hu3
   ·exact h2 e he hu' hz
  | true =>
   rw [hu] at hK
   obtain ⟨h0, hK⟩ := chk_tells (S := S) (hm (i, o, fr, h) (by simp)) hK
   obtain ⟨h1, h2⟩ := chkPendE_spec (S := S) l K (fun e he => hm e (by simp [he])) hK
   refine ⟨h1, fun e he hu' hz => ?_⟩
   rcases List.mem_cons.1 he with rfl | he
   ·exact h0
   ·exact h2 e he hu' hz
def PCx : List (Nat × H × H) → H → Prop
 | [], _ => True
 |(k, h0, h1) :: rest, h => h1 = h ∧ PCx rest h0
theorem chkPastE_spec {S : SatT} {b : List Nat} {i : Nat} {o : Oper} {fr : Frame} {h : H} {v : AVal} (hm : isMut o.op = false) (hv : Rr S T o fr h v) : ∀ (past : List (Nat × H × H)) (g : H) (nx : Option H) (K : Prop), PCx past g → (nx = none → Rr S T o fr g v) → (∀ x, nx = some x → x = g) →
  chkPastE T b i o fr h nx (past.map fun e => (e.1, e.2.1)) K → K ∧ ∀ e ∈ past, unord b i e.1 = true → Rr S T o fr e.2.1 v ∧ Rr S T o fr e.2.2 v
 | [], g, nx, K, _, _, _, hK => ⟨by cases nx <;> exact hK, fun e he => by simp at he⟩
 |(k, h0, h1) :: l, g, nx, K, hp, hn, hs, hK => by
  obtain ⟨rfl, hp⟩ := hp
  simp only [List.map_cons] at hK
  unfold chkPastE at hK
  cases hu : unord b i k with
  | false =>
   rw [hu] at hK
   obtain ⟨q1, q2⟩ := chkPastE_spec hm hv l h0 (some h0) K hp (fun e => by cases e) (fun x e => by cases e; rfl) hK
   refine ⟨q1, fun e he hu' => ?_⟩
   rcases List.mem_cons.1 he with rfl | he
   ·rw [hu] at hu'; cases hu'
   ·exact q2 e he hu'
  | true =>
   rw [hu] at hK
   simp only [cond_true] at hK
   have fin : Rr S T o fr h1 v → chkK T o fr h h0 (chkPastE T b i o fr h none (l.map fun e => (e.1, e.2.1)) K) → K ∧ ∀ e ∈ (k, h0, h1) :: l, unord b i e.1 = true → Rr S T o fr e.2.1 v ∧ Rr S T o fr e.2.2 v := by
    intro r1 hK
    obtain ⟨c0, hK⟩ := chk_tells (S := S) hm hK
    obtain ⟨q1, q2⟩ := chkPastE_spec hm hv l h0 none K hp (fun _ => c0 v hv) (fun x e => by cases e) hK
    refine ⟨q1, fun e he hu' => ?_⟩
    rcases List.mem_cons.1 he with rfl | he
    ·exact ⟨c0 v hv, r1⟩
    ·exact q2 e he hu'
   cases nx with
   | none => exact fin (hn rfl) hK
   | some x =>
    obtain rfl := hs x rfl
    obtain ⟨c1, hK⟩ := chk_tells (S := S) hm hK
    exact fin (c1 v hv) hK
theorem slot_trace {S : SatT} (hS : ∀ f args h v h2, S f args h v h2 → Sat P f args h v h2) (hT : TOK P T) {ops : List Oper} {b : List Nat} {k : Frame → H → Prop} {μ0 : Mu} {h0 : H} {w0 : World} :
  ∀ (l : List (Oper × Nat)) (past : List (Nat × H × H)) (pend : List (Nat × Oper × Frame × H)) (fr : Frame) (h : H),
   (∀ p ∈ l, p.2 < ops.length) → (l.Pairwise fun p q => pairE ops b p q = true) → (∀ e ∈ pend, isMut e.2.1.op = false ∧ (∀ p ∈ l, bef b e.1 p.2 = false) ∧ ((∀ v, Rr (Sat P) T e.2.1 e.2.2.1 e.2.2.2 v → Rr (Sat P) T e.2.1 e.2.2.1 h v) ∨ ∃ z rest, past = z :: rest ∧ bef b z.1 e.1 = true)) → PCx past h →
   h0.length + ops.length ≤ h.length → (∀ p ∈ l, isAlloc p.1.op = true → h[h0.length + p.2]? = some .dead) → (∃ μ w ds, Tr μ0 h0 w0 μ h w ∧ VRs μ h fr ds) →
   runSlot S T ops b h0.length l (past.map fun e => (e.1, e.2.1)) pend k fr h →
   ∃ L fr2 h2, ValX (Sat P) T ops h0.length fr h L fr2 h2 ∧ k fr2 h2 ∧ L.map (fun s => (s.o, s.i)) = l ∧ (∀ x ∈ L, Good (Sat P) T h0.length ops.length x) ∧ (∀ x ∈ L, ∀ y ∈ L, Both (Sat P) T b x y) ∧
    (∀ e ∈ pend, ∀ y ∈ L, y.chg → unord b e.1 y.i = true → ∀ v, Rr (Sat P) T e.2.1 e.2.2.1 e.2.2.2 v → Rr (Sat P) T e.2.1 e.2.2.1 y.h v ∧ Rr (Sat P) T e.2.1 e.2.2.1 y.h' v) ∧
    (∀ e ∈ past, ∀ x ∈ L, x.ex = true → isMut x.o.op = false → unord b x.i e.1 = true → Tells (Sat P) T x e.2.1 ∧ Tells (Sat P) T x e.2.2) := by
 intro l
 induction l with
 | nil =>
  intro past pend fr h _ _ _ _ _ _ _ hR
  exact ⟨[], fr, h, .nil, hR, rfl, fun x hx => by simp at hx, fun x hx => by simp at hx, fun e _ y hy => by simp at hy, fun e _ x hx => by simp at hx⟩
 | cons p l ih =>
  obtain ⟨o, i⟩ := p
  intro past pend fr h hlt hpw hpend hPC hlen hdead hworld hR
  have hpw' := List.pairwise_cons.1 hpw
  have hine : ∀ p ∈ l, i ≠ p.2 := fun p hp e => by
   have := hpw'.1 p hp
   unfold pairE at this
   simp [e] at this
  have skipOK : gNo ops fr o → runSlot S T ops b h0.length l (past.map fun e => (e.1, e.2.1)) pend k (put fr o.dst .gone) h →
   ∃ L fr2 h2, ValX (Sat P) T ops h0.length fr h L fr2 h2 ∧ k fr2 h2 ∧ L.map (fun s => (s.o, s.i)) = (o, i) :: l ∧ (∀ x ∈ L, Good (Sat P) T h0.length ops.length x) ∧ (∀ x ∈ L, ∀ y ∈ L, Both (Sat P) T b x y) ∧
    (∀ e ∈ pend, ∀ y ∈ L, y.chg → unord b e.1 y.i = true → ∀ v, Rr (Sat P) T e.2.1 e.2.2.1 e.2.2.2 v → Rr (Sat P) T e.2.1 e.2.2.1 y.h v ∧ Rr (Sat P) T e.2.1 e.2.2.1 y.h' v) ∧
    (∀ e ∈ past, ∀ x ∈ L, x.ex = true → isMut x.o.op = false → unord b x.i e.1 = true → Tells (Sat P) T x e.2.1 ∧ Tells (Sat P) T x e.2.2) := by
   intro hg hR
   obtain ⟨μ, w, ds, t0, hf⟩ := hworld
   obtain ⟨L, fr2, h2, q1, q2, q3, q4, q5, q6, q7⟩ := ih past pend (put fr o.dst .gone) h (fun p hp => hlt p (by simp [hp])) hpw'.2 (fun e he => ⟨(hpend e he).1, fun p hp => (hpend e he).2.1 p (by simp [hp]), (hpend e he).2.2⟩) hPC hlen (fun p hp => hdead p (by simp [hp]))
    ⟨μ, w, _, t0, put_VRs (a := ⟨ds.toArray, []⟩) (v := .gone) (x := undef) (by simpa using hf) (by simp only [VR]; rfl)⟩ hR
   refine ⟨⟨i, o, fr, false, .gone, h, h⟩ :: L, fr2, h2, .cons rfl (fun _ _ => rfl) (fun e => by cases e) (fun _ => ⟨hg, rfl, rfl⟩) q1, q2, by simp [q3], ?_, ?_, ?_, ?_⟩
   ·intro x hx
    rcases List.mem_cons.1 hx with rfl | hx
    ·exact ⟨(fun c => by cases c.1), (fun c => by cases c.1), (fun e => by cases e)⟩
    ·exact q4 x hx
   ·intro x hx y hy
    rcases List.mem_cons.1 hx with rfl | hx
    ·intro e; cases e
    ·rcases List.mem_cons.1 hy with rfl | hy
     ·intro _ _ m; cases m.1
     ·exact q5 x hx y hy
   ·intro e he y hy
    rcases List.mem_cons.1 hy with rfl | hy
    ·intro m; cases m.1
    ·exact q6 e he y hy
   ·intro e he x hx
    rcases List.mem_cons.1 hx with rfl | hx
    ·intro e; cases e
    ·exact q7 e he x hx
  -- a change
  have chgOK : ∀ (v : AVal) (h' : H), gOK ops fr o → isMut o.op = true → (opX (Sat P) T h0.length i o fr h fun v2 h2 => v2 = v ∧ h2 = h') → Good (Sat P) T h0.length ops.length ⟨i, o, fr, true, v, h, h'⟩ →
   h.length ≤ h'.length → (∀ p ∈ l, isAlloc p.1.op = true → h'[h0.length + p.2]? = some .dead) → (∃ μ w ds, Tr μ0 h0 w0 μ h' w ∧ VRs μ h' (put fr o.dst v) ds) →
   chkPendE T b i (past.map fun e => (e.1, e.2.1)) h pend (chkPend T b i h' pend (runSlot S T ops b h0.length l ((i, h) :: (past.map fun e => (e.1, e.2.1))) pend k (put fr o.dst v) h')) →
   ∃ L fr2 h2, ValX (Sat P) T ops h0.length fr h L fr2 h2 ∧ k fr2 h2 ∧ L.map (fun s => (s.o, s.i)) = (o, i) :: l ∧ (∀ x ∈ L, Good (Sat P) T h0.length ops.length x) ∧ (∀ x ∈ L, ∀ y ∈ L, Both (Sat P) T b x y) ∧
    (∀ e ∈ pend, ∀ y ∈ L, y.chg → unord b e.1 y.i = true → ∀ v, Rr (Sat P) T e.2.1 e.2.2.1 e.2.2.2 v → Rr (Sat P) T e.2.1 e.2.2.1 y.h v ∧ Rr (Sat P) T e.2.1 e.2.2.1 y.h' v) ∧
    (∀ e ∈ past, ∀ x ∈ L, x.ex = true → isMut x.o.op = false → unord b x.i e.1 = true → Tells (Sat P) T x e.2.1 ∧ Tells (Sat P) T x e.2.2) := by
   intro v h' hg hm hv hgood hle hdead' hworld' hK
   obtain ⟨hK, hc0⟩ := chkPendE_spec (S := Sat P) pend _ (fun e he => (hpend e he).1) hK
   obtain ⟨hK, hc2⟩ := chkPend_spec (S := Sat P) pend _ (fun e he => (hpend e he).1) hK
   have hc1 : ∀ e ∈ pend, unord b e.1 i = true → ∀ v, Rr (Sat P) T e.2.1 e.2.2.1 e.2.2.2 v → Rr (Sat P) T e.2.1 e.2.2.1 h v := fun e he hu => by
    rcases (hpend e he).2.2 with hl | ⟨z, rest, rfl, hz⟩
    ·exact hl
    ·exact hc0 e he hu ⟨_, _, rfl, hz⟩
   obtain ⟨L, fr2, h2, q1, q2, q3, q4, q5, q6, q7⟩ := ih ((i, h, h') :: past) pend (put fr o.dst v) h' (fun p hp => hlt p (by simp [hp])) hpw'.2
    (fun e he => ⟨(hpend e he).1, fun p hp => (hpend e he).2.1 p (by simp [hp]), by
     cases hu : unord b e.1 i with
     | true => exact .inl (hc2 e he hu)
     | false =>
      refine .inr ⟨_, _, rfl, ?_⟩
      have := (hpend e he).2.1 (o, i) (by simp)
      unfold unord at hu
      simp only at this
      rw [this] at hu
      simpa using hu⟩) ⟨rfl, hPC⟩ (by omega) hdead' hworld' hK
   refine ⟨⟨i, o, fr, true, v, h, h'⟩ :: L, fr2, h2, .cons rfl (fun _ _ => rfl) (fun _ => ⟨hg, hv⟩) (fun e => by cases e) q1, q2, by simp [q3], ?_, ?_, ?_, ?_⟩
   ·intro x hx
    rcases List.mem_cons.1 hx with rfl | hx
    ·exact hgood
    ·exact q4 x hx
   ·intro x hx y hy
    rcases List.mem_cons.1 hx with rfl | hx
    ·intro _ e; simp only at e; rw [hm] at e; cases e
    ·rcases List.mem_cons.1 hy with rfl | hy
     ·intro e1 e2 _ e4
      exact q7 (i, h, h') (by simp) x hx e1 e2 e4
     ·exact q5 x hx y hy
   ·intro e he y hy
    rcases List.mem_cons.1 hy with rfl | hy
    ·intro _ hu v hv
     exact ⟨hc1 e he hu v hv, hc2 e he hu v hv⟩
    ·exact q6 e he y hy
   ·intro e he x hx
    rcases List.mem_cons.1 hx with rfl | hx
    ·intro _ e; simp only at e; rw [hm] at e; cases e
    ·exact q7 e (by simp [he]) x hx
  have stepOK : gOK ops fr o → (stepSlot S T b h0.length i o (past.map fun e => (e.1, e.2.1)) pend fr h fun past pend v h => runSlot S T ops b h0.length l past pend k (put fr o.dst v) h) →
   ∃ L fr2 h2, ValX (Sat P) T ops h0.length fr h L fr2 h2 ∧ k fr2 h2 ∧ L.map (fun s => (s.o, s.i)) = (o, i) :: l ∧ (∀ x ∈ L, Good (Sat P) T h0.length ops.length x) ∧ (∀ x ∈ L, ∀ y ∈ L, Both (Sat P) T b x y) ∧
    (∀ e ∈ pend, ∀ y ∈ L, y.chg → unord b e.1 y.i = true → ∀ v, Rr (Sat P) T e.2.1 e.2.2.1 e.2.2.2 v → Rr (Sat P) T e.2.1 e.2.2.1 y.h v ∧ Rr (Sat P) T e.2.1 e.2.2.1 y.h' v) ∧
    (∀ e ∈ past, ∀ x ∈ L, x.ex = true → isMut x.o.op = false → unord b x.i e.1 = true → Tells (Sat P) T x e.2.1 ∧ Tells (Sat P) T x e.2.2) := by
   intro hg hR
   unfold stepSlot at hR
   obtain ⟨μ, w, ds, t0, hf⟩ := hworld
   cases ha : isAlloc o.op with
   | true =>
    rw [ha] at hR
    simp only [cond_true] at hR
    have hd := hdead (o, i) (by simp) ha
    obtain ⟨v1, cs, hK, hform, hg2, hA⟩ := opA_inv ha hR
    have hA' : opA S T o fr h (h0.length + i) fun v2 h2 => v2 = v1.at_ (h0.length + i) ∧ h2 = h.set (h0.length + i) (.own cs) := hA h _ (fun v2 h2 => v2 = v1.at_ (h0.length + i) ∧ h2 = h.set (h0.length + i) (.own cs)) ⟨rfl, rfl⟩
    refine chgOK _ _ hg (alloc_mut ha) ?_ ?_ (by simp) (fun p hp hpa => ?_) ?_ hK
    ·unfold opX; rw [ha]; exact opA_mono hS hA'
    ·refine ⟨fun _ F hF => ?_, fun _ o' h1 h2 h3 => ?_, fun _ _ => ⟨hlt (o, i) (by simp), hd⟩⟩
     ·show opX (Sat P) T h0.length i o fr (fill F h) _
      unfold opX
      rw [ha]
      exact opA_mono hS (hA (fill F h) _ (fun v2 h2 => v2 = v1.at_ (h0.length + i) ∧ h2 = fill F (h.set (h0.length + i) (.own cs))) ⟨rfl, (fill_set F h _ (by simp)).symm⟩)
     ·have h3' : (h.set (h0.length + i) (AObj.own cs))[o']? = some .dead := h3
      rw [List.getElem?_set] at h3'
      split at h3'
      ·split at h3' <;> cases h3'
      ·exact h3'
    ·rw [List.getElem?_set, if_neg (fun e => hine p hp (by omega))]
     exact hdead p (by simp [hp]) hpa
    ·obtain ⟨x, w', v', h', μ', ⟨rfl, rfl⟩, t, vx, hf'⟩ := (opA_sound hS hT (a := ⟨ds.toArray, []⟩) t0 (by omega) hd (by simpa using hf) ha hA').wit
     exact ⟨μ', w', _, t, put_VRs (a := ⟨ds.toArray, []⟩) hf' vx⟩
   | false =>
    rw [ha] at hR
    simp only [cond_false] at hR
    have hX : ∀ (v : AVal) (h' : H), (opK S T o fr h fun v2 h2 => v2 = v ∧ h2 = h') → opX (Sat P) T h0.length i o fr h fun v2 h2 => v2 = v ∧ h2 = h' := fun v h' e => by
     unfold opX; rw [ha]; exact opK_mono hS e
    cases hm : isMut o.op with
    | true =>
     rw [hm] at hR
     simp only [cond_true] at hR
     obtain ⟨v, h', hv, hK⟩ := op_one hR
     obtain ⟨hw, μ', st⟩ := world_op hS hT t0 hf hv
     exact chgOK v h' hg hm (hX v h' hv) (good_op hS hT t0 hf hlen ha hv) st.len (fun p hp hpa => step_dead st (hdead p (by simp [hp]) hpa)) hw hK
    | false =>
     rw [hm] at hR
     simp only [cond_false] at hR
     have main : ∀ (v : AVal) (pend' : List (Nat × Oper × Frame × H)), (opK S T o fr h fun v2 h2 => v2 = v ∧ h2 = h) → (∀ e ∈ past, unord b i e.1 = true → Rr (Sat P) T o fr e.2.1 v ∧ Rr (Sat P) T o fr e.2.2 v) →
       (∀ e ∈ pend', e ∈ pend ∨ (e = (i, o, fr, h))) → (∀ e ∈ pend, e ∈ pend') → ((i, o, fr, h) ∈ pend' ∨ isRead o.op = false) →
       runSlot S T ops b h0.length l (past.map fun e => (e.1, e.2.1)) pend' k (put fr o.dst v) h →
       ∃ L fr2 h2, ValX (Sat P) T ops h0.length fr h L fr2 h2 ∧ k fr2 h2 ∧ L.map (fun s => (s.o, s.i)) = (o, i) :: l ∧ (∀ x ∈ L, Good (Sat P) T h0.length ops.length x) ∧ (∀ x ∈ L, ∀ y ∈ L, Both (Sat P) T b x y) ∧
        (∀ e ∈ pend, ∀ y ∈ L, y.chg → unord b e.1 y.i = true → ∀ v, Rr (Sat P) T e.2.1 e.2.2.1 e.2.2.2 v → Rr (Sat P) T e.2.1 e.2.2.1 y.h v ∧ Rr (Sat P) T e.2.1 e.2.2.1 y.h' v) ∧
        (∀ e ∈ past, ∀ x ∈ L, x.ex = true → isMut x.o.op = false → unord b x.i e.1 = true → Tells (Sat P) T x e.2.1 ∧ Tells (Sat P) T x e.2.2) := by
      intro v pend' hv hpst hsub hsup hnew hR
      have hv' : Rr (Sat P) T o fr h v := opK_mono hS hv
      obtain ⟨hw, _⟩ := world_op hS hT t0 hf hv
      obtain ⟨L, fr2, h2, q1, q2, q3, q4, q5, q6, q7⟩ := ih past pend' (put fr o.dst v) h (fun p hp => hlt p (by simp [hp])) hpw'.2
       (fun e he => by
        rcases hsub e he with he | rfl
        ·exact ⟨(hpend e he).1, fun p hp => (hpend e he).2.1 p (by simp [hp]), (hpend e he).2.2⟩
        ·exact ⟨hm, fun p hp => pairE_bef (hpw'.1 p hp), .inl fun _ h => h⟩) hPC hlen (fun p hp => hdead p (by simp [hp])) hw hR
      refine ⟨⟨i, o, fr, true, v, h, h⟩ :: L, fr2, h2, .cons rfl (fun _ _ => rfl) (fun _ => ⟨hg, hX v h hv⟩) (fun e => by cases e) q1, q2, by simp [q3], ?_, ?_, ?_, ?_⟩
      ·intro x hx
       rcases List.mem_cons.1 hx with rfl | hx
       ·exact good_op hS hT t0 hf hlen ha hv
       ·exact q4 x hx
      ·intro x hx y hy
       rcases List.mem_cons.1 hx with rfl | hx
       ·rcases List.mem_cons.1 hy with rfl | hy
        ·intro _ _ m; have := m.2; simp only at this; rw [hm] at this; cases this
        ·intro _ _ m hu
         rcases hnew with hnew | hnew
         ·exact q6 (i, o, fr, h) hnew y hy m hu v hv'
         ·exact ⟨pure_tells hm hnew h _ v hv', pure_tells hm hnew h _ v hv'⟩
       ·rcases List.mem_cons.1 hy with rfl | hy
        ·intro _ _ m; have := m.2; simp only at this; rw [hm] at this; cases this
        ·exact q5 x hx y hy
      ·intro e he y hy
       rcases List.mem_cons.1 hy with rfl | hy
       ·intro m; have := m.2; simp only at this; rw [hm] at this; cases this
       ·exact q6 e (hsup e he) y hy
      ·intro e he x hx
       rcases List.mem_cons.1 hx with rfl | hx
       ·intro _ _ hu
        exact hpst e he hu
       ·exact q7 e he x hx
     cases hr : isRead o.op with
     | true =>
      rw [hr] at hR
      simp only [cond_true] at hR
      obtain ⟨v, h', hv, hK⟩ := op_one hR
      have e := op_same hm hv
      subst e
      obtain ⟨hK, hc⟩ := chkPastE_spec (S := Sat P) hm (opK_mono hS hv) past h' none _ hPC (fun _ => opK_mono hS hv) (fun x e => by cases e) hK
      exact main v ((i, o, fr, h') :: pend) hv hc (fun e he => (List.mem_cons.1 he).symm) (fun e he => by simp [he]) (.inl (by simp)) hK
     | false =>
      rw [hr] at hR
      simp only [cond_false] at hR
      obtain ⟨v, h', hv, hK⟩ := op_one hR
      have e := op_same hm hv
      subst e
      exact main v pend hv (fun e he hu => ⟨pure_tells hm hr h' _ v (opK_mono hS hv), pure_tells hm hr h' _ v (opK_mono hS hv)⟩) (fun e he => .inl he) (fun e he => he) (.inr hr) hK
  unfold runSlot at hR
  cases hg : o.guard with
  | none =>
   rw [hg] at hR
   exact stepOK (by unfold gOK; rw [hg]; trivial) hR
  | some g =>
   obtain ⟨j, want⟩ := g
   rw [hg] at hR
   simp only at hR
   cases hd : dstOf ops j with
   | none => rw [hd] at hR; exact hR.elim
   | some d =>
    rw [hd] at hR
    simp only at hR
    split at hR
    ·next c e =>
     have es := set_same e (by simp)
     cases c <;> cases want <;> simp only [cond_true, cond_false, es] at hR <;> first
      | exact stepOK (by unfold gOK; rw [hg]; exact ⟨d, hd, e⟩) hR
      | exact skipOK (by unfold gNo; rw [hg]; exact ⟨d, hd, .inl e⟩) hR
    ·next e => exact skipOK (by unfold gNo; rw [hg]; exact ⟨d, hd, .inr e⟩) hR
    ·exact hR.elim
end
end Go.Proofs.Ytcoampecbpiecaa.Cl
set_option linter.unusedVariables false
set_option linter.unusedSimpArgs false
namespace Go.Proofs.Ytcoampecbpiecaa.Cl
open Go
section
variable {P : Program} {T : Tab} {S : SatT}
theorem go_acc (m : Region.Mode) (ops : Array Oper) : ∀ (fuel t : Nat) (listed : Array Bool) (acc : List Nat), Region.linearise.go m ops fuel t listed acc = acc.reverse ++ Region.linearise.go m ops fuel t listed []
 | 0, t, listed, acc => by simp [Region.linearise.go]
 | fuel + 1, t, listed, acc => by
  unfold Region.linearise.go
  simp only
  split
  ·next i _ =>
   rw [go_acc m ops fuel _ _ (i :: acc), go_acc m ops fuel _ _ [i]]
   simp
  ·simp
theorem agree_ev {ops : List Oper} {o : Oper} {fr fr' : Frame} (h : agree ops o fr fr') : ∀ x ∈ o.op.operands.toList, ev fr x = ev fr' x := by
 intro x hx
 cases x with
 | tmp t =>
  refine h t ?_
  unfold readsOf tmpsOf
  rw [List.mem_append]
  exact .inl (List.mem_filterMap.2 ⟨.tmp t, hx, rfl⟩)
 | const v => rfl
 | global g => rfl
 | func f => rfl
theorem agree_guard {ops : List Oper} {o : Oper} {fr fr' : Frame} (h : agree ops o fr fr') {j : Nat} {want : Bool} {d : Nat} (hg : o.guard = some (j, want)) (hd : dstOf ops j = some d) : fr.getD d .undef = fr'.getD d .undef := by
 refine h d ?_
 unfold readsOf
 rw [hg, List.mem_append]
 refine .inr ?_
 show d ∈ (dstOf ops j).toList
 rw [hd]
 simp
theorem simsX_mem {n k : Nat} : ∀ {l m : List Stp}, SimsX n k l m → ∀ b ∈ m, ∃ a ∈ l, SimX n k a b
 | [], [], _, b, hb => by simp at hb
 | a :: l, b' :: m, h, b, hb => by
  rcases List.mem_cons.1 hb with rfl | hb
  ·exact ⟨a, by simp, h.1⟩
  ·obtain ⟨a', h1, h2⟩ := simsX_mem h.2 b hb
   exact ⟨a', by simp [h1], h2⟩
 | [], _ :: _, h, _, _ => h.elim
 | _ :: _, [], h, _, _ => h.elim
theorem simsX_map {n k : Nat} {β : Type} (f : Oper → Nat → β) : ∀ {l m : List Stp}, SimsX n k l m → l.map (fun s => f s.o s.i) = m.map (fun s => f s.o s.i)
 | [], [], _ => rfl
 | a :: l, b :: m, h => by simp [h.1.i, h.1.o, simsX_map f h.2]
 | [], _ :: _, h => h.elim
 | _ :: _, [], h => h.elim
theorem exec_slot (hT : TOK P T) {ops : Array Oper} (hdeps : ∀ (p : Nat) o, ops.toList[p]? = some o → ∀ d ∈ deps o, d < p) {μ0 : Mu} {h0 : H} {w0 : World} {Q : Exit → Act → World → Prop} {fr2 : Frame} {h2 : H} :
  ∀ (fuel t : Nat) (listed : Array Bool) (L : List Stp) {fr : Frame} {h : H} {μ : Mu} {w : World} {a : Act}, L.length ≤ fuel → ValX (Sat P) T ops.toList h0.length fr h L fr2 h2 → (∀ s ∈ L, ops[s.i]? = some s.o) →
   (L.map fun s => (s.o, s.i)).Pairwise (fun p q => pairE ops.toList (befs ops.toList []) p q = true) → (∀ x ∈ L, ∀ y ∈ L, Both (Sat P) T (befs ops.toList []) x y) → (∀ x ∈ L, Good (Sat P) T h0.length ops.size x) → listed.size = ops.size →
   (∀ i, i < ops.size → (listed[i]? = some false ↔ ∃ s ∈ L, s.i = i)) → (∀ j x, listed[j]? = some true → bef (befs ops.toList []) j x = true → listed[x]? = some true) →
   Tr μ0 h0 w0 μ h w → VRs μ h fr a.tmps.toList → (∀ μ' w' a', Tr μ0 h0 w0 μ' h2 w' → VRs μ' h2 fr2 a'.tmps.toList → a'.defers = a.defers → Q .normal a' w') →
   wpOps P ops Q (Region.linearise.go .any ops fuel t listed []) a w := by
 intro fuel
 induction fuel with
 | zero =>
  intro t listed L fr h μ w a hlen hV _ _ _ _ _ _ _ t0 hf hQ
  have : L = [] := List.length_eq_zero_iff.1 (by omega)
  subst this
  cases hV
  exact hQ μ w a t0 hf rfl
 | succ fuel ih =>
  intro t listed L fr h μ w a hlen hV hops hpw hboth hgood hsz hlist hdown t0 hf hQ
  unfold Region.linearise.go
  simp only
  generalize hrs : ((List.range ops.size).filter fun i => !listed.getD i true && ((ops[i]?).map (·.after.all fun e => !Region.binds .any e || listed.getD e.on false)).getD false) = rs
  have hmem : ∀ i, i ∈ rs ↔ i < ops.size ∧ listed[i]? = some false ∧ ∃ o, ops[i]? = some o ∧ ∀ d ∈ deps o, listed[d]? = some true := by
   intro i
   rw [← hrs, List.mem_filter, List.mem_range, Bool.and_eq_true]
   constructor
   ·rintro ⟨h1, h2, h3⟩
    refine ⟨h1, ?_, ?_⟩
    ·rw [Array.getD_eq_getD_getElem?, Array.getElem?_eq_getElem (by omega)] at h2
     rw [Array.getElem?_eq_getElem (by omega)]
     simpa using h2
    ·cases ho : ops[i]? with
     | none => rw [ho] at h3; simp at h3
     | some o =>
      rw [ho] at h3
      simp only [Option.map_some, Option.getD_some, Array.all_eq_true'] at h3
      refine ⟨o, rfl, fun d hd => ?_⟩
      unfold deps at hd
      rw [List.mem_map] at hd
      obtain ⟨e, he, rfl⟩ := hd
      rw [List.mem_filter] at he
      have := h3 e (by simpa using he.1)
      rw [he.2] at this
      simp only [Bool.not_true, Bool.false_or] at this
      rw [Array.getD_eq_getD_getElem?] at this
      cases hq : listed[e.on]? with
      | none => rw [hq] at this; simp at this
      | some b => rw [hq] at this; simp at this; rw [this]
   ·rintro ⟨h1, h2, o, ho, h3⟩
    refine ⟨h1, ?_, ?_⟩
    ·rw [Array.getD_eq_getD_getElem?, h2]; rfl
    ·rw [ho]
     simp only [Option.map_some, Option.getD_some, Array.all_eq_true']
     intro e he
     cases hb : Region.binds .any e with
     | false => rfl
     | true =>
      have := h3 e.on (by unfold deps; exact List.mem_map_of_mem (List.mem_filter.2 ⟨by simpa using he, hb⟩))
      rw [Array.getD_eq_getD_getElem?, this]
      rfl
  split
  ·next i hi =>
   rw [go_acc]
   simp only [List.reverse_cons, List.reverse_nil, List.nil_append, List.cons_append]
   obtain ⟨hi1, hi2, o, ho, hi3⟩ := (hmem i).1 (List.mem_of_getElem? hi)
   obtain ⟨s, hs, hsi⟩ := (hlist i hi1).1 hi2
   obtain ⟨pre, post, rfl⟩ := List.append_of_mem hs
   have hso : s.o = o := by
    have := hops s hs
    rw [hsi, ho] at this
    cases this
    rfl
   rw [List.map_append, List.map_cons, List.pairwise_append] at hpw
   obtain ⟨hp1, hp2, hp3⟩ := hpw
   have hap : ∀ x ∈ pre, ApartX ops.toList (befs ops.toList []) x s ∧ Both (Sat P) T (befs ops.toList []) x s ∧ Both (Sat P) T (befs ops.toList []) s x ∧ Good (Sat P) T h0.length ops.size x := by
    intro x hx
    have hxl : x ∈ pre ++ s :: post := by simp [hx]
    have hpe := hp3 (x.o, x.i) (List.mem_map.2 ⟨x, hx, rfl⟩) (s.o, s.i) (by simp)
    have hxo := hops x hxl
    have hxlt : x.i < ops.size := (Array.getElem?_eq_some_iff.1 hxo).1
    have hxun := (hlist x.i hxlt).2 ⟨x, hxl, rfl⟩
    have hb2 : bef (befs ops.toList []) s.i x.i = false := by
     cases hb : bef (befs ops.toList []) s.i x.i with
     | false => rfl
     | true =>
      rw [hsi] at hb
      obtain ⟨d, hd, h1⟩ := (bef_iff hdeps (by rw [Array.getElem?_toList]; exact ho) x.i).1 hb
      have hl := hi3 d hd
      rcases h1 with rfl | h1
      ·rw [hl] at hxun; cases hxun
      ·have := hdown d x.i hl h1
       rw [this] at hxun; cases hxun
    unfold pairE at hpe
    simp only [hb2, Bool.false_or, Bool.and_eq_true] at hpe
    obtain ⟨⟨⟨e1, e2⟩, e3⟩, ⟨e4, e5⟩, e6⟩ := hpe
    have hun : unord (befs ops.toList []) x.i s.i = true := by unfold unord; rw [hb2, e2]; rfl
    refine ⟨⟨by simpa using e1, hun, fun hx1 hs1 => ?_, fun d hd => ?_, fun d hd => ?_, fun d e hd he => ?_⟩, hboth x hxl s hs, hboth s hs x hxl, hgood x hxl⟩
    ·rw [hx1, hs1] at e4; simpa using e4
    ·rw [hd] at e5; simpa using e5
    ·rw [hd] at e6; simpa using e6
    ·unfold dstApart at e3; rw [hd, he] at e3; simpa using e3
   obtain ⟨pre', s', q1, ⟨qi, qo, qe, qd⟩, q3⟩ := frontX pre hV (hgood s hs) hap
   have hso' : s'.o = o := by rw [qo, hso]
   have hlen' : pre'.length = pre.length := by have := congrArg List.length (simsX_map (fun _ i => i) q1); simpa using this.symm
   -- the rest
   have hrest : ∀ {fr' : Frame} {h' : H} {μ' : Mu} {w' : World} {a' : Act}, ValX (Sat P) T ops.toList h0.length fr' h' (pre' ++ post) fr2 h2 → Tr μ0 h0 w0 μ' h' w' → VRs μ' h' fr' a'.tmps.toList → a'.defers = a.defers →
     wpOps P ops Q (Region.linearise.go .any ops fuel (t / rs.length) (listed.setIfInBounds i true) []) a' w' := by
    intro fr' h' μ' w' a' hV' ht hf' hd'
    have hmemL : ∀ y ∈ pre' ++ post, ∃ x ∈ pre ++ s :: post, SimX h0.length ops.size x y ∧ x.i ≠ i := by
     intro y hy
     rcases List.mem_append.1 hy with hy | hy
     ·obtain ⟨x, hx, hxy⟩ := simsX_mem q1 y hy
      exact ⟨x, by simp [hx], hxy, by rw [← hsi]; exact pairE_ne (hp3 (x.o, x.i) (List.mem_map.2 ⟨x, hx, rfl⟩) (s.o, s.i) (by simp))⟩
     ·exact ⟨y, by simp [hy], SimX.refl y, by rw [← hsi]; exact Ne.symm (pairE_ne ((List.pairwise_cons.1 hp2).1 (y.o, y.i) (List.mem_map.2 ⟨y, hy, rfl⟩)))⟩
    refine ih (t / rs.length) (listed.setIfInBounds i true) (pre' ++ post) (by simp at hlen ⊢; omega) hV' ?_ ?_ ?_ ?_ (by simpa using hsz) ?_ ?_ ht hf' fun μ2 w2 a2 t2 f2 d2 => hQ μ2 w2 a2 t2 f2 (d2.trans hd')
    ·intro y hy
     obtain ⟨x, hx, hxy, _⟩ := hmemL y hy
     have := hops x hx
     rw [hxy.i, hxy.o] at this
     exact this
    ·rw [List.map_append, ← simsX_map (fun o i => (o, i)) q1, List.pairwise_append]
     exact ⟨hp1, (List.pairwise_cons.1 hp2).2, fun x hx y hy => hp3 x hx y (List.mem_cons_of_mem _ hy)⟩
    ·intro x hx y hy
     obtain ⟨x', hx', sx, _⟩ := hmemL x hx
     obtain ⟨y', hy', sy, _⟩ := hmemL y hy
     exact (hboth x' hx' y' hy').simX sx sy
    ·intro x hx
     obtain ⟨x', hx', sx, _⟩ := hmemL x hx
     exact (hgood x' hx').sim sx
    ·intro k hk
     rw [Array.getElem?_setIfInBounds]
     by_cases hki : i = k
     ·subst hki
      rw [if_pos rfl, if_pos (by omega)]
      constructor
      ·intro e; cases e
      ·rintro ⟨y, hy, rfl⟩
       obtain ⟨x, _, sx, hxi⟩ := hmemL y hy
       exact absurd sx.i hxi
     ·rw [if_neg hki, hlist k hk]
      constructor
      ·rintro ⟨x, hx, rfl⟩
       rcases List.mem_append.1 hx with hx | hx
       ·have : x.i ∈ pre'.map (fun s => s.i) := by rw [← simsX_map (fun _ i => i) q1]; exact List.mem_map.2 ⟨x, hx, rfl⟩
        obtain ⟨y, hy, hyx⟩ := List.mem_map.1 this
        exact ⟨y, by simp [hy], hyx⟩
       ·rcases List.mem_cons.1 hx with rfl | hx
        ·exact absurd hsi.symm hki
        ·exact ⟨x, by simp [hx], rfl⟩
      ·rintro ⟨y, hy, rfl⟩
       obtain ⟨x, hx, sx, _⟩ := hmemL y hy
       exact ⟨x, hx, sx.i⟩
    ·intro j x hj hjx
     rw [Array.getElem?_setIfInBounds] at hj ⊢
     by_cases hix : i = x
     ·subst hix; rw [if_pos rfl, if_pos (by omega)]
     ·rw [if_neg hix]
      by_cases hij : i = j
      ·subst hij
       obtain ⟨d, hd, h1⟩ := (bef_iff hdeps (by rw [Array.getElem?_toList]; exact ho) x).1 hjx
       have hl := hi3 d hd
       rcases h1 with rfl | h1
       ·exact hl
       ·exact hdown d x hl h1
      ·rw [if_neg hij] at hj
       exact hdown j x hj hjx
   simp only [wpOps, ho]
   cases q3 with
   | cons k1 k2 k3 k4 k5 =>
    rw [hso'] at k2 k3 k4 k5
    cases hex : s'.ex with
    | true =>
     obtain ⟨hg, hop⟩ := k3 hex
     have hw : Region.wanted o (yielded ops a.tmps) = true := by
      unfold gOK at hg
      unfold Region.wanted
      cases hgd : o.guard with
      | none => rfl
      | some g =>
       obtain ⟨j, want⟩ := g
       rw [hgd] at hg
       obtain ⟨d, hd, he⟩ := hg
       rw [← agree_guard k2 hgd hd] at he
       obtain ⟨x, hx1, hx2, hx3⟩ := yielded_of hf hd he (by simp)
       simp only [VR] at hx2
       subst hx2
       simp [hx3]
     rw [if_pos hw]
     have hsi' : s'.i = i := by rw [qi, hsi]
     cases ha : isAlloc o.op with
     | true =>
      have hd := qd (by rw [← qe]; exact hex) (by rw [hso]; exact ha)
      unfold opX at hop
      rw [ha] at hop
      simp only [cond_true] at hop
      rw [k1, hsi'] at hop
      rw [hsi] at hd
      have hop' : opA (Sat P) T o fr h (h0.length + i) fun v h2 => v = s'.v ∧ h2 = s'.h' := by
       unfold opA at hop ⊢
       rw [opK_congr (agree_ev k2)]; exact hop
      refine .inl ((opA_sound (fun _ _ _ _ _ h => h) hT t0 (by omega) hd hf ha hop').upon fun x w' ⟨v, h', μ', ⟨e1, e2⟩, t2, v2, f2⟩ => ?_)
      subst e1 e2
      exact hrest k5 t2 (put_VRs f2 v2) (put_defers _ _ _)
     | false =>
      unfold opX at hop
      rw [ha] at hop
      simp only [cond_false] at hop
      rw [k1, ← opK_congr (agree_ev k2)] at hop
      refine .inl ((op_sound (fun _ _ _ _ _ h => h) hT t0.rel hf hop).upon fun x w' ⟨v, h', μ', ⟨e1, e2⟩, t2, v2⟩ => ?_)
      subst e1 e2
      exact hrest k5 (t0.trans t2) (put_VRs (VRs.step t2.step hf) v2) (put_defers _ _ _)
    | false =>
     obtain ⟨hg, hv, hh⟩ := k4 hex
     have hw : Region.wanted o (yielded ops a.tmps) = false := by
      unfold gNo at hg
      unfold Region.wanted
      cases hgd : o.guard with
      | none => rw [hgd] at hg; exact hg.elim
      | some g =>
       obtain ⟨j, want⟩ := g
       rw [hgd] at hg
       obtain ⟨d, hd, he⟩ := hg
       rw [← agree_guard k2 hgd hd] at he
       rcases he with he | he
       ·obtain ⟨x, hx1, hx2, hx3⟩ := yielded_of hf hd he (by simp)
        simp only [VR] at hx2
        subst hx2
        cases want <;> simp [hx3]
       ·obtain ⟨x, hx1, hx2, hx3⟩ := yielded_of hf hd he (by simp)
        simp only [VR] at hx2
        subst hx2
        simp [hx3]
     rw [if_neg (by rw [hw]; simp)]
     rw [hv, hh, k1] at k5
     exact hrest k5 t0 (put_VRs (v := .gone) (x := undef) hf (by simp only [VR]; rfl)) (put_defers _ _ _)
  ·next hno =>
   cases L with
   | nil =>
    cases hV
    exact hQ μ w a t0 hf rfl
   | cons s L =>
    exfalso
    have hs := hops s (by simp)
    have hlt : s.i < ops.size := (Array.getElem?_eq_some_iff.1 hs).1
    have hin : s.i ∈ rs := (hmem s.i).2 ⟨hlt, (hlist s.i hlt).2 ⟨s, by simp, rfl⟩, s.o, hs, fun d hd => by
     have hd1 := hdeps s.i s.o (by rw [Array.getElem?_toList]; exact hs) d hd
     have hb : bef (befs ops.toList []) s.i d = true := (bef_iff hdeps (by rw [Array.getElem?_toList]; exact hs) d).2 ⟨d, hd, .inl rfl⟩
     have hdl : d < ops.size := by omega
     cases hq : listed[d]? with
     | none => rw [Array.getElem?_eq_none_iff] at hq; omega
     | some b =>
      cases b with
      | true => rfl
      | false =>
       obtain ⟨y, hy, rfl⟩ := (hlist d hdl).1 hq
       rcases List.mem_cons.1 hy with rfl | hy
       ·omega
       ·have := pairE_bef ((List.pairwise_cons.1 hpw).1 (y.o, y.i) (List.mem_map.2 ⟨y, hy, rfl⟩))
        have this' : bef (befs ops.toList []) s.i y.i = false := this
        rw [this'] at hb
        cases hb⟩
    have hpos : 0 < rs.length := List.length_pos_of_mem hin
    rw [List.getElem?_eq_getElem (Nat.mod_lt _ hpos)] at hno
    cases hno
end
end Go.Proofs.Ytcoampecbpiecaa.Cl
