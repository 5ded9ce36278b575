/- The law FnTori holds of all codes. The statement itself stands in another text. -/
import Derived.Test.YtlcgclmobfdbcaaGreatFb0
import Derived.Test.YtlcgclmobfdbcaaGreatFb3
set_option linter.unusedVariables false
set_option linter.unusedSimpArgs false
namespace Go.Proofs.YtlcgclmobfdbcaaGreat.Cl
open Go
abbrev KB : AVal → H → Prop := fun v _ => ∃ b, v = AVal.bool b ∧ b = true
def zmD (K : AVal → H → Prop) (s0_ : Sl) (h : H) : Prop :=
 callV SP znU [.sl s0_] h fun v1 h0 =>
 viaT v1 fun vs2 =>
 exA vs2 0 fun cs3 =>
 viaT v1 fun vs4 =>
 exI .i64 vs4 1 fun n5 =>
 viaT v1 fun vs6 =>
 exI .i64 vs6 2 fun n7 =>
 newO [.int .i64 (0), .sl Sl.nil] h0 fun p8 h9 =>
 stN p8 2 cs3 h9 fun h10 =>
 ldA p8 2 h10 fun cs11 =>
 callV SP zkO [.agg cs11, .int .i64 n5, .int .i64 n7] h10 fun v13 h12 =>
 viaT v13 fun vs14 =>
 exI .i64 vs14 0 fun n15 =>
 viaT v13 fun vs16 =>
 exI .i64 vs16 1 fun n17 =>
 ldA p8 2 h12 fun cs18 =>
 callV SP znT [.agg cs18, .int .i64 n5, .int .i64 n7] h12 fun v20 h19 =>
 viaT v20 fun vs21 =>
 exI .i64 vs21 0 fun n22 =>
 viaT v20 fun vs23 =>
 exI .i64 vs23 1 fun n24 =>
 callV SP znS [.sl s0_] h19 fun v26 h25 =>
 viaT v26 fun vs27 =>
 exA vs27 0 fun cs28 =>
 viaT v26 fun vs29 =>
 exS vs29 1 fun s30 =>
 newO [.int .i64 (0), .sl Sl.nil] h25 fun p31 h32 =>
 stN p31 2 cs28 h32 fun h33 =>
 ldA p31 2 h33 fun cs34 =>
 callV SP zkQ [.agg cs34, .sl s30] h33 fun v36 h35 =>
 viaT v36 fun vs37 =>
 exB vs37 0 fun b38 =>
 viaT v36 fun vs39 =>
 exI .i64 vs39 1 fun n40 =>
 ldA p31 2 h35 fun cs41 =>
 callV SP znR [.agg cs41, .sl s30] h35 fun v43 h42 =>
 viaT v43 fun vs44 =>
 exB vs44 0 fun b45 =>
 viaT v43 fun vs46 =>
 exI .i64 vs46 1 fun n47 =>
 callV SP znQ [.sl s0_] h42 fun v49 h48 =>
 viaT v49 fun vs50 =>
 exA vs50 0 fun cs51 =>
 viaT v49 fun vs52 =>
 exS vs52 1 fun s53 =>
 newO [.int .i64 (0), .sl Sl.nil] h48 fun p54 h55 =>
 stN p54 2 cs51 h55 fun h56 =>
 ldA p54 2 h56 fun cs57 =>
 callV SP zkP [.agg cs57, .sl s53] h56 fun v59 h58 =>
 viaT v59 fun vs60 =>
 exB vs60 0 fun b61 =>
 viaT v59 fun vs62 =>
 exI .i64 vs62 1 fun n63 =>
 ldA p54 2 h58 fun cs64 =>
 callV SP znP [.agg cs64, .sl s53] h58 fun v66 h65 =>
 viaT v66 fun vs67 =>
 exB vs67 0 fun b68 =>
 viaT v66 fun vs69 =>
 exI .i64 vs69 1 fun n70 =>
 bif (n17 == n24) then
 bif (n15 == n22) then
 bif (n40 == n47) then
 bif (b38 == b45) then
 bif (n63 == n70) then
 K (.bool (b61 == b68)) h65
 else
 K (.bool false) h65
 else
 K (.bool false) h65
 else
 K (.bool false) h65
 else
 K (.bool false) h65
 else
 K (.bool false) h65
theorem code4_iff {A B T : Prop} : xV A B T = 0 ↔ (A ∧ B) ∧ T := by
 by_cases hc : zG A B = 0
 ·by_cases t : T
  ·rw [WT hc t]; exact ⟨fun _ => ⟨zN hc, t⟩, fun _ => rfl⟩
  ·rw [WS hc t]; exact ⟨fun h => (by cases h), fun h => absurd h.2 t⟩
 ·rw [Zt hc]; exact ⟨fun h => absurd h hc, fun h => absurd (zT h.1.1 h.1.2) hc⟩
theorem tc_pos {c : Int} {ts : List Tile} {a b : Int} : yr c ts a b > 0 ↔ yp c ts b.toNat a.toNat ≠ [] := by
 unfold yr
 constructor
 ·intro h e; rw [e] at h; simp at h
 ·intro h
  have := List.length_pos_iff.2 h
  omega
section
variable {h g : H} {s0 : Sl} {q0 : List Int}
theorem zmC (C : CodeB g s0 q0) : zmD KB s0 g := by
 unfold zmD
 refine (xA C).to ?_
 rintro _ g1 ⟨u, c, ts, a, b, rfl, ru, hl, ba, bb, fu, y1⟩
 refine ⟨_, rfl, _, rfl, _, rfl, _, rfl, _, rfl, _, rfl, ?_⟩
 refine VZ fun g2 p2 y2 m2 => ?_
 refine (yA (ru.ext y2) (by omega) ba bb).to ?_
 rintro _ g3 ⟨rfl, y3⟩
 refine ⟨_, rfl, _, rfl, _, rfl, _, rfl, ?_⟩
 refine (p2.ext y3).ldA rfl ?_
 refine (xp (ru.ext (y2.trans y3)) (by omega) ba bb).to ?_
 rintro _ g4 ⟨rfl, y4⟩
 refine ⟨_, rfl, _, rfl, _, rfl, _, rfl, ?_⟩
 have Y4 := y1.trans (y2.trans (y3.trans y4))
 refine (Zz (C.ext Y4)).to ?_
 rintro _ g5 ⟨u2, c2, ts2, w2, rows2, rfl, ru2, hl2, rw2, hr2, hrl2, y5⟩
 refine ⟨_, rfl, _, rfl, _, rfl, _, rfl, ?_⟩
 refine VZ fun g6 p6 y6 m6 => ?_
 have hb2 : ∀ l ∈ rows2, l.length ≤ 1048576 := fun l hl => by have := hrl2 l hl; omega
 refine (wD (ru2.ext y6) (rw2.ext y6) (by omega) (by omega) hb2).to ?_
 rintro _ g7 ⟨rfl, y7⟩
 refine ⟨_, rfl, _, rfl, _, rfl, _, rfl, ?_⟩
 refine (p6.ext y7).ldA rfl ?_
 refine (qA (ru2.ext (y6.trans y7)) (rw2.ext (y6.trans y7)) (by omega) (by omega) hb2).to ?_
 rintro _ g8 ⟨rfl, y8⟩
 refine ⟨_, rfl, _, rfl, _, rfl, _, rfl, ?_⟩
 have Y8 := Y4.trans (y5.trans (y6.trans (y7.trans y8)))
 refine (vn (C.ext Y8)).to ?_
 rintro _ g9 ⟨u3, c3, ts3, w3, rows3, rfl, ru3, hl3, rw3, hr3, hrl3, y9⟩
 refine ⟨_, rfl, _, rfl, _, rfl, _, rfl, ?_⟩
 refine VZ fun g10 p10 y10 m10 => ?_
 have hb3 : ∀ l ∈ rows3, l.length ≤ 1048576 := fun l hl => by have := hrl3 l hl; omega
 refine (xi (ru3.ext y10) (rw3.ext y10) (by omega) (by omega) hb3).to ?_
 rintro _ g11 ⟨rfl, y11⟩
 refine ⟨_, rfl, _, rfl, _, rfl, _, rfl, ?_⟩
 refine (p10.ext y11).ldA rfl ?_
 refine (wF (ru3.ext (y10.trans y11)) (rw3.ext (y10.trans y11)) (by omega) (by omega) hb3).to ?_
 rintro _ g12 ⟨rfl, y12⟩
 refine ⟨_, rfl, _, rfl, _, rfl, _, rfl, ?_⟩
 refine zu (fun _ => ?_) (fun hne => absurd rfl hne)
 refine zu (fun _ => ?_) (fun hne => absurd rfl hne)
 refine zu (fun _ => ?_) (fun hne => absurd rfl hne)
 refine yE (fun _ => ?_) (fun hf => by simp at hf)
 refine zu (fun _ => ?_) (fun hne => absurd rfl hne)
 exact ⟨_, rfl, by simp⟩
theorem zkn (C : CodeB g s0 q0) {s27 s31 : Sl} {i32 : Int} : Qm SP KB s0 s27 s31 i32 false g := by
 unfold Qm
 refine yE (fun hf => by cases hf) (fun _ => ?_)
 unfold zcs
 refine (xA C).to ?_
 rintro _ g1 ⟨u, c, ts, a, b, rfl, ru, hl, ba, bb, fu, y1⟩
 refine ⟨_, rfl, _, rfl, _, rfl, _, rfl, _, rfl, _, rfl, ?_⟩
 refine vD fun g2 p2 y2 m2 => ?_
 rw [zxF]
 unfold zqF zcq
 refine p2.ldA rfl ?_
 refine (yA (ru.ext y2) (by omega) ba bb).to ?_
 rintro _ g3 ⟨rfl, y3⟩
 refine ⟨_, rfl, _, rfl, _, rfl, _, rfl, ?_⟩
 dsimp only
 rw [zxE]
 unfold zqE zco
 refine (p2.ext y3).ldA rfl ?_
 refine (xp (ru.ext (y2.trans y3)) (by omega) ba bb).to ?_
 rintro _ g4 ⟨rfl, y4⟩
 refine ⟨_, rfl, _, rfl, _, rfl, _, rfl, ?_⟩
 dsimp only
 rw [zxD]
 unfold zqD zcm
 have Y4 := y1.trans (y2.trans (y3.trans y4))
 refine (Zz (C.ext Y4)).to ?_
 rintro _ g5 ⟨u2, c2, ts2, w2, rows2, rfl, ru2, hl2, rw2, hr2, hrl2, y5⟩
 refine ⟨_, rfl, _, rfl, _, rfl, _, rfl, ?_⟩
 refine vD fun g6 p6 y6 m6 => ?_
 rw [zxC]
 unfold zqC zck
 refine p6.ldA rfl ?_
 have hb2 : ∀ l ∈ rows2, l.length ≤ 1048576 := fun l hl => by have := hrl2 l hl; omega
 refine (wD (ru2.ext y6) (rw2.ext y6) (by omega) (by omega) hb2).to ?_
 rintro _ g7 ⟨rfl, y7⟩
 refine ⟨_, rfl, _, rfl, _, rfl, _, rfl, ?_⟩
 dsimp only
 rw [zxB]
 unfold zqB zci
 refine (p6.ext y7).ldA rfl ?_
 refine (qA (ru2.ext (y6.trans y7)) (rw2.ext (y6.trans y7)) (by omega) (by omega) hb2).to ?_
 rintro _ g8 ⟨rfl, y8⟩
 refine ⟨_, rfl, _, rfl, _, rfl, _, rfl, ?_⟩
 dsimp only
 rw [zxA]
 unfold zqA zcg
 have Y8 := Y4.trans (y5.trans (y6.trans (y7.trans y8)))
 refine (vn (C.ext Y8)).to ?_
 rintro _ g9 ⟨u3, c3, ts3, w3, rows3, rfl, ru3, hl3, rw3, hr3, hrl3, y9⟩
 refine ⟨_, rfl, _, rfl, _, rfl, _, rfl, ?_⟩
 refine vD fun g10 p10 y10 m10 => ?_
 rw [zxz]
 unfold zqz zce
 refine p10.ldA rfl ?_
 have hb3 : ∀ l ∈ rows3, l.length ≤ 1048576 := fun l hl => by have := hrl3 l hl; omega
 refine (xi (ru3.ext y10) (rw3.ext y10) (by omega) (by omega) hb3).to ?_
 rintro _ g11 ⟨rfl, y11⟩
 refine ⟨_, rfl, _, rfl, _, rfl, _, rfl, ?_⟩
 dsimp only
 rw [zxy]
 unfold zqy zcc
 refine (p10.ext y11).ldA rfl ?_
 refine (wF (ru3.ext (y10.trans y11)) (rw3.ext (y10.trans y11)) (by omega) (by omega) hb3).to ?_
 rintro _ g12 ⟨rfl, y12⟩
 refine ⟨_, rfl, _, rfl, _, rfl, _, rfl, ?_⟩
 dsimp only
 rw [zxx]
 unfold zqx zca
 refine zu (fun _ => ?_) (fun hne => absurd rfl hne)
 refine zu (fun _ => ?_) (fun hne => absurd rfl hne)
 refine zu (fun _ => ?_) (fun hne => absurd rfl hne)
 refine yE (fun _ => ?_) (fun hf => by simp at hf)
 refine zu (fun _ => ?_) (fun hne => absurd rfl hne)
 rw [beq_self_eq_true, zxw]
 unfold zqw
 exact ⟨_, rfl, rfl⟩
theorem zmE (C : CodeB g s0 q0) {c : Int} {ts : List Tile} (hs : setOK c ts) {s27 s31 : Sl} (r27 : RdSS g s27 (zH c ts)) (r31 : RdSS g s31 (zv c ts)) :
  Qm SP KB s0 s27 s31 (xV (setOK c ts) True (yH c ts ≠ none)) true g := by
 have eT : zH c ts = tab2 3 fun i => tab1 3 fun j => yr c ts ((i : Int) + 1) ((j : Int) + 1) := by rw [zH, zj hs]
 rw [eT] at r27
 have eL : zv c ts = (yH c ts).getD [] := by rw [zv, zj hs]
 rw [eL] at r31
 have l27 := r27.len
 rw [wk] at l27
 have l31 := r31.len
 unfold Qm
 refine yE (fun _ => ?_) (fun hf => by cases hf)
 unfold zcw
 rw [zxH]
 unfold zqH zcu
 rw [zxG]
 unfold zqG
 have code0 : yH c ts ≠ none → xV (setOK c ts) True (yH c ts ≠ none) = 0 := fun h => code4_iff.2 ⟨⟨hs, trivial⟩, h⟩
 refine zxs _ _ _ _ _ _ (fun b i g' => ∃ z : Nat, i = z ∧ z ≤ 3 ∧ (b = true ↔ ∃ x y, x < z ∧ y < 3 ∧ yp c ts (y + 1) (x + 1) ≠ []) ∧ g = g') (fun _ i _ => (3 - i).toNat) ?_ _ _ ⟨0, rfl, by omega, ⟨fun h => (by cases h), fun ⟨x, y, h, _⟩ => by omega⟩, rfl⟩
 rintro X0 b _ _ ⟨z, rfl, hz, hb, rfl⟩ hX
 unfold zFt
 refine zc (fun hi => ?_) (fun hi => ?_)
 ·have hz3 : z < 3 := by omega
  refine zxr _ _ X0 _ _ _ _ _ (fun b j g' => ∃ y : Nat, j = y ∧ y ≤ 3 ∧ (b = true ↔ ∃ x y', ((x < z ∧ y' < 3) ∨ (x = z ∧ y' < y)) ∧ yp c ts (y' + 1) (x + 1) ≠ []) ∧ g = g') (fun _ j _ => (3 - j).toNat) ?_ _ _ ⟨0, rfl, by omega, hb.trans ⟨fun ⟨x, y, h1, h2, h3⟩ => ⟨x, y, .inl ⟨h1, h2⟩, h3⟩, fun ⟨x, y, h1, h2⟩ => h1.elim (fun h => ⟨x, y, h.1, h.2, h2⟩) fun h => by omega⟩, rfl⟩
  rintro X2 b2 _ _ ⟨y, rfl, hy, hb2, rfl⟩ hY
  unfold zFs
  refine zc (fun hj => ?_) (fun hj => ?_)
  ·have hy3 : y < 3 := by omega
   have pos : yr c ts ((z : Int) + 1) ((y : Int) + 1) > 0 ↔ yp c ts (y + 1) (z + 1) ≠ [] := by
    rw [tc_pos, show ((y : Int) + 1).toNat = y + 1 by omega, show ((z : Int) + 1).toNat = z + 1 by omega]
   -- the number in the table
   have ldT : ∀ {K : Int → Prop}, K (yr c ts ((z : Int) + 1) ((y : Int) + 1)) → ixS s27 1 (z : Int) fun p => Cl.ldS p g fun s => ixS s 1 (y : Int) fun p => Cl.ldI .i64 p g K := fun {K} hk => by
    refine r27.ldG (by omega) (by rw [wk]; omega) fun v rv lv => ?_
    rw [Int.toNat_natCast, ziK hz3] at rv
    refine rv.ldG (by omega) (by rw [zW]; omega) ?_
    rw [Int.toNat_natCast, wL hy3]; exact hk
   -- what follows if it is positive
   have after : yr c ts ((z : Int) + 1) ((y : Int) + 1) > 0 → ∀ {b' : Bool}, b' = true → bif (xV (setOK c ts) True (yH c ts ≠ none) != 0) then KB (.bool false) g else ixS s31 1 0 fun p4 => Cl.ldS p4 g fun s5 => bif (decide ((w64 ((s31.len : Int) * (s5.len : Int))) > (w64 ((w64 ((z : Int) + 1)) * (w64 ((y : Int) + 1)))))) then KB (.bool false) g else X2 (zdp s0 s27 s31 (xV (setOK c ts) True (yH c ts ≠ none)) b' (z : Int) (w64 ((y : Int) + 1))) g := fun hp {b'} hb' => by
    have hne := pos.1 hp
    obtain ⟨ws, e1, e2, e3⟩ := V6 hs.sides (a := z + 1) (b := y + 1) (by omega) (by omega) (by omega) (by omega) hne
    have hn : yH c ts ≠ none := by rw [e1]; simp
    rw [e1, Option.getD_some] at r31 l31
    refine zL (fun hq => absurd (code0 hn) hq) (fun _ => ?_)
    refine r31.ldG (by omega) (by omega) fun v rv lv => ?_
    rw [show (0 : Int).toNat = 0 from rfl] at rv lv
    have h9 : (z + 1) * (y + 1) ≤ 3 * 3 := Nat.mul_le_mul (by omega) (by omega)
    have e4 : (s31.len : Int) * (v.len : Int) = ((ws.length * (rw_ ws 0).length : Nat) : Int) := by rw [l31, lv]; push_cast; rfl
    have e5 : ((z : Int) + 1) * ((y : Int) + 1) = (((z + 1) * (y + 1) : Nat) : Int) := by push_cast; rfl
    refine zc (fun hgt => absurd hgt ?_) (fun _ => ?_)
    ·rw [zd (n := (z : Int) + 1) (by omega) (by omega), zd (n := (y : Int) + 1) (by omega) (by omega), e4, e5, zd (n := ((ws.length * (rw_ ws 0).length : Nat) : Int)) (by omega) (by omega), zd (n := (((z + 1) * (y + 1) : Nat) : Int)) (by omega) (by omega)]
     omega
    ·rw [zd (n := (y : Int) + 1) (by omega) (by omega)]
     refine hY _ _ _ ⟨y + 1, by push_cast; rfl, by omega, ⟨fun _ => ⟨z, y, .inr ⟨rfl, by omega⟩, hne⟩, fun _ => hb'⟩, rfl⟩ (by omega)
   refine yE (fun hbt => ?_) (fun hbf => ?_)
   ·refine ldT ?_
    refine zc (fun hp => after hp rfl) (fun hp => ?_)
    rw [zd (n := (y : Int) + 1) (by omega) (by omega)]
    obtain ⟨x, y', h1, h2⟩ := hb2.1 hbt
    exact hY _ _ _ ⟨y + 1, by push_cast; rfl, by omega, ⟨fun _ => ⟨x, y', h1.imp id fun h => ⟨h.1, by omega⟩, h2⟩, fun _ => rfl⟩, rfl⟩ (by omega)
   ·refine ldT ?_
    refine ldT ?_
    refine zc (fun hp => after hp (by rw [decide_eq_true_eq]; exact hp)) (fun hp => ?_)
    rw [zd (n := (y : Int) + 1) (by omega) (by omega), decide_eq_false hp]
    refine hY _ _ _ ⟨y + 1, by push_cast; rfl, by omega, ⟨fun h => (by cases h), fun ⟨x, y', h1, h2⟩ => ?_⟩, rfl⟩ (by omega)
    exfalso
    have hno : ¬ b2 = true := by rw [hbf]; simp
    rcases h1 with h1 | ⟨rfl, h1⟩
    ·exact hno (hb2.2 ⟨x, y', .inl h1, h2⟩)
    ·by_cases e : y' = y
     ·subst e; exact hp (pos.2 h2)
     ·exact hno (hb2.2 ⟨x, y', .inr ⟨rfl, by omega⟩, h2⟩)
  ·unfold zHi zHj
   rw [zd (by omega) (by omega)]
   have hy3 : y = 3 := by omega
   subst hy3
   refine hX _ _ _ ⟨z + 1, by push_cast; rfl, by omega, hb2.trans ⟨fun ⟨x, y, h1, h2⟩ => ⟨x, y, by omega, by omega, h2⟩, fun ⟨x, y, h1, h2, h3⟩ => ⟨x, y, by omega, h3⟩⟩, rfl⟩ (by omega)
 ·have hz3 : z = 3 := by omega
  subst hz3
  have hbe : b = (xV (setOK c ts) True (yH c ts ≠ none) == 0) := by
   rw [Bool.eq_iff_iff, beq_iff_eq, hb, code4_iff]
   constructor
   ·rintro ⟨x, y, h1, h2, h3⟩
    obtain ⟨ws, e, _⟩ := V6 hs.sides (a := x + 1) (b := y + 1) (by omega) (by omega) (by omega) (by omega) h3
    exact ⟨⟨hs, trivial⟩, by rw [e]; simp⟩
   ·rintro ⟨_, h⟩
    obtain ⟨ws, e⟩ := Option.ne_none_iff_exists'.1 h
    obtain ⟨x, y, h1, h2, h3⟩ := zkF hs.sides e
    exact ⟨x, y, h1, h2, h3⟩
  refine yE (fun hf => absurd hbe (by simpa using hf)) (fun _ => ?_)
  exact zmC C
theorem zmF (C : CodeB g s0 q0) : zfL SP KB s0 false g := by
 unfold zfL
 refine yE (fun hf => by cases hf) (fun _ => ?_)
 unfold YP
 refine (YB C).to ?_
 rintro _ g1 ⟨u, c, ts, rfl, ru, hl, y1⟩
 refine vD fun g2 p2 y2 m2 => ?_
 rw [zxO]
 unfold zqN zcJ
 have ru2 := ru.ext y2
 refine p2.ldA rfl ?_
 refine (ZV ru2 (by omega)).to ?_
 rintro _ g3 ⟨w, rfl, nw, y3⟩
 refine ⟨_, rfl, _, rfl, _, rfl, _, rfl, ?_⟩
 dsimp only
 rw [zxN]
 unfold zqM zcH
 refine (p2.ext y3).ldA rfl ?_
 refine (ZE (ru2.ext y3) (by omega)).to ?_
 rintro _ g4 ⟨w', rfl, nw', y4⟩
 refine ⟨_, rfl, _, rfl, _, rfl, _, rfl, ?_⟩
 dsimp only
 rw [zxM]
 unfold zqL zcF
 have y34 := y3.trans y4
 refine (p2.ext y34).ldA rfl ?_
 refine (ZW (ru2.ext y34) (by omega)).to ?_
 rintro _ g5 ⟨l, rfl, nl, y5⟩
 refine ⟨_, rfl, _, rfl, _, rfl, _, rfl, ?_⟩
 dsimp only
 rw [zxL]
 unfold zqK zcD
 refine (p2.ext (y34.trans y5)).ldA rfl ?_
 refine (ZF (ru2.ext (y34.trans y5)) (by omega)).to ?_
 rintro _ g6 ⟨l', rfl, nl', y6⟩
 refine ⟨_, rfl, _, rfl, _, rfl, _, rfl, ?_⟩
 dsimp only
 rw [zxK]
 unfold zqJ zcB
 have y56 := y5.trans y6
 have sm1 := Yb (c := c) (ts := ts) (by omega)
 have sm2 := Yd (c := c) (ts := ts) (by omega)
 have r27 := nw.rd.ext (y4.trans y56)
 have r31 := nl.rd.ext y6
 refine zL (fun hq => absurd rfl hq) (fun _ => ?_)
 refine zer r27 (nw'.rd.ext y56) (by omega) (fun l hl => by have := ZC hl; omega) ?_
 refine zL (fun hq => absurd rfl hq) (fun _ => ?_)
 refine (zmX r31 nl'.rd (by omega) (fun l hl => by have := ZC hl; omega)).to ?_
 rintro _ _ ⟨rfl, rfl⟩
 rw [beq_self_eq_true, zxJ]
 unfold zqI
 refine yE (fun hf => by cases hf) (fun _ => ?_)
 unfold zcy
 rw [zxI]
 have C6 := C.ext (y1.trans (y2.trans (y34.trans y56)))
 by_cases hs : setOK c ts
 ·rw [zT hs trivial, beq_self_eq_true]
  exact zmE C6 hs r27 r31
 ·rw [yY hs]
  exact zkn C6
theorem zmG (C : CodeB g s0 q0) {o : Nat} {u : Sl} {c : Int} {ts : List Tile} {a b : Int} (ob : Obj g o (SetC c u)) (ru : Rd g u 4 (tcs ts)) (hl : ts.length ≤ 17) (ba : yN a) (bb : yN b) :
  zjI SP KB s0 ⟨some o, 2, 0⟩ a b (xV (setOK c ts) (Size a b) (zZ c ts a b ≠ none)) (zq c ts a b) (zG (setOK c ts) (Size a b) == 0) g := by
 unfold zjI
 by_cases hc : zG (setOK c ts) (Size a b) = 0
 ·obtain ⟨hs, hz⟩ := zN hc
  have h16 := hs.2.1
  have hz1 := hz.1
  have hz2 := hz.2
  rw [hc]
  refine yE (fun _ => ?_) (fun hf => by cases hf)
  unfold zcZ
  refine ob.ldA rfl ?_
  refine (yA ru (by omega) ba bb).to ?_
  rintro _ g1 ⟨rfl, y1⟩
  refine ⟨_, rfl, _, rfl, _, rfl, _, rfl, ?_⟩
  dsimp only
  rw [zxS]
  unfold zqQ zcX
  have eC : zq c ts a b = yr c ts a b := by rw [zq, zj ⟨hs, hz⟩]
  have e78 : ((xV (setOK c ts) (Size a b) (zZ c ts a b ≠ none) == 0) != decide (zq c ts a b > 0)) = false := by
   have : (xV (setOK c ts) (Size a b) (zZ c ts a b ≠ none) == 0) = decide (zq c ts a b > 0) := by
    rw [Bool.eq_iff_iff, beq_iff_eq, decide_eq_true_eq, code4_iff, eC, tc_pos]
    constructor
    ·rintro ⟨_, h⟩ e; exact h (first_none.2 e)
    ·intro h; exact ⟨⟨hs, hz⟩, fun e => h (first_none.1 e)⟩
   rw [this]; simp
  have hz5 : zmv a b := ⟨by omega, hz2⟩
  have next : zjH SP KB s0 ⟨some o, 2, 0⟩ a b (zq c ts a b) false g1 := by
   unfold zjH
   refine yE (fun hf => by cases hf) (fun _ => ?_)
   unfold zcU
   refine (ob.ext y1).ldA rfl ?_
   refine (Zk (c := c) (ru.ext y1) (by omega)).to ?_
   rintro _ g2 ⟨v, rfl, pv, fv, y2⟩
   rw [zva hs] at pv ⊢
   have pv : Pre g2 v 4 (tcs (dsT (ts.map mrd))) := pv
   have hs2 : setOK c (dsT (ts.map mrd)) := hs.img zeF
   have h16' := hs2.2.1
   refine ⟨_, rfl, _, rfl, _, rfl, _, rfl, ?_⟩
   refine vD fun g3 o3 y3 m3 => ?_
   rw [zxR]
   unfold zqP zcS
   refine o3.ldA rfl ?_
   refine (vl (c := c) (pv.ext y3).rd (by omega) ba bb).to ?_
   rintro _ g4 ⟨rfl, y4⟩
   refine ⟨_, rfl, _, rfl, _, rfl, _, rfl, ?_⟩
   dsimp only
   rw [zxQ]
   unfold zqO zcQ
   refine zL (fun hq => absurd rfl hq) (fun _ => ?_)
   refine zL (fun hq => absurd (zT hs2 hz) hq) (fun _ => ?_)
   have eM : zq c (dsT (ts.map mrd)) a b = zq c ts a b := by
    rw [eC, zq, zj ⟨hs2, hz⟩]
    unfold yr
    rw [zFV hs (by omega) (by omega)]
   rw [eM, bne_self_eq_false, zxP]
   exact zmF (C.ext (y1.trans (y2.trans (y3.trans y4))))
  refine zu (fun he => ?_) (fun _ => ?_)
  ·refine zc (fun hlt => absurd hlt ?_) (fun _ => ?_)
   ·rw [zy, zj ⟨hs, hz5⟩] at he
    have hle : cyl c ts a b ≤ 1000000000000000 := by
     refine Classical.byContradiction fun hn => ?_
     rw [if_neg hn] at he; cases he
    rw [zz, zj ⟨hs, hz5⟩, if_pos hle, eC]
    have := zgL (c := c) (ts := ts) (a := a) (b := b)
    unfold yr
    omega
   ·rw [e78, zjS]; exact next
  ·rw [e78, zjS]; exact next
 ·refine yE (fun hf => absurd (by simpa using hf) hc) (fun _ => ?_)
  have := zmF C
  unfold zfL zcO YP at this
  unfold zcL
  exact this
theorem zCn (C : CodeB g s0 q0) {o : Nat} {u s6 : Sl} {c : Int} {ts : List Tile} {a b : Int} (ob : Obj g o (SetC c u)) (ru : Rd g u 4 (tcs ts)) (hl : ts.length ≤ 17) (ba : yN a) (bb : yN b) (r6 : RdSS g s6 (zI c ts a b)) :
  zjJ SP KB s0 ⟨some o, 2, 0⟩ a b s6 (xV (setOK c ts) (Size a b) (zZ c ts a b ≠ none)) (zq c ts a b) (zG (setOK c ts) (Size a b)) (xV (setOK c ts) (Size a b) (zZ c ts a b ≠ none) == 0) g := by
 unfold zjJ
 by_cases h0 : xV (setOK c ts) (Size a b) (zZ c ts a b ≠ none) = 0
 ·obtain ⟨⟨hs, hz⟩, hf⟩ := code4_iff.1 h0
  have hz1 := hz.1
  have hz2 := hz.2
  obtain ⟨T, eT⟩ := Option.ne_none_iff_exists'.1 hf
  have hm := zjy eT
  obtain ⟨hTl, hG⟩ := zkl hs (by omega) (by omega) (by omega) (by omega) hm
  have e6 : zI c ts a b = T := by rw [zI, zj ⟨hs, hz⟩, eT]; rfl
  rw [e6] at r6
  have l6 := r6.len
  have hN := hG.1.2
  have hTb : ∀ l ∈ T, l.length ≤ 1048576 := fun l hl => by
   have := ((wV hs.sides (by omega) (by omega)).1 hm).2.1 l hl
   have := this.1; omega
  rw [h0]
  refine yE (fun _ => ?_) (fun hf => by cases hf)
  unfold zdm
  refine ob.ldA rfl ?_
  refine (wD ru r6 (by omega) (by omega) hTb).to ?_
  rintro _ g1 ⟨rfl, y1⟩
  refine ⟨_, rfl, _, rfl, _, rfl, _, rfl, ?_⟩
  dsimp only
  rw [zxW]
  unfold zqU zdk
  refine (ob.ext y1).ldA rfl ?_
  refine (xi (ru.ext y1) (r6.ext y1) (by omega) (by omega) hTb).to ?_
  rintro _ g2 ⟨rfl, y2⟩
  refine ⟨_, rfl, _, rfl, _, rfl, _, rfl, ?_⟩
  dsimp only
  rw [zxV]
  unfold zqT zdi
  have y12 := y1.trans y2
  refine (ob.ext y12).ldA rfl ?_
  refine (Yy (ru.ext y12) (r6.ext y12) (by omega) (by omega) hTb).to ?_
  rintro _ g3 ⟨rfl, y3⟩
  refine ⟨_, rfl, _, rfl, _, rfl, _, rfl, ?_⟩
  dsimp only
  rw [zxU]
  unfold zqS zdg
  have hcN : zG (setOK c ts) (Nums ts.length T) = 0 := zT hs hN
  have t1 : yK c ts T = true := zvc ⟨hG.1, hG.2⟩
  have t2 : z6 c ts T = true := zvc ⟨hG.1, hG.2.1, hG.2.2.1⟩
  have t3 : xG c ts T = true := zvc ⟨hG.1, hG.2.1⟩
  refine zL (fun hq => absurd hcN hq) (fun _ => ?_)
  refine zL (fun hq => absurd hcN hq) (fun _ => ?_)
  refine zL (fun hq => absurd hcN hq) (fun _ => ?_)
  refine zF (fun hq => by rw [t1] at hq; cases hq) (fun _ => ?_)
  refine zF (fun hq => by rw [t2] at hq; cases hq) (fun _ => ?_)
  refine zF (fun hq => by rw [t3] at hq; cases hq) (fun _ => ?_)
  refine zL (fun hq => absurd (by rw [l6, hTl]; omega) hq) (fun _ => ?_)
  have hct : ¬ zq c ts a b < 1 := by
   rw [zq, zj ⟨hs, hz⟩]
   have := tc_pos.2 (List.ne_nil_of_mem hm)
   omega
  rw [decide_eq_false hct, zxT]
  unfold zqR
  refine yE (fun hf => by cases hf) (fun _ => ?_)
  unfold zdd
  rw [zjT]
  have y123 := y12.trans y3
  have := zmG (C.ext y123) (ob.ext y123) (ru.ext y123) hl ba bb
  rw [h0] at this
  exact this
 ·refine yE (fun hf => absurd (by simpa using hf) h0) (fun _ => ?_)
  unfold zdb
  show zhB SP KB .normal (Qp s0 ⟨some o, 2, 0⟩ a b (xV (setOK c ts) (Size a b) (zZ c ts a b ≠ none)) (zq c ts a b) (zG (setOK c ts) (Size a b) == 0)) g
  rw [zjT]
  exact zmG C ob ru hl ba bb
end
theorem law_Tori {h : H} {s0 : Sl} {q0 : List Int} (r0 : Rd h s0 1 (bc q0)) (hq0 : ∀ b ∈ q0, 0 ≤ b ∧ b < 256) : callB SP i_f1 [.sl s0] h fun b _ => b = true := by
 have hsl := r0.blen
 apply zFr
 unfold zbW zhK
 rw [zFq]
 unfold zET zhJ
 refine (zIa s0).to ?_
 rintro _ _ ⟨rfl, rfl⟩
 rw [zFp]
 unfold zES
 refine zc (fun _ => ?_) (fun hbig => ?_)
 ·unfold zhI
  rw [zFo]
  exact ⟨_, rfl, rfl⟩
 have C0 : CodeB h s0 q0 := ⟨r0, by omega, hq0⟩
 unfold zhH
 refine (YC C0).to ?_
 rintro _ h2 ⟨u, c, ts, a, b, rfl, ru, hl, ba, bb, fu, x2⟩
 refine ⟨_, rfl, _, rfl, _, rfl, _, rfl, _, rfl, _, rfl, ?_⟩
 refine vD fun h3 o3 x3 n3 => ?_
 rw [zFn]
 unfold zER zhG
 have ru3 := ru.ext x3
 refine o3.ldA rfl ?_
 refine (ZX ru3 (by omega) ba bb).to ?_
 rintro _ h4 ⟨w, rfl, nw, x4⟩
 refine ⟨_, rfl, _, rfl, _, rfl, _, rfl, ?_⟩
 dsimp only
 rw [zFm]
 unfold zEQ zhF
 refine (o3.ext x4).ldA rfl ?_
 refine (ZG (ru3.ext x4) (by omega) ba bb).to ?_
 rintro _ h5 ⟨w', rfl, nw', x5⟩
 refine ⟨_, rfl, _, rfl, _, rfl, _, rfl, ?_⟩
 dsimp only
 rw [zFl]
 unfold zEP zhE
 have X5 := x4.trans x5
 refine (o3.ext X5).ldA rfl ?_
 refine (vl (ru3.ext X5) (by omega) ba bb).to ?_
 rintro _ h6 ⟨rfl, x6⟩
 refine ⟨_, rfl, _, rfl, _, rfl, _, rfl, ?_⟩
 dsimp only
 rw [zFk]
 unfold zEO zhD
 refine (o3.ext (X5.trans x6)).ldA rfl ?_
 refine (Yt (ru3.ext (X5.trans x6)) (by omega) ba bb).to ?_
 rintro _ h7 ⟨rfl, x7⟩
 refine ⟨_, rfl, _, rfl, _, rfl, _, rfl, ?_⟩
 dsimp only
 rw [zFj]
 unfold zEN zhC
 have x67 := x6.trans x7
 have sm := Ye (c := c) (ts := ts) (a := a) (b := b) (by omega) ba bb
 have r6 := nw.rd.ext (x5.trans x67)
 refine zL (fun hq => absurd rfl hq) (fun _ => ?_)
 refine zer r6 (nw'.rd.ext x67) (by omega) (fun l hl => by have := ZC hl; omega) ?_
 refine zL (fun hq => absurd rfl hq) (fun _ => ?_)
 rw [bne_self_eq_false, zFi]
 unfold zEM
 refine yE (fun hf => by cases hf) (fun _ => ?_)
 unfold zdo
 rw [zxX]
 have X7 := X5.trans x67
 exact zCn (C0.ext (x2.trans (x3.trans X7))) (o3.ext X7) (ru3.ext X7) hl ba bb r6
set_option maxRecDepth 100000 in
theorem law_Tori_in (h : H) (xs : List AVal) (hl : xs.length = Tryz.f3.params.toList.length) (ha : ∀ (i : Nat) t a, Tryz.f3.params.toList[i]? = some t → xs[i]? = some a → zFI Tryz.prog h t a) : callB (Sat Tryz.prog) 3 xs h fun b _ => b = true := by
 rw [show Tryz.f3.params.toList.length = 1 by kernel_rfl] at hl
 match xs, hl with
 | [e0], _ =>
  obtain ⟨k0, pd0, dd0, rfl⟩ := ha 0 22 e0 (by kernel_rfl) rfl
  obtain ⟨s0, q0, rfl, r0, hq0⟩ := zvg (u := 5) (by kernel_rfl) (by kernel_rfl) (by kernel_rfl) dd0
  rw [show argV Tryz.prog 22 [.sl s0] = .sl s0 by kernel_rfl]
  exact law_Tori r0 hq0
end Go.Proofs.YtlcgclmobfdbcaaGreat.Cl
