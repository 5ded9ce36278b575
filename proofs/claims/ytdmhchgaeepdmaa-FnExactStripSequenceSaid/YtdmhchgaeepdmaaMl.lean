/- Steps of the laws. No claim is stated here. -/
import Derived.Test.YtdmhchgaeepdmaaMb
set_option linter.unusedVariables false
set_option linter.unusedSimpArgs false
namespace Go.Proofs.Ytdmhchgaeepdmaa.Cl
open Go
theorem szSet_k (c : Int) (s : Sl) (left : Int) (hl : s.len ≤ 9223372036854775807) (h1 : 0 ≤ left) (h2 : left ≤ 1048576) (h : H) : callI SP .i64 i_laws_szSet [.agg (SetC c s), i64 left] h fun n h' => Ext h h' ∧ (n < 0 ∨ (n = left - s.len ∧ 0 ≤ n)) := by
  refine (szSet_c c s left hl h1 h2 h).to ?_
  rintro _ h' ⟨rfl, x⟩
  refine ⟨x, ?_⟩
  by_cases hq : left - s.len < 0
  · rw [if_pos hq]; exact .inl (by omega)
  · rw [if_neg hq]; exact .inr ⟨rfl, by omega⟩
theorem szTileS_k (s : Sl) (left : Int) (hl : s.len ≤ 9223372036854775807) (h1 : 0 ≤ left) (h2 : left ≤ 1048576) (h : H) : callI SP .i64 i_laws_szTileS [.sl s, i64 left] h fun n h' => Ext h h' ∧ (n < 0 ∨ (n = left - s.len ∧ 0 ≤ n)) := by
  refine (szTileS_c s left hl h1 h2 h).to ?_
  rintro _ _ ⟨rfl, rfl⟩
  refine ⟨Ext.refl _, ?_⟩
  by_cases hq : left - s.len < 0
  · rw [if_pos hq]; exact .inl (by omega)
  · rw [if_neg hq]; exact .inr ⟨rfl, by omega⟩
theorem bif_neb {x y : Bool} {a b : Prop} (h1 : x ≠ y → a) (h2 : x = y → b) : bif x != y then a else b := by
  by_cases hp : x = y
  · rw [show (x != y) = false by simp [hp]]; exact h2 hp
  · rw [show (x != y) = true by simp [hp]]; exact h1 hp
theorem eqS_yes {h0 : H} {s s' : Sl} {l : List Int} (r : Rd h0 s 1 (ic l)) (r' : Rd h0 s' 1 (ic l)) (hl : l.length < 4000000000000000000) {A : H → Prop} {B : H → Prop} (hk : B h0) : callB SP i_laws_eqInt64S [.sl s, .sl s'] h0 fun b h' => bif !b then A h' else B h' := by
  refine (eqInt64S_c r r' hl).to ?_
  rintro _ _ ⟨rfl, rfl⟩
  exact bif_not (fun hq => by simp at hq) fun _ => hk
theorem eqSS_yes {h0 : H} {s s' : Sl} {ls : List (List Int)} (r : RdSS h0 s ls) (r' : RdSS h0 s' ls) (hl : ls.length < 4000000000000000000) (hls : ∀ l ∈ ls, l.length < 4000000000000000000) {A : H → Prop} {B : H → Prop} (hk : B h0) : callB SP i_laws_eqInt64SS [.sl s, .sl s'] h0 fun b h' => bif !b then A h' else B h' := by
  refine (eqInt64SS_c r r' hl hls).to ?_
  rintro _ _ ⟨rfl, rfl⟩
  exact bif_not (fun hq => by simp at hq) fun _ => hk
theorem eqSet_yes {h0 : H} {c : Int} {s s' : Sl} {ts : List Tile} (r : Rd h0 s 4 (tcs ts)) (r' : Rd h0 s' 4 (tcs ts)) (hl : ts.length < 4000000000000000000) {A : H → Prop} {B : H → Prop} (hk : ∀ h', Ext h0 h' → B h') : callB SP i_laws_eqSet [.agg (SetC c s), .agg (SetC c s')] h0 fun b h' => bif !b then A h' else B h' := by
  refine (eqSet_c r r' hl).to ?_
  rintro _ h' ⟨rfl, x⟩
  exact bif_not (fun hq => by simp at hq) fun _ => hk h' x
theorem eqTiles_yes {h0 : H} {s s' : Sl} {ts : List Tile} (r : Rd h0 s 4 (tcs ts)) (r' : Rd h0 s' 4 (tcs ts)) (hl : ts.length < 4000000000000000000) {A : H → Prop} {B : H → Prop} (hk : ∀ h', Ext h0 h' → B h') : callB SP i_laws_eqTileS [.sl s, .sl s'] h0 fun b h' => bif !b then A h' else B h' := by
  refine (eqTileS_c r r' hl).to ?_
  rintro _ h' ⟨rfl, x⟩
  exact bif_not (fun hq => by simp at hq) fun _ => hk h' x
theorem heldSS_yes {h0 : H} {s : Sl} {ls : List (List Int)} (k0 : Int) (hk0 : 0 ≤ k0) (hk1 : k0 ≤ 1000000000) (r : RdSS h0 s (marks k0 ls)) (hl : ls.length < 1000000000) (hs : sumLen ls < 1000000000) {A : H → Prop} {B : Int → H → Prop} (hk : B (k0 + sumLen ls) h0) :
    callI SP .i64 i_laws_heldInt64SS [.sl s, i64 k0] h0 fun n h' => bif decide (n < 0) then A h' else B n h' := by
  refine (heldInt64SS_c k0 hk0 hk1 r hl hs).to ?_
  rintro _ _ ⟨rfl, rfl⟩
  exact bif_dec (fun hq => by omega) fun _ => hk
theorem heldS_yes {h0 : H} {s : Sl} (k0 : Int) (hk0 : 0 ≤ k0) (hk1 : k0 ≤ 1000000000) (r : Rd h0 s 1 (ic (upto k0 s.len))) (hl : s.len < 1000000000) {A : H → Prop} {B : Int → H → Prop} (hk : B (k0 + s.len) h0) :
    callI SP .i64 i_laws_heldInt64S [.sl s, i64 k0] h0 fun n h' => bif decide (n < 0) then A h' else B n h' := by
  refine (heldInt64S_c k0 hk0 (by omega) r (by omega)).to ?_
  rintro _ _ ⟨rfl, rfl⟩
  exact bif_dec (fun hq => by omega) fun _ => hk
theorem Obj.rangeE {h o cs} (x : Obj h o cs) {n : Nat} (hn : cs.length = n) : Cl.range h (some o) n 0 n = some cs := by
  have x' : h[o]? = some (.own cs) := x
  subst hn
  rw [range_of (xs := cs) (by unfold cells; simp [x']) (by simp)]
  simp
theorem Obj.stays {h h' o cs} (x : Obj h o cs) {n : Nat} (hn : cs.length = n) (e : Ext h h') : Cl.range h' (some o) n 0 n = Cl.range h (some o) n 0 n := by rw [e.range (x.rangeE hn), x.rangeE hn]
end Go.Proofs.Ytdmhchgaeepdmaa.Cl
