/- Contracts of the reference's code of columns and of CountColumns. No claim is stated here. -/
import Derived.Test.YtdmhchgaeepdmaaNj
set_option linter.unusedVariables false
set_option linter.unusedSimpArgs false
namespace Go.Proofs.Ytdmhchgaeepdmaa.Cl
open Go
section
variable {h0 : H} {c : Int} {s : Sl} {ts : List Tile} {H_ : Nat}
theorem l06Code_c (r : Rd h0 s 4 (tcs ts)) (sz : ts.length ≤ 1048576) {n : Int} :
    callV SP i_spec_l06Code [.agg (SetC c s), i64 n] h0 fun v h' => ∃ u, v = .tuple [.sl u, i64 (codeS c ts n)] ∧ (codeS c ts n = 0 → RdSS h' u (col3 (layN c ts n.toNat lay0))) ∧ (codeS c ts n ≠ 0 → u = Sl.nil) ∧ Ext h0 h' := by
  apply spec_l06Code_call
  unfold spec_l06Code_main
  refine newK_obj fun h1 o1 x1 l1 => ?_
  refine o1.ldA rfl ?_
  refine (l01Is_c (r.ext x1)).to ?_
  rintro e h3 ⟨he, x3⟩
  have X3 := x1.trans x3
  have fin : ∀ {h' : H}, codeS c ts n ≠ 0 → Ext h0 h' → ∀ k : Int, k = codeS c ts n → ∃ u, AVal.tuple [.sl Sl.nil, i64 k] = .tuple [.sl u, i64 (codeS c ts n)] ∧ (codeS c ts n = 0 → RdSS h' u (col3 (layN c ts n.toNat lay0))) ∧ (codeS c ts n ≠ 0 → u = Sl.nil) ∧ Ext h0 h' := fun hq x k hk => ⟨_, by rw [hk], fun f => absurd f hq, fun _ => rfl, x⟩
  refine bif_not (fun hq => ?_) (fun hq => ?_)
  · have h1 : codeOf (setOK c ts) (1 ≤ n ∧ n ≤ 4) = 1 := codeOf_no fun hs => by rw [he.2 hs] at hq; cases hq
    have h2 : codeS c ts n = 1 := by rw [codeS_no (by rw [h1]; decide), h1]
    exact fin (by rw [h2]; decide) X3 1 h2.symm
  have hs := he.1 hq
  have T := hs.ts
  refine l01In_k ?_
  refine bif_not (fun hr => ?_) (fun hr => ?_)
  · have hr' : ¬ (1 ≤ n ∧ n ≤ 4) := of_decide_eq_false hr
    have h1 : codeOf (setOK c ts) (1 ≤ n ∧ n ≤ 4) = 2 := codeOf_range hs hr'
    have h2 : codeS c ts n = 2 := by rw [codeS_no (by rw [h1]; decide), h1]
    exact fin (by rw [h2]; decide) X3 2 h2.symm
  have hr' : 1 ≤ n ∧ n ≤ 4 := of_decide_eq_true hr
  have h00 : codeOf (setOK c ts) (1 ≤ n ∧ n ≤ 4) = 0 := codeOf_yes hs hr'
  obtain ⟨H_, rfl⟩ : ∃ H_ : Nat, n = H_ := ⟨n.toNat, by omega⟩
  have hof : colsOf c ts (H_ : Int) = colP c ts H_ (-1) 0 0 := by unfold colsOf; rw [Int.toNat_natCast]
  refine (o1.ext x3).ldA rfl ?_
  refine (l06Size_c (s := s) T.1 hs.1.2 (H_ := H_) (by omega)).to ?_
  rintro _ h8 ⟨rfl, x8⟩
  refine bif_dec (fun hg => ?_) (fun hg => ?_)
  · have h2 : codeS c ts (H_ : Int) = 3 := codeS_3 h00 (.inl (by rw [Int.toNat_natCast]; exact hg))
    exact fin (by rw [h2]; decide) (X3.trans x8) 3 h2.symm
  refine (o1.ext (x3.trans x8)).ldA rfl ?_
  refine (l06Columns_c (H_ := H_) (r.ext (X3.trans x8)) T hs.1.2 hs.2.1 (by omega)).to ?_
  rintro _ h11 ⟨u, b, rfl, hb, hu, x11⟩
  refine ⟨_, rfl, _, rfl, _, rfl, _, rfl, ?_⟩
  have hlen : (layN c ts H_ lay0).length = (colsOf c ts (H_ : Int)).length := by rw [hof]; exact lay_len H_
  refine bif_not (fun hf => ?_) (fun hf => ?_)
  · have h2 : codeS c ts (H_ : Int) = 3 := codeS_3 h00 (.inr (by
      rw [← hlen]
      refine Classical.byContradiction fun f => ?_
      have : b = true := hb.2 (by omega)
      rw [hf] at this; cases this))
    exact fin (by rw [h2]; decide) ((X3.trans x8).trans x11) 3 h2.symm
  · have h2 : codeS c ts (H_ : Int) = 0 := codeS_0 h00 (by
      rw [Int.toNat_natCast, ← hlen]
      have := hb.1 hf
      omega)
    exact ⟨u, by rw [h2], fun _ => by rw [Int.toNat_natCast]; exact hu hf, fun f => absurd h2 f, (X3.trans x8).trans x11⟩
theorem spec_CountColumns_c (r : Rd h0 s 4 (tcs ts)) (sz : ts.length ≤ 1048576) {n : Int} (bn : i64ok n) :
    callV SP i_spec_CountColumns [.agg (SetC c s), i64 n] h0 fun v h' => v = .tuple [i64 (F_CountColumns_0 c ts n), i64 (codeS c ts n)] ∧ Ext h0 h' := by
  apply spec_CountColumns_call
  unfold spec_CountColumns_main
  refine newK_obj fun h1 o1 x1 l1 => ?_
  refine o1.ldA rfl ?_
  refine (l06Code_c (n := n) (r.ext x1) sz).to ?_
  rintro _ h3 ⟨u, rfl, hu, _, x3⟩
  refine ⟨_, rfl, _, rfl, _, rfl, _, rfl, ?_⟩
  refine bif_ne (fun hq => ⟨by rw [F_CountColumns_0, if_neg hq], x1.trans x3⟩) (fun hq => ?_)
  refine ⟨?_, x1.trans x3⟩
  rw [(hu hq).len, col3_len, F_CountColumns_0, if_pos hq, hq, lay_len]
  rfl
end
end Go.Proofs.Ytdmhchgaeepdmaa.Cl
