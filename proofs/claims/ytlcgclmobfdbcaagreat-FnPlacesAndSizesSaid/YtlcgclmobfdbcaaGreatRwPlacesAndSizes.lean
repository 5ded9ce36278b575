/- The given statement about the law FnPlacesAndSizes: for every input the law returns true, and its arguments read behind the call as they read before. No condition. -/
import Derived.Test.YtlcgclmobfdbcaaGreatRows
import Derived.Test.YtlcgclmobfdbcaaGreatFa2
import Derived.Test.YtlcgclmobfdbcaaGreatLwPlacesAndSizes
import Derived.WalkKit
import Derived.ProofKit
import Derived.OpenShut
import Derived.ChangeOld
import Derived.Below
import Derived.SizedLaws
namespace Go.Proofs.YtlcgclmobfdbcaaGreat.fnPlacesAndSizes
open Go.ChangeShapes Go.WideShapes Go.ChangeAt Go.RowKit
set_option linter.unusedVariables false
theorem own:ownKnob Tryz.prog.godebug=none:=by kernel_rfl
set_option maxRecDepth 100000 in
theorem lifted (os:Os) (started:os.Started) (H:Type) (enc:TypeId×Value→H):
  ReturnsInHanded {} Tryz.checked os 4 .any (Rows.fnPlacesAndSizesSpec.pre6 enc Tryz.prog Tryz.f4 Rows.fnPlacesAndSizesRow.domain false) (Rows.fnPlacesAndSizesSpec.post enc Tryz.prog Tryz.f4 false true false false):=by
 refine returnsInHanded_of_change_sized (C:=Tryz.checked) own started (by kernel_rfl) Tryz.func4
  (ChangeSpec.witness6 (enc:=enc) (C:=Tryz.checked) false ⟨#[],#[.slice none 0 0],[]⟩ 8 (by kernel_rfl) (by kernel_rfl) (by kernel_rfl) (by kernel_rfl)) ?_
 intro W base args ds gs before hval0 hW hcnd hsz0 _
 have hval:∀(j:Nat) t v,Tryz.f4.params[j]? = some t→args[j]? = some v→Value.okWide Tryz.prog W .any base t v:=hval0
 have hW':=hW
 obtain ⟨p,q,hA0,hV,rfl,hfz,hnd⟩:=hW
 have hA:DataW.TrodAll enc Tryz.prog W 0 (fun _=>true) true Tryz.f4.params.toList args.toList ds p:=hA0
 obtain ⟨rfl,rfl⟩:=trodVars_none hV
 refine (Cl.law_calls (W:=W) (ts:=Tryz.f4.params.toList) 12 (by kernel_rfl) (fun h xs hl ha=>Cl.law_PlacesAndSizes_in h xs hl ha) (fun j t v a b=>hval j t v (by simpa using a) b) hA).mono fun e W' ⟨he,bel⟩=>?_
 subst he
 have hB:=Cl.args_stay (P:=Tryz.prog) (by kernel_rfl) (by kernel_rfl) (by kernel_rfl) bel (Cl.lt_of_all (P:=Tryz.prog) (by kernel_rfl)) hA
 rw [Tryz.params4] at hA hB
 obtain ⟨v0,vs0,d0,ds0,p0,q0,hargs0,rfl,_,h0,r0⟩:=trodAll_cons hA
 obtain ⟨_,rfl,_⟩:=trodAll_nil r0
 exact ⟨_,rfl,_,_,_,[],_,[],hW',trodAll_mk1 (shut_bool Tryz.underlying4 _),hB,rfl,bel.frame _,fun h=>by cases h⟩
theorem over:Rows.fnPlacesAndSizesRow.holds Tryz.pinned (OpenSpec.ofChange Rows.fnPlacesAndSizesSpec):=
 OpenClaim.holds_of_wide 4 Tryz.f4 rfl rfl rfl rfl rfl rfl rfl ⟨rfl,rfl,rfl,rfl,rfl⟩ rfl rfl rfl rfl rfl (by kernel_rfl) Tryz.func4 (by kernel_rfl)
  (of_decide_eq_true (by kernel_rfl)) (by unfold Func.isWrapper;first | (rw [if_pos (by decide +kernel)];kernel_rfl) | (rw [if_neg (by decide +kernel)];exact ⟨rfl,rfl⟩))
  (fun os started H enc _=>lifted os started H enc)
theorem proved:Rows.FnPlacesAndSizesSaid:=over
#print axioms proved
end Go.Proofs.YtlcgclmobfdbcaaGreat.fnPlacesAndSizes
namespace Go.Proofs.YtlcgclmobfdbcaaGreat
theorem fnPlacesAndSizes_holds:Rows.FnPlacesAndSizesSaid:=fnPlacesAndSizes.proved
end Go.Proofs.YtlcgclmobfdbcaaGreat
