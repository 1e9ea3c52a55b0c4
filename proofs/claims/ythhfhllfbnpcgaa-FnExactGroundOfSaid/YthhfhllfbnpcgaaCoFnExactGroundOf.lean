/- The row FnExactGroundOf: the law returns true, and its arguments read as before. Holds for every argument that the row admits. -/
import Derived.Test.YthhfhllfbnpcgaaRows
import Derived.Test.YthhfhllfbnpcgaaCoLGroundOf
import Derived.Test.YthhfhllfbnpcgaaCoS
import Derived.Test.YthhfhllfbnpcgaaCoY
import Derived.WalkKit
import Derived.ProofKit
import Derived.OpenShut
import Derived.ShutString
import Derived.ChangeOld
import Derived.Below
import Derived.SizedLaws
namespace Go.Proofs.Ythhfhllfbnpcgaa.fnExactGroundOf
open Go Go.ChangeShapes Go.WideShapes Go.ChangeAt Go.RowKit Go.Proofs.Ythhfhllfbnpcgaa.Co
set_option linter.unusedVariables false
theorem own : ownKnob Try.prog.godebug = none := by kernel_rfl
theorem laidOut : laidOutB Try.prog = true := by kernel_rfl
theorem law (lss : List (List Leaf)) (h : Shas Try.prog [24] lss) : AC Try.prog 13 [] (argRS Try.prog [24] lss) (fun r _ _ => r = .val false [.v (.sc (.bool true))]) := by
  cases h with
  | cons h0 r0 =>
  cases r0
  obtain ⟨x0, rfl, ok0⟩ := (sha_ty Try.underlying24 Try.underlying22 Try.underlying3 (by kernel_rfl) ⟨_, rfl, rfl, rfl⟩ ⟨_, rfl, rfl, rfl⟩ (by kernel_rfl) (by kernel_rfl) h0).1 rfl
  rw [encT_eq x0]
  simp only [argRS, show isAggT Try.prog 24 = true by kernel_rfl]
  exact law_GroundOf x0 ok0
set_option maxRecDepth 100000 in
theorem lifted (os : Os) (started : os.Started) (H : Type) (enc : TypeId × Value → H) :
    ReturnsInHanded {} Try.checked os 13 .any (Rows.fnExactGroundOfSpec.pre6 enc Try.prog Try.f13 Rows.fnExactGroundOfRow.domain false) (Rows.fnExactGroundOfSpec.post enc Try.prog Try.f13 false true false false) := by
  refine returnsInHanded_of_change_sized (C := Try.checked) own started (by kernel_rfl) Try.func13
    (ChangeSpec.witness6 (enc := enc) (C := Try.checked) false ⟨#[], #[.agg #[.int .i64 0, .slice none 0 0]], []⟩ 8 (by kernel_rfl) (by kernel_rfl) (by kernel_rfl) (by kernel_rfl)) ?_
  intro W base args ds gs before hval hW hcnd hsz0 _
  have hW' := hW
  obtain ⟨p, q, hA, hV, rfl, hfz, hnd⟩ := hW
  obtain ⟨rfl, rfl⟩ := trodVars_none hV
  have hps : Try.f13.params.toList = [24] := rfl
  have hA1 : DataW.TrodAll enc Try.prog W 0 (fun _ => true) true [24] args.toList ds p := hA
  refine (law_runs (base := base) [24, 22, 3] (by kernel_rfl) (ps := [24]) (by decide) (fun lss h => law lss h) hA1 (fun j t v h1 h2 => hval j t v (by rw [← hps, Array.getElem?_toList] at h1; exact h1) (by rw [Array.getElem?_toList] at h2; exact h2))).mono fun e W' ⟨he, bel⟩ => ?_
  subst he
  have hk := args_kept laidOut (ps := [24]) (by kernel_rfl) bel (fun t ht => ht) hA1
  obtain ⟨v0, vs0, d0, ds0, p0, q0, ha0, rfl, hp0, g0, s0⟩ := trodAll_cons hA1
  obtain ⟨_, rfl, _⟩ := trodAll_nil s0
  exact ⟨_, rfl, _, _, _, [], _, [], hW', trodAll_mk1 (shut_bool Try.underlying4 _), hk, rfl, bel.frame _, fun h => by cases h⟩
theorem over : Rows.fnExactGroundOfRow.holds Try.pinned (OpenSpec.ofChange Rows.fnExactGroundOfSpec) :=
  OpenClaim.holds_of_wide 13 Try.f13 rfl rfl rfl rfl rfl rfl rfl ⟨rfl, rfl, rfl, rfl, rfl⟩ rfl rfl rfl rfl rfl (by kernel_rfl) Try.func13 (by kernel_rfl)
    (of_decide_eq_true (by kernel_rfl)) (by unfold Func.isWrapper; first | (rw [if_pos (by decide +kernel)]; kernel_rfl) | (rw [if_neg (by decide +kernel)]; exact ⟨rfl, rfl⟩))
    (fun os started H enc _ => lifted os started H enc)
theorem proved : Rows.FnExactGroundOfSaid := over
end Go.Proofs.Ythhfhllfbnpcgaa.fnExactGroundOf
namespace Go.Proofs.Ythhfhllfbnpcgaa
/-- The row, under a short name, for the claim. -/
theorem fnExactGroundOf_holds : Rows.FnExactGroundOfSaid := fnExactGroundOf.proved
end Go.Proofs.Ythhfhllfbnpcgaa
