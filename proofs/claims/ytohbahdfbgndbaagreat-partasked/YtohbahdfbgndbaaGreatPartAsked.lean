/-
  PartAsked returns true at each of its four inputs and turns nothing that was there (no condition). The frame was written by proof-skeleton.mjs; the walk is an evaluation.
-/
import Derived.Test.YtohbahdfbgndbaaGreatRows
import Derived.WalkKit
import Derived.ProofKit
import Derived.OpenShut
import Derived.Test.YtohbahdfbgndbaaGreatAskedEval
namespace Go.Proofs.YtohbahdfbgndbaaGreat.partAsked
open Go.ChangeShapes Go.WideShapes Go.ChangeAt Go.RowKit
set_option linter.unusedVariables false      -- a walk need not use every 'w<i>' (that an integer argument fits its kind)

theorem own : ownKnob Tryz.prog.godebug = none := by kernel_rfl

theorem walk (a0 : Bool) (a1 : Bool) (w : World) :
    Calls Tryz.prog 3 #[.bool a0, .bool a1] w fun e w' => e = .returned (.bool true) ∧ Below w.heap.size w w' := by
  have hv : ∀ b c : Bool, Zs.VRs (fun _ => none) [.bool b, .bool c] (#[Value.bool b, Value.bool c] : Array Value).toList := fun b c => .cons (.bool b) (.cons (.bool c) .nil)
  cases a0 <;> cases a1
  · exact Zs.law_calls Zs.eP_env Zs.eP_body Zs.eP_sum _ (hv false false) Zs.asked_ff w
  · exact Zs.law_calls Zs.eP_env Zs.eP_body Zs.eP_sum _ (hv false true) Zs.asked_ft w
  · exact Zs.law_calls Zs.eP_env Zs.eP_body Zs.eP_sum _ (hv true false) Zs.asked_tf w
  · exact Zs.law_calls Zs.eP_env Zs.eP_body Zs.eP_sum _ (hv true true) Zs.asked_tt w

/-! ### THE ROW's STEP: WRITTEN OUT: as the program wrote it -/
set_option maxRecDepth 100000 in
theorem lifted (os : Os) (started : os.Started) (H : Type) (enc : TypeId × Value → H) :
    ReturnsInHanded {} Tryz.checked os 3 .any (Rows.partAskedSpec.pre6 enc Tryz.prog Tryz.f3 Rows.partAskedRow.domain false) (Rows.partAskedSpec.post enc Tryz.prog Tryz.f3 false true false false) := by
  refine returnsInHanded_of_change (C := Tryz.checked) own started (by kernel_rfl) Tryz.func3
    (ChangeSpec.witness6 (enc := enc) (C := Tryz.checked) false ⟨#[], #[.bool false, .bool false], []⟩ 8 (by kernel_rfl) (by kernel_rfl) (by kernel_rfl) (by kernel_rfl)) ?_
  intro W base args ds gs before hval0 hW hcnd _
  have hval : ∀ (j : Nat) t v, Tryz.f3.params[j]? = some t → args[j]? = some v → Value.okWide Tryz.prog W .any base t v := hval0
  have hW' := hW
  obtain ⟨p, q, hA0, hV, rfl, hfz, hnd⟩ := hW
  have hA : DataW.TrodAll enc Tryz.prog W 0 (fun _ => true) true Tryz.f3.params.toList args.toList ds p := hA0
  rw [Tryz.params3] at hA hval
  obtain ⟨v0, vs0, d0, ds0, p0, q0, hargs, rfl, rfl, h0, r0⟩ := trodAll_cons hA
  obtain ⟨v1, vs1, d1, ds1, p1, q1, rfl, rfl, rfl, h1, r1⟩ := trodAll_cons r0
  obtain ⟨rfl, rfl, rfl⟩ := trodAll_nil r1
  obtain rfl : args = #[v0, v1] := by cases args; simp_all
  obtain ⟨rfl, rfl⟩ := trodVars_none hV
  obtain ⟨a0, rfl, rfl, rfl⟩ := open_bool Tryz.underlying4 (hval 0 4 v0 rfl rfl) h0
  obtain ⟨a1, rfl, rfl, rfl⟩ := open_bool Tryz.underlying4 (hval 1 4 v1 rfl rfl) h1
  clear hA0 hval0
  simp only [List.append_nil] at hW'
  refine (walk a0 a1 W).mono fun e W' ⟨he, hg⟩ => ?_
  subst he
  exact ⟨_, rfl, Zs.post_of_below (pa := []) (pv := []) hW' (fun _ _ _ => (trodAll_cons_mk (shut_bool Tryz.underlying4 _) trodAll_mk0)) (fun sp _ => (trodAll_cons_mk (shut_bool Tryz.underlying4 _) (trodAll_cons_mk (shut_bool Tryz.underlying4 _) trodAll_mk0))) (fun _ _ => rfl) rfl
    hg (ok_one (by kernel_rfl) rfl (okWide_bool_mk Tryz.underlying4 _))⟩

theorem over : Rows.partAskedRow.holds Tryz.pinned (OpenSpec.ofChange Rows.partAskedSpec) :=
  OpenClaim.holds_of_wide 3 Tryz.f3 rfl rfl rfl rfl rfl rfl rfl ⟨rfl, rfl, rfl, rfl, rfl⟩ rfl rfl rfl rfl rfl (by kernel_rfl) Tryz.func3 (by kernel_rfl)
    (of_decide_eq_true (by kernel_rfl)) (by unfold Func.isWrapper; first | (rw [if_pos (by decide +kernel)]; kernel_rfl) | (rw [if_neg (by decide +kernel)]; exact ⟨rfl, rfl⟩))
    (fun os started H enc _ => lifted os started H enc)

end Go.Proofs.YtohbahdfbgndbaaGreat.partAsked

namespace Go.Proofs.YtohbahdfbgndbaaGreat
theorem partAsked_holds : Rows.PartAskedSaid := partAsked.over
end Go.Proofs.YtohbahdfbgndbaaGreat
