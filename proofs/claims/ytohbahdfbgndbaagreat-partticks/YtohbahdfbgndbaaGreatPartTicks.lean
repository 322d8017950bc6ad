/-
  PartTicks returns true at every gap and both commit ways, and turns nothing that was there. The frame was written by proof-skeleton.mjs; the walk parts the gap's last three bits and evaluates the typed form at each.
-/
import Derived.Test.YtohbahdfbgndbaaGreatRows
import Derived.WalkKit
import Derived.ProofKit
import Derived.OpenShut
import Derived.Test.YtohbahdfbgndbaaGreatTicksEval0
import Derived.Test.YtohbahdfbgndbaaGreatTicksEval1
import Derived.Test.YtohbahdfbgndbaaGreatTicksEval2
import Derived.Test.YtohbahdfbgndbaaGreatTicksEval3
namespace Go.Proofs.YtohbahdfbgndbaaGreat.partTicks
open Go.ChangeShapes Go.WideShapes Go.ChangeAt Go.RowKit
set_option linter.unusedVariables false      -- a walk need not use every 'w<i>' (that an integer argument fits its kind)

theorem own : ownKnob Tryz.prog.godebug = none := by kernel_rfl

theorem hv (a0 : Int) (a1 : Bool) : Zs.VRs (fun _ => none) [.int .i64 a0, .bool a1] (#[Value.int .i64 a0, Value.bool a1] : Array Value).toList := .cons (.int _ _) (.cons (.bool a1) .nil)

theorem run_at {lf k : Nat} {a0 : Int} {a1 : Bool} {r : Zs.V × Zs.Heap} (hr : Zs.L7.furlonglaw19_PartTicks lf (Zs.runC Zs.e1 lf k) (.int .i64 a0) (.bool a1) ⟨0, .leaf⟩ = some r) :
    Zs.run Zs.e1 lf (k + 1) false 7 [.int .i64 a0, .bool a1] ⟨0, .leaf⟩ = some r := by
  rw [Zs.runC_eq] at hr
  exact Zs.L7.furlonglaw19_PartTicks_run hr

theorem at_ (a0 : Int) (a1 : Bool) (ht : Zs.isTrue (Zs.L7.furlonglaw19_PartTicks 5000 (Zs.runC Zs.e1 5000 100) (.int .i64 a0) (.bool a1) ⟨0, .leaf⟩) = true) (w : World) :
    Calls Tryz.prog 7 #[.int .i64 a0, .bool a1] w fun e w' => e = .returned (.bool true) ∧ Below w.heap.size w w' :=
  Zs.law_typed _ (hv a0 a1) (fun _ hr => run_at (lf := 5000) (k := 100) hr) ht w

theorem walk (a0 : Int) (a1 : Bool) (w : World) :
    Calls Tryz.prog 7 #[.int .i64 a0, .bool a1] w fun e w' => e = .returned (.bool true) ∧ Below w.heap.size w w' := by
  obtain ⟨r, hr, e⟩ := Zs.and_mask a0 7 (by decide)
  have h : r = 0 ∨ r = 1 ∨ r = 2 ∨ r = 3 ∨ r = 4 ∨ r = 5 ∨ r = 6 ∨ r = 7 := by omega
  rcases h with rfl | rfl | rfl | rfl | rfl | rfl | rfl | rfl <;> cases a1
  · exact at_ a0 false (Zs.ticks_0_false a0 (Zs.mask_fun e)) w
  · exact at_ a0 true (Zs.ticks_0_true a0 (Zs.mask_fun e)) w
  · exact at_ a0 false (Zs.ticks_1_false a0 (Zs.mask_fun e)) w
  · exact at_ a0 true (Zs.ticks_1_true a0 (Zs.mask_fun e)) w
  · exact at_ a0 false (Zs.ticks_2_false a0 (Zs.mask_fun e)) w
  · exact at_ a0 true (Zs.ticks_2_true a0 (Zs.mask_fun e)) w
  · exact at_ a0 false (Zs.ticks_3_false a0 (Zs.mask_fun e)) w
  · exact at_ a0 true (Zs.ticks_3_true a0 (Zs.mask_fun e)) w
  · exact at_ a0 false (Zs.ticks_4_false a0 (Zs.mask_fun e)) w
  · exact at_ a0 true (Zs.ticks_4_true a0 (Zs.mask_fun e)) w
  · exact at_ a0 false (Zs.ticks_5_false a0 (Zs.mask_fun e)) w
  · exact at_ a0 true (Zs.ticks_5_true a0 (Zs.mask_fun e)) w
  · exact at_ a0 false (Zs.ticks_6_false a0 (Zs.mask_fun e)) w
  · exact at_ a0 true (Zs.ticks_6_true a0 (Zs.mask_fun e)) w
  · exact at_ a0 false (Zs.ticks_7_false a0 (Zs.mask_fun e)) w
  · exact at_ a0 true (Zs.ticks_7_true a0 (Zs.mask_fun e)) w

/-! ### THE ROW's STEP: WRITTEN OUT: LEAVE IT -/
set_option maxRecDepth 100000 in
theorem lifted (os : Os) (started : os.Started) (H : Type) (enc : TypeId × Value → H) :
    ReturnsInHanded {} Tryz.checked os 7 .any (Rows.partTicksSpec.pre6 enc Tryz.prog Tryz.f7 Rows.partTicksRow.domain false) (Rows.partTicksSpec.post enc Tryz.prog Tryz.f7 false true false false) := by
  refine returnsInHanded_of_change (C := Tryz.checked) own started (by kernel_rfl) Tryz.func7
    (ChangeSpec.witness6 (enc := enc) (C := Tryz.checked) false ⟨#[], #[.int .i64 0, .bool false], []⟩ 8 (by kernel_rfl) (by kernel_rfl) (by kernel_rfl) (by kernel_rfl)) ?_
  intro W base args ds gs before hval0 hW hcnd _
  have hval : ∀ (j : Nat) t v, Tryz.f7.params[j]? = some t → args[j]? = some v → Value.okWide Tryz.prog W .any base t v := hval0
  have hW' := hW
  obtain ⟨p, q, hA0, hV, rfl, hfz, hnd⟩ := hW
  have hA : DataW.TrodAll enc Tryz.prog W 0 (fun _ => true) true Tryz.f7.params.toList args.toList ds p := hA0
  rw [Tryz.params7] at hA hval
  obtain ⟨v0, vs0, d0, ds0, p0, q0, hargs, rfl, rfl, h0, r0⟩ := trodAll_cons hA
  obtain ⟨v1, vs1, d1, ds1, p1, q1, rfl, rfl, rfl, h1, r1⟩ := trodAll_cons r0
  obtain ⟨rfl, rfl, rfl⟩ := trodAll_nil r1
  obtain rfl : args = #[v0, v1] := by cases args; simp_all
  obtain ⟨rfl, rfl⟩ := trodVars_none hV
  obtain ⟨a0, rfl, rfl, rfl, w0⟩ := open_int Tryz.underlying3 (hval 0 3 v0 rfl rfl) h0
  obtain ⟨a1, rfl, rfl, rfl⟩ := open_bool Tryz.underlying4 (hval 1 4 v1 rfl rfl) h1
  clear hA0 hval0
  simp only [List.append_nil] at hW'
  refine (walk a0 a1 W).mono fun e W' ⟨he, hg⟩ => ?_
  subst he
  exact ⟨_, rfl, Zs.post_of_below (pa := []) (pv := []) hW' (fun _ _ _ => (trodAll_cons_mk (shut_bool Tryz.underlying4 _) trodAll_mk0)) (fun sp _ => (trodAll_cons_mk (shut_int Tryz.underlying3 w0) (trodAll_cons_mk (shut_bool Tryz.underlying4 _) trodAll_mk0))) (fun _ _ => rfl) rfl
    hg (ok_one (by kernel_rfl) rfl (okWide_bool_mk Tryz.underlying4 _))⟩

theorem over : Rows.partTicksRow.holds Tryz.pinned (OpenSpec.ofChange Rows.partTicksSpec) :=
  OpenClaim.holds_of_wide 7 Tryz.f7 rfl rfl rfl rfl rfl rfl rfl ⟨rfl, rfl, rfl, rfl, rfl⟩ rfl rfl rfl rfl rfl (by kernel_rfl) Tryz.func7 (by kernel_rfl)
    (of_decide_eq_true (by kernel_rfl)) (by unfold Func.isWrapper; first | (rw [if_pos (by decide +kernel)]; kernel_rfl) | (rw [if_neg (by decide +kernel)]; exact ⟨rfl, rfl⟩))
    (fun os started H enc _ => lifted os started H enc)

end Go.Proofs.YtohbahdfbgndbaaGreat.partTicks

namespace Go.Proofs.YtohbahdfbgndbaaGreat
theorem partTicks_holds : Rows.PartTicksSaid := partTicks.over
end Go.Proofs.YtohbahdfbgndbaaGreat
