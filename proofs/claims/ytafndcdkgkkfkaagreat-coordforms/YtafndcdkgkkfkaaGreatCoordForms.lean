/-
  CoordForms returns true at every pair of numbers and turns nothing that was there: parted by the remainder and the last bits, then evaluated. The frame was written by proof-skeleton.mjs.
-/
import Derived.Test.YtafndcdkgkkfkaaGreatRows
import Derived.WalkKit
import Derived.ProofKit
import Derived.OpenShut
import Derived.Test.YtafndcdkgkkfkaaGreatFormsEval0
import Derived.Test.YtafndcdkgkkfkaaGreatFormsEval1
import Derived.Test.YtafndcdkgkkfkaaGreatFormsEval2
namespace Go.Proofs.YtafndcdkgkkfkaaGreat.coordForms
open Go.ChangeShapes Go.WideShapes Go.ChangeAt Go.RowKit
set_option linter.unusedVariables false      -- a walk need not use every 'w<i>' (that an integer argument fits its kind)

theorem own : ownKnob Tryz.prog.godebug = none := by kernel_rfl

theorem run_at {lf k : Nat} {a0 a1 : Int} {r : Zs.V × Zs.Heap} (hr : Zs.L6.furlonglaw20_CoordForms lf (Zs.runC Zs.e1 lf k) (.int .i64 a0) (.int .i64 a1) ⟨0, .leaf⟩ = some r) :
    Zs.run Zs.e1 lf (k + 1) false 6 [.int .i64 a0, .int .i64 a1] ⟨0, .leaf⟩ = some r := by
  rw [Zs.runC_eq] at hr
  exact Zs.L6.furlonglaw20_CoordForms_run hr

theorem at_ (a0 a1 : Int) (ht : Zs.isTrue (Zs.L6.furlonglaw20_CoordForms 5000 (Zs.runC Zs.e1 5000 100) (.int .i64 a0) (.int .i64 a1) ⟨0, .leaf⟩) = true) (w : World) :
    Calls Tryz.prog 6 #[.int .i64 a0, .int .i64 a1] w fun e w' => e = .returned (.bool true) ∧ Below w.heap.size w w' :=
  Zs.law_typed _ (.cons (.int _ _) (.cons (.int _ _) .nil)) (fun _ hr => run_at (lf := 5000) (k := 100) hr) ht w

theorem walk (a0 a1 : Int) (w : World) :
    Calls Tryz.prog 6 #[.int .i64 a0, .int .i64 a1] w fun e w' => e = .returned (.bool true) ∧ Below w.heap.size w w' := by
  obtain ⟨r, hr, e⟩ := Zs.and_mask a1 63 (by decide)
  obtain ⟨q, hq, e6⟩ := Zs.rem_fun a0 5 (by decide)
  have e1 := Zs.int_fun (R := Zs.V × Zs.Heap) e
  have e5 : (Zs.cvI .u64 (Zs.V.int .i64 a0) : (Zs.V → Option (Zs.V × Zs.Heap)) → Option (Zs.V × Zs.Heap)) = fun K => K (.int .u64 (IntKind.u64.wrap a0)) := rfl
  have e6 := e6 (Zs.V × Zs.Heap)
  have h : q = 0 ∨ q = 1 ∨ q = 2 ∨ q = 3 ∨ q = 4 := by omega
  rcases r with _ | r
  · rcases h with rfl | rfl | rfl | rfl | rfl
    · exact at_ a0 a1 (Zs.forms_0_one a0 a1 _ e1 e5 e6) w
    · exact at_ a0 a1 (Zs.forms_1_one a0 a1 _ e1 e5 e6) w
    · exact at_ a0 a1 (Zs.forms_2_one a0 a1 _ e1 e5 e6) w
    · exact at_ a0 a1 (Zs.forms_3_one a0 a1 _ e1 e5 e6) w
    · exact at_ a0 a1 (Zs.forms_4_one a0 a1 _ e1 e5 e6) w
  · rcases h with rfl | rfl | rfl | rfl | rfl
    · exact at_ a0 a1 (Zs.forms_0_big r a0 a1 _ e1 e5 e6 (Zs.add1_fun r (by omega)) (Zs.neg_fun r (by omega)) (Zs.sub_fun r (by omega))) w
    · exact at_ a0 a1 (Zs.forms_1_big r a0 a1 _ e1 e5 e6 (Zs.add1_fun r (by omega)) (Zs.neg_fun r (by omega)) (Zs.sub_fun r (by omega))) w
    · exact at_ a0 a1 (Zs.forms_2_big r a0 a1 _ e1 e5 e6 (Zs.add1_fun r (by omega)) (Zs.neg_fun r (by omega)) (Zs.sub_fun r (by omega))) w
    · exact at_ a0 a1 (Zs.forms_3_big r a0 a1 _ e1 e5 e6 (Zs.add1_fun r (by omega)) (Zs.neg_fun r (by omega)) (Zs.sub_fun r (by omega))) w
    · exact at_ a0 a1 (Zs.forms_4_big r a0 a1 _ e1 e5 e6 (Zs.add1_fun r (by omega)) (Zs.neg_fun r (by omega)) (Zs.sub_fun r (by omega))) w

/-! ### THE ROW's STEP: WRITTEN OUT: LEAVE IT -/
set_option maxRecDepth 100000 in
theorem lifted (os : Os) (started : os.Started) (H : Type) (enc : TypeId × Value → H) :
    ReturnsInHanded {} Tryz.checked os 6 .any (Rows.coordFormsSpec.pre6 enc Tryz.prog Tryz.f6 Rows.coordFormsRow.domain false) (Rows.coordFormsSpec.post enc Tryz.prog Tryz.f6 false true false false) := by
  refine returnsInHanded_of_change (C := Tryz.checked) own started (by kernel_rfl) Tryz.func6
    (ChangeSpec.witness6 (enc := enc) (C := Tryz.checked) false ⟨#[], #[.int .i64 0, .int .i64 0], []⟩ 8 (by kernel_rfl) (by kernel_rfl) (by kernel_rfl) (by kernel_rfl)) ?_
  intro W base args ds gs before hval0 hW hcnd _
  have hval : ∀ (j : Nat) t v, Tryz.f6.params[j]? = some t → args[j]? = some v → Value.okWide Tryz.prog W .any base t v := hval0
  have hW' := hW
  obtain ⟨p, q, hA0, hV, rfl, hfz, hnd⟩ := hW
  have hA : DataW.TrodAll enc Tryz.prog W 0 (fun _ => true) true Tryz.f6.params.toList args.toList ds p := hA0
  rw [Tryz.params6] at hA hval
  obtain ⟨v0, vs0, d0, ds0, p0, q0, hargs, rfl, rfl, h0, r0⟩ := trodAll_cons hA
  obtain ⟨v1, vs1, d1, ds1, p1, q1, rfl, rfl, rfl, h1, r1⟩ := trodAll_cons r0
  obtain ⟨rfl, rfl, rfl⟩ := trodAll_nil r1
  obtain rfl : args = #[v0, v1] := by cases args; simp_all
  obtain ⟨rfl, rfl⟩ := trodVars_none hV
  obtain ⟨a0, rfl, rfl, rfl, w0⟩ := open_int Tryz.underlying3 (hval 0 3 v0 rfl rfl) h0
  obtain ⟨a1, rfl, rfl, rfl, w1⟩ := open_int Tryz.underlying3 (hval 1 3 v1 rfl rfl) h1
  clear hA0 hval0
  simp only [List.append_nil] at hW'
  refine (walk a0 a1 W).mono fun e W' ⟨he, hg⟩ => ?_
  subst he
  exact ⟨_, rfl, Zs.post_of_below (pa := []) (pv := []) hW' (fun _ _ _ => (trodAll_cons_mk (shut_bool Tryz.underlying4 _) trodAll_mk0)) (fun sp _ => (trodAll_cons_mk (shut_int Tryz.underlying3 w0) (trodAll_cons_mk (shut_int Tryz.underlying3 w1) trodAll_mk0))) (fun _ _ => rfl) rfl
    hg (ok_one (by kernel_rfl) rfl (okWide_bool_mk Tryz.underlying4 _))⟩

theorem over : Rows.coordFormsRow.holds Tryz.pinned (OpenSpec.ofChange Rows.coordFormsSpec) :=
  OpenClaim.holds_of_wide 6 Tryz.f6 rfl rfl rfl rfl rfl rfl rfl ⟨rfl, rfl, rfl, rfl, rfl⟩ rfl rfl rfl rfl rfl (by kernel_rfl) Tryz.func6 (by kernel_rfl)
    (of_decide_eq_true (by kernel_rfl)) (by unfold Func.isWrapper; first | (rw [if_pos (by decide +kernel)]; kernel_rfl) | (rw [if_neg (by decide +kernel)]; exact ⟨rfl, rfl⟩))
    (fun os started H enc _ => lifted os started H enc)

end Go.Proofs.YtafndcdkgkkfkaaGreat.coordForms

namespace Go.Proofs.YtafndcdkgkkfkaaGreat
theorem coordForms_holds : Rows.CoordFormsSaid := coordForms.over
end Go.Proofs.YtafndcdkgkkfkaaGreat
