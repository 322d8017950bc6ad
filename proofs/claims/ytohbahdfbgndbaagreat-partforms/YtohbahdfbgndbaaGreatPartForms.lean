/-
  PartForms returns true at every pair of numbers and turns nothing that was there: parted by the remainder and the last bits, then evaluated. The frame was written by proof-skeleton.mjs.
-/
import Derived.Test.YtohbahdfbgndbaaGreatRows
import Derived.WalkKit
import Derived.ProofKit
import Derived.OpenShut
import Derived.Test.YtohbahdfbgndbaaGreatZsNm
import Derived.Test.YtohbahdfbgndbaaGreatPFormsEval0
import Derived.Test.YtohbahdfbgndbaaGreatPFormsEval1
import Derived.Test.YtohbahdfbgndbaaGreatPFormsEval2
namespace Go.Proofs.YtohbahdfbgndbaaGreat.partForms
open Go.ChangeShapes Go.WideShapes Go.ChangeAt Go.RowKit
set_option linter.unusedVariables false      -- a walk need not use every 'w<i>' (that an integer argument fits its kind)

theorem own : ownKnob Tryz.prog.godebug = none := by kernel_rfl

theorem run_at {lf k : Nat} {a0 a1 : Int} {r : Zs.V × Zs.Heap} (hr : Zs.L9.furlonglaw19_PartForms lf (Zs.runC Zs.e1 lf k) (.int .i64 a0) (.int .i64 a1) ⟨0, .leaf⟩ = some r) :
    Zs.run Zs.e1 lf (k + 1) false 9 [.int .i64 a0, .int .i64 a1] ⟨0, .leaf⟩ = some r := by
  rw [Zs.runC_eq] at hr
  exact Zs.L9.furlonglaw19_PartForms_run hr

theorem at_ (a0 a1 : Int) (ht : Zs.isTrue (Zs.L9.furlonglaw19_PartForms 5000 (Zs.runC Zs.e1 5000 100) (.int .i64 a0) (.int .i64 a1) ⟨0, .leaf⟩) = true) (w : World) :
    Calls Tryz.prog 9 #[.int .i64 a0, .int .i64 a1] w fun e w' => e = .returned (.bool true) ∧ Below w.heap.size w w' :=
  Zs.law_typed Zs.e1_env Zs.e1_body Zs.e1_sum _ (.cons (.int _ _) (.cons (.int _ _) .nil)) (fun _ hr => run_at (lf := 5000) (k := 100) hr) ht w

theorem walk (a0 a1 : Int) (w : World) :
    Calls Tryz.prog 9 #[.int .i64 a0, .int .i64 a1] w fun e w' => e = .returned (.bool true) ∧ Below w.heap.size w w' := by
  obtain ⟨r, hr, e⟩ := Zs.and_mask a1 63 (by decide)
  obtain ⟨q, hq, e6⟩ := Zs.rem_fun a0 6 (by decide)
  have e1 := Zs.int_fun (R := Zs.V × Zs.Heap) e
  have e5 : (Zs.cvI .u64 (Zs.V.int .i64 a0) : (Zs.V → Option (Zs.V × Zs.Heap)) → Option (Zs.V × Zs.Heap)) = fun K => K (.int .u64 (IntKind.u64.wrap a0)) := rfl
  have e6 := e6 (Zs.V × Zs.Heap)
  have h : q = 0 ∨ q = 1 ∨ q = 2 ∨ q = 3 ∨ q = 4 ∨ q = 5 := by omega
  rcases r with _ | r
  · rcases h with rfl | rfl | rfl | rfl | rfl | rfl
    · exact at_ a0 a1 (Zs.pforms_0_one a0 a1 _ e1 e5 e6) w
    · exact at_ a0 a1 (Zs.pforms_1_one a0 a1 _ e1 e5 e6) w
    · exact at_ a0 a1 (Zs.pforms_2_one a0 a1 _ e1 e5 e6) w
    · exact at_ a0 a1 (Zs.pforms_3_one a0 a1 _ e1 e5 e6) w
    · exact at_ a0 a1 (Zs.pforms_4_one a0 a1 _ e1 e5 e6) w
    · exact at_ a0 a1 (Zs.pforms_5_one a0 a1 _ e1 e5 e6) w
  · rcases h with rfl | rfl | rfl | rfl | rfl | rfl
    · exact at_ a0 a1 (Zs.pforms_0_big r a0 a1 _ e1 e5 e6 (Zs.add_fun 1 r 1 (by omega) (by omega) (by omega)) (Zs.neg_fun r 1 (by omega) (by omega)) (Zs.sub_fun (-1) r 2 2 (by omega) (by omega) (by omega) (by omega)) (Zs.sub_fun 1 r 2 0 (by omega) (by omega) (by omega) (by omega)) (Zs.add_fun 7 r 2 (by omega) (by omega) (by omega)) (Zs.add_fun 65535 r 2 (by omega) (by omega) (by omega))) w
    · exact at_ a0 a1 (Zs.pforms_1_big r a0 a1 _ e1 e5 e6 (Zs.add_fun 1 r 1 (by omega) (by omega) (by omega)) (Zs.neg_fun r 1 (by omega) (by omega)) (Zs.sub_fun (-1) r 2 2 (by omega) (by omega) (by omega) (by omega)) (Zs.sub_fun 1 r 2 0 (by omega) (by omega) (by omega) (by omega)) (Zs.add_fun 7 r 2 (by omega) (by omega) (by omega)) (Zs.add_fun 65535 r 2 (by omega) (by omega) (by omega))) w
    · exact at_ a0 a1 (Zs.pforms_2_big r a0 a1 _ e1 e5 e6 (Zs.add_fun 1 r 1 (by omega) (by omega) (by omega)) (Zs.neg_fun r 1 (by omega) (by omega)) (Zs.sub_fun (-1) r 2 2 (by omega) (by omega) (by omega) (by omega)) (Zs.sub_fun 1 r 2 0 (by omega) (by omega) (by omega) (by omega)) (Zs.add_fun 7 r 2 (by omega) (by omega) (by omega)) (Zs.add_fun 65535 r 2 (by omega) (by omega) (by omega))) w
    · exact at_ a0 a1 (Zs.pforms_3_big r a0 a1 _ e1 e5 e6 (Zs.add_fun 1 r 1 (by omega) (by omega) (by omega)) (Zs.neg_fun r 1 (by omega) (by omega)) (Zs.sub_fun (-1) r 2 2 (by omega) (by omega) (by omega) (by omega)) (Zs.sub_fun 1 r 2 0 (by omega) (by omega) (by omega) (by omega)) (Zs.add_fun 7 r 2 (by omega) (by omega) (by omega)) (Zs.add_fun 65535 r 2 (by omega) (by omega) (by omega))) w
    · exact at_ a0 a1 (Zs.pforms_4_big r a0 a1 _ e1 e5 e6 (Zs.add_fun 1 r 1 (by omega) (by omega) (by omega)) (Zs.neg_fun r 1 (by omega) (by omega)) (Zs.sub_fun (-1) r 2 2 (by omega) (by omega) (by omega) (by omega)) (Zs.sub_fun 1 r 2 0 (by omega) (by omega) (by omega) (by omega)) (Zs.add_fun 7 r 2 (by omega) (by omega) (by omega)) (Zs.add_fun 65535 r 2 (by omega) (by omega) (by omega))) w
    · exact at_ a0 a1 (Zs.pforms_5_big r a0 a1 _ e1 e5 e6 (Zs.add_fun 1 r 1 (by omega) (by omega) (by omega)) (Zs.neg_fun r 1 (by omega) (by omega)) (Zs.sub_fun (-1) r 2 2 (by omega) (by omega) (by omega) (by omega)) (Zs.sub_fun 1 r 2 0 (by omega) (by omega) (by omega) (by omega)) (Zs.add_fun 7 r 2 (by omega) (by omega) (by omega)) (Zs.add_fun 65535 r 2 (by omega) (by omega) (by omega))) w

/-! ### THE ROW's STEP: WRITTEN OUT: LEAVE IT -/
set_option maxRecDepth 100000 in
theorem lifted (os : Os) (started : os.Started) (H : Type) (enc : TypeId × Value → H) :
    ReturnsInHanded {} Tryz.checked os 9 .any (Rows.partFormsSpec.pre6 enc Tryz.prog Tryz.f9 Rows.partFormsRow.domain false) (Rows.partFormsSpec.post enc Tryz.prog Tryz.f9 false true false false) := by
  refine returnsInHanded_of_change (C := Tryz.checked) own started (by kernel_rfl) Tryz.func9
    (ChangeSpec.witness6 (enc := enc) (C := Tryz.checked) false ⟨#[], #[.int .i64 0, .int .i64 0], []⟩ 8 (by kernel_rfl) (by kernel_rfl) (by kernel_rfl) (by kernel_rfl)) ?_
  intro W base args ds gs before hval0 hW hcnd _
  have hval : ∀ (j : Nat) t v, Tryz.f9.params[j]? = some t → args[j]? = some v → Value.okWide Tryz.prog W .any base t v := hval0
  have hW' := hW
  obtain ⟨p, q, hA0, hV, rfl, hfz, hnd⟩ := hW
  have hA : DataW.TrodAll enc Tryz.prog W 0 (fun _ => true) true Tryz.f9.params.toList args.toList ds p := hA0
  rw [Tryz.params9] at hA hval
  obtain ⟨v0, vs0, d0, ds0, p0, q0, hargs, rfl, rfl, h0, r0⟩ := trodAll_cons hA
  obtain ⟨v1, vs1, d1, ds1, p1, q1, rfl, rfl, rfl, h1, r1⟩ := trodAll_cons r0
  obtain ⟨rfl, rfl, rfl⟩ := trodAll_nil r1
  obtain rfl : args = #[v0, v1] := by cases args; simp_all
  obtain ⟨rfl, rfl⟩ := trodVars_none hV
  obtain ⟨a0, rfl, rfl, rfl, w0⟩ := open_int Tryz.underlying3 (hval 0 3 v0 rfl rfl) h0
  obtain ⟨a1, rfl, rfl, rfl, w1⟩ := open_int Tryz.underlying3 (hval 1 3 v1 rfl rfl) h1
  clear hA0 hval0
  simp only [List.append_nil] at hW'
  refine (walk a0 a1 W).mono fun e W' ⟨he, hg⟩ => ?_
  subst he
  exact ⟨_, rfl, Zs.post_of_below (pa := []) (pv := []) hW' (fun _ _ _ => (trodAll_cons_mk (shut_bool Tryz.underlying4 _) trodAll_mk0)) (fun sp _ => (trodAll_cons_mk (shut_int Tryz.underlying3 w0) (trodAll_cons_mk (shut_int Tryz.underlying3 w1) trodAll_mk0))) (fun _ _ => rfl) rfl
    hg (ok_one (by kernel_rfl) rfl (okWide_bool_mk Tryz.underlying4 _))⟩

theorem over : Rows.partFormsRow.holds Tryz.pinned (OpenSpec.ofChange Rows.partFormsSpec) :=
  OpenClaim.holds_of_wide 9 Tryz.f9 rfl rfl rfl rfl rfl rfl rfl ⟨rfl, rfl, rfl, rfl, rfl⟩ rfl rfl rfl rfl rfl (by kernel_rfl) Tryz.func9 (by kernel_rfl)
    (of_decide_eq_true (by kernel_rfl)) (by unfold Func.isWrapper; first | (rw [if_pos (by decide +kernel)]; kernel_rfl) | (rw [if_neg (by decide +kernel)]; exact ⟨rfl, rfl⟩))
    (fun os started H enc _ => lifted os started H enc)

end Go.Proofs.YtohbahdfbgndbaaGreat.partForms

namespace Go.Proofs.YtohbahdfbgndbaaGreat
theorem partForms_holds : Rows.PartFormsSaid := partForms.over
end Go.Proofs.YtohbahdfbgndbaaGreat
