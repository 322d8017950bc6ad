/-
  What is opened is gone on with: texts before and behind an Open stand in one row, for all texts. The frame follows proof-skeleton.mjs.
-/
import Derived.Test.YtkgglkoooldodaaRows
import Derived.WalkKit
import Derived.ProofKit
import Derived.OpenShut
import Derived.ChangeOld
import Derived.Below
import Derived.SliceStrings
import Derived.Test.YtkgglkoooldodaaWl13
set_option linter.unusedVariables false
set_option linter.unusedSimpArgs false
set_option linter.deprecated false
namespace Go.Proofs.Ytkgglkoooldodaa.walGoes
open Go.ChangeShapes Go.WideShapes Go.ChangeAt Go.RowKit
open Go.ChangeMaps (open_string shut_string)
set_option linter.unusedVariables false

theorem own : ownKnob Try.prog.godebug = none := by kernel_rfl
theorem laidOut : laidOutB Try.prog = true := by kernel_rfl

theorem walk (a0 : Option Addr) (len0 cap0 : Nat) (s0 : List ByteArray) (a1 : Option Addr) (len1 cap1 : Nat) (s1 : List ByteArray) (w : World) (w0 : Zs.IsRowV w a0 len0 cap0 (s0.map Value.string)) (w1 : Zs.IsRowV w a1 len1 cap1 (s1.map Value.string))
    (l0 : (s0.take len0).length = len0) (l1 : (s1.take len1).length = len1) :
    Calls Try.prog 4 #[.slice a0 len0 cap0, .slice a1 len1 cap1] w fun e w' => e = .returned (.bool true) ∧ Below w.heap.size w w' := by
  have hy : ∀ (s : List ByteArray) (n : Nat) (κ : Zs.Emb), Zs.VRs κ (((s.take n).map fun s => s.data.toList).map Zs.V.str) ((s.map Value.string).take n) := by
    intro s n κ
    rw [← List.map_take, List.map_map]
    exact Zs.VRs.strs (s.take n)
  obtain ⟨ι1, h1, R1, v1, e1, H1, O1, ro1, r1, g1, m1⟩ := (Zs.HR.none w (Zs.okRound Zs.ee)).argSl Zs.Own.start Zs.empty_ro rfl w0 (hy s0 len0) (by simpa using l0)
  obtain ⟨ι2, h2, R2, v2, e2, H2, O2, ro2, r2, g2, m2⟩ := H1.argSl O1 ro1 rfl w1 (hy s1 len1) (by simpa using l1)
  obtain ⟨hp, hr⟩ := Zs.walGoes_run (lf := 1000000) (Nat.le_refl _) (g1.mono m2) g2 O2 (k := 20) (by omega)
  exact Zs.law_heap Zs.ee_env Zs.ee_body Zs.ee_sum #[.slice a0 len0 cap0, .slice a1 len1 cap1] H2 (.cons (r1.mono e2) (.cons r2 .nil)) (Zs.furlonglaw10_WalGoes_run hr)

set_option maxRecDepth 100000 in
theorem row_of {H : Type} {enc : TypeId × Value → H} {W : World} {base : Nat} {v : Value} {d : DataW H} {p : List MemPlace} (hval : Value.okWide Try.prog W .any base 28 v) (hd : DataW.Trod enc Try.prog W 0 (fun _ => true) true 28 v d p) :
    ∃ (a : Option Addr) (len cap : Nat) (ss : List ByteArray), v = .slice a len cap ∧ Zs.IsRowV W a len cap (ss.map Value.string) ∧ (ss.take len).length = len := by
  obtain ⟨a, len, cap, rfl⟩ := okWide_slice Try.underlying28 hval
  obtain ⟨fuel, hf⟩ := hd
  rcases open_strings Try.underlying28 Try.underlying9 (by kernel_rfl) hf with ⟨hcs, _⟩ | ⟨x, l, c, ss, hcs, _, hl, hm, hz, _, hcell, hwz⟩
  · simp [Value.cells] at hcs
    obtain ⟨rfl, rfl, rfl⟩ := hcs
    exact ⟨_, _, _, [], rfl, .inl ⟨rfl, rfl, rfl⟩, rfl⟩
  · simp [Value.cells] at hcs
    obtain ⟨rfl, rfl, rfl⟩ := hcs
    obtain ⟨h1, h2⟩ := Zs.okWide_row Try.underlying28 hval
    have hz' : ss.length = cap := by simpa using hz
    refine ⟨_, _, _, ss, rfl, .inr ⟨x, rfl, h1, h2, hl, by simpa using hz', fun i hi => ?_⟩, by rw [List.length_take]; omega⟩
    rw [hcell i (by omega), List.getElem?_map, List.getD_eq_getElem?_getD, List.getElem?_eq_getElem (by omega)]
    rfl

/-! ### THE ROW's STEP -/
set_option maxRecDepth 100000 in
theorem lifted (os : Os) (started : os.Started) (H : Type) (enc : TypeId × Value → H) :
    ReturnsInHanded {} Try.checked os 4 .any (Rows.walGoesSpec.pre6 enc Try.prog Try.f4 Rows.walGoesRow.domain false) (Rows.walGoesSpec.post enc Try.prog Try.f4 false true false false) := by
  refine returnsInHanded_of_change (C := Try.checked) own started (by kernel_rfl) Try.func4
    (ChangeSpec.witness6 (enc := enc) (C := Try.checked) false ⟨#[], #[.slice none 0 0, .slice none 0 0], []⟩ 8 (by kernel_rfl) (by kernel_rfl) (by kernel_rfl) (by kernel_rfl)) ?_
  intro W base args ds gs before hval0 hW hcnd _
  have hval : ∀ (j : Nat) t v, Try.f4.params[j]? = some t → args[j]? = some v → Value.okWide Try.prog W .any base t v := hval0
  have hW' := hW
  obtain ⟨p, q, hA0, hV, rfl, hfz, hnd⟩ := hW
  have hA : DataW.TrodAll enc Try.prog W 0 (fun _ => true) true Try.f4.params.toList args.toList ds p := hA0
  rw [Try.params4] at hA hval
  obtain ⟨v0, vs0, d0, ds0, p0, q0, hargs, rfl, rfl, h0, r0⟩ := trodAll_cons hA
  obtain ⟨v1, vs1, d1, ds1, p1, q1, rfl, rfl, rfl, h1, r1⟩ := trodAll_cons r0
  obtain ⟨rfl, rfl, rfl⟩ := trodAll_nil r1
  obtain rfl : args = #[v0, v1] := by cases args; simp_all
  obtain ⟨rfl, rfl⟩ := trodVars_none hV
  have k0 := h0
  have k1 := h1
  have lt0 : ∀ x ∈ p0, x.block < W.heap.size := by obtain ⟨m, hm⟩ := k0; exact DataW.trod_lt m _ _ _ hm
  have lt1 : ∀ x ∈ p1, x.block < W.heap.size := by obtain ⟨m, hm⟩ := k1; exact DataW.trod_lt m _ _ _ hm
  obtain ⟨a0, len0, cap0, s0, rfl, w0, z0⟩ := row_of (hval 0 28 v0 rfl rfl) h0
  obtain ⟨a1, len1, cap1, s1, rfl, w1, z1⟩ := row_of (hval 1 28 v1 rfl rfl) h1
  clear hA0 hval0
  refine (walk a0 len0 cap0 s0 a1 len1 cap1 s1 W w0 w1 z0 z1).mono fun e W' ⟨he, bel⟩ => ?_
  subst he
  exact ⟨_, rfl, _, _, _, [], _, [], hW', trodAll_mk1 (shut_bool Try.underlying4 _), (trodAll_cons_mk (Below.trod laidOut (by kernel_rfl) (of_decide_eq_true (by kernel_rfl)) k0 bel lt0) (trodAll_cons_mk (Below.trod laidOut (by kernel_rfl) (of_decide_eq_true (by kernel_rfl)) k1 bel lt1) trodAll_mk0)), rfl, bel.frame _, fun h => by cases h⟩

theorem over : Rows.walGoesRow.holds Try.pinned (OpenSpec.ofChange Rows.walGoesSpec) :=
  OpenClaim.holds_of_wide 4 Try.f4 rfl rfl rfl rfl rfl rfl rfl ⟨rfl, rfl, rfl, rfl, rfl⟩ rfl rfl rfl rfl rfl (by kernel_rfl) Try.func4 (by kernel_rfl)
    (of_decide_eq_true (by kernel_rfl)) (by unfold Func.isWrapper; first | (rw [if_pos (by decide +kernel)]; kernel_rfl) | (rw [if_neg (by decide +kernel)]; exact ⟨rfl, rfl⟩))
    (fun os started H enc _ => lifted os started H enc)
end Go.Proofs.Ytkgglkoooldodaa.walGoes

namespace Go.Proofs.Ytkgglkoooldodaa
theorem walGoes_holds : Rows.WalGoesSaid := walGoes.over
end Go.Proofs.Ytkgglkoooldodaa
