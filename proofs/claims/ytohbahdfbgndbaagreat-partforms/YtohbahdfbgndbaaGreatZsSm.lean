/- Summaries out of evaluations; one program under two environments. -/
import Derived.Test.YtohbahdfbgndbaaGreatZsK3
namespace Go.Zs
open Go Go.RowKit

theorem HR.later {w0 : Base} {ι : Emb} {h : Heap} {w w' : World} (H : HR w0 ι h w) (B : Below w.heap.size w w') : HR w0 ι h w' := by
  have hb : ∀ k, k < w.heap.size → w'.heap[k]? = w.heap[k]? := B.block
  have hlt : ∀ b, b ∈ w0.g → b.1 < w.heap.size := fun b hb => (Array.getElem?_eq_some_iff.1 (H.gd b hb).2).1
  refine ⟨H.below.trans (B.mono H.below.size), fun i p e => ⟨(H.dom i p e).1, Nat.lt_of_lt_of_le (H.dom i p e).2 B.size⟩, fun i o e => ?_, H.own, H.sep, fun b hm => ⟨(H.gd b hm).1, (hb _ (hlt b hm)).trans (H.gd b hm).2⟩, H.gs, H.gn, H.rv⟩
  obtain ⟨p, h1, h2⟩ := H.obj i o e
  exact ⟨p, h1, h2.same (hb _ (H.dom i p h1).2)⟩

theorem effB_P {E E' : Env} (hP : E.P = E'.P) : effB E = effB E' := by
  funext op
  cases op <;> first | rfl | (simp only [effB, hP])
theorem lateOf_P {E E' : Env} (hP : E.P = E'.P) : lateOf E = lateOf E' := by funext ops; simp only [lateOf, effB_P hP]
theorem okAny_P {E E' : Env} (hP : E.P = E'.P) : okAny E = okAny E' := by
  funext ops
  simp only [okAny, lateOf_P hP]
  split
  · simp only [okRegion, effB_P hP]
  · simp only [okLate, effB_P hP]
theorem okCode_P {E E' : Env} (hP : E.P = E'.P) : okCode E = okCode E' := by
  funext c
  induction c with
  | region id ops draw => cases draw <;> simp only [okCode, okAny_P hP]
  | seq a b iha ihb => simp only [okCode, iha, ihb]
  | cond x a b iha ihb => simp only [okCode, iha, ihb]
  | block id b ih => simp only [okCode, ih]
  | loop b ih => simp only [okCode, ih]
  | scope b ih => simp only [okCode, ih]
  | rangeFunc f ps a b iha ihb => simp only [okCode, iha, ihb]
  | _ => simp only [okCode]
theorem okRound_P {E E' : Env} (hP : E.P = E'.P) : okRound E = okRound E' := by funext c; simp only [okRound, okCode_P hP]
theorem BodyOK.with {E E' : Env} (hP : E.P = E'.P) (hf : E.fine = E'.fine) (h : BodyOK E) : BodyOK E' := by
  refine ⟨fun f fn c h1 h2 h3 => ?_⟩
  rw [← okCode_P hP]
  exact h.fine f fn c (hP ▸ h1) h2 (hf ▸ h3)

/-- What a summary's value promises. -/
def SumAt (E : Env) (f : FuncId) (args : List V) (h : Heap) (r : V × Heap) : Prop :=
  (∃ fn, E.P.funcs[f]? = some fn ∧ fn.body.isSome = true) ∧ ∀ (w0 : Base) ι w (args' : Array Value), w0.ok = okRound E → HR w0 ι h w → VRs ι args args'.toList → Calls E.P f args' w (CallR w0 ι r)

theorem sumAt_P {E E' : Env} (hP : E.P = E'.P) {f : FuncId} {args : List V} {h : Heap} {r : V × Heap} (s : SumAt E f args h r) : SumAt E' f args h r := by
  unfold SumAt at s ⊢
  rw [← hP, ← okRound_P hP]
  exact s

/-- Out of an evaluation. -/
theorem sumAt_run {E : Env} (hE : EnvOK E) (hB : BodyOK E) (hS : SumOK E) {lf k : Nat} {f : FuncId} {args : List V} {h : Heap} {r : V × Heap} (hr : run E lf k false f args h = some r) : SumAt E f args h r :=
  ⟨by
    cases k with
    | zero => cases hr
    | succ k =>
      simp only [run] at hr
      split at hr
      · rename_i g hg
        exact (hS f g hg args h r hr).1
      · obtain ⟨fn, h1, h2⟩ := bind_some hr
        obtain ⟨c, h3, _⟩ := bind_some h2
        exact ⟨fn, h1, by rw [h3]; rfl⟩, fun w0 ι w args' hw H hv => ((run_sound (lf := lf) hE hB hS k w0 hw).fn f args h r hr).2 ι w args' H hv⟩

/-- Of a call without arguments, evaluated where there is nothing: it is the same wherever it is called. -/
theorem sumAt_closed {E : Env} (hE : EnvOK E) (hB : BodyOK E) (hS : SumOK E) {lf k : Nat} {f : FuncId} (hr : isTrue (runC E lf k false f [] ⟨0, .leaf⟩) = true) (h : Heap) : SumAt E f [] h (.bool true, h) := by
  obtain ⟨hp, hr'⟩ := isTrue_some hr
  rw [runC_eq] at hr'
  refine ⟨(sumAt_run hE hB hS hr').1, fun w0 ι w args' hw H hv => ?_⟩
  have h0 : args' = #[] := by
    have := hv.length
    simp at this
    exact Array.eq_empty_of_size_eq_zero this.symm
  subst h0
  refine (law_calls hE hB hS #[] .nil hr w).mono fun e w' he => ?_
  exact ⟨ι, .bool true, Emb.le_refl ι, H.later he.2, .bool true, he.1⟩

end Go.Zs
