/- A sound evaluator for the model's programs, twenty-fifth part: what is asked of a program, checked; a law's call out of an evaluation. -/
import Derived.Test.YtohbahdfbgndbaaGreatZsX
import Derived.ChangeSame
import Derived.Below
namespace Go.Zs
open Go Go.RowKit Go.ChangeShapes

/-- Every function below a number whose bit is set is fine. -/
def okAll (E : Env) : Nat → Bool
  | 0 => true
  | n + 1 => (match E.P.funcs[n]? with | some fn => (match fn.body with | some c => !E.fine.testBit n || okCode E c | none => true) | none => true) && okAll E n

theorem okAll_spec {E : Env} : ∀ {n : Nat}, okAll E n = true → ∀ f, f < n → ∀ fn c, E.P.funcs[f]? = some fn → fn.body = some c → E.fine.testBit f = true → okCode E c = true
  | 0, _, f, hf, _, _, _, _, _ => by omega
  | n + 1, h, f, hf, fn, c, h1, h2, h3 => by
    simp only [okAll, Bool.and_eq_true] at h
    rcases Nat.lt_or_ge f n with hlt | hge
    · exact okAll_spec h.2 f hlt fn c h1 h2 h3
    · have : f = n := by omega
      subst this
      have := h.1
      rw [h1] at this
      simp only [h2, h3] at this
      simpa using this

theorem bodyOK_of {E : Env} {n : Nat} (hn : E.P.funcs.size ≤ n) (h : okAll E n = true) : BodyOK E :=
  ⟨fun f fn c h1 h2 h3 => okAll_spec h f (by have := (Array.getElem?_eq_some_iff.1 h1).1; omega) fn c h1 h2 h3⟩

def nameAll (P : Program) : Nat → Bool
  | 0 => true
  | n + 1 => (match P.funcs[n]? with | some fn => !(fn.name == "runtime.NumGoroutine") | none => true) && nameAll P n

theorem nameAll_spec {P : Program} : ∀ {n : Nat}, nameAll P n = true → ∀ f, f < n → ∀ fn, P.funcs[f]? = some fn → (fn.name == "runtime.NumGoroutine") = false
  | 0, _, f, hf, _, _ => by omega
  | n + 1, h, f, hf, fn, h1 => by
    simp only [nameAll, Bool.and_eq_true] at h
    rcases Nat.lt_or_ge f n with hlt | hge
    · exact nameAll_spec h.2 f hlt fn h1
    · have : f = n := by omega
      subst this
      have := h.1
      rw [h1] at this
      simpa using this

theorem sumOK_none {E : Env} (h : ∀ f, E.sum f = none) : SumOK E := fun f g hg => by rw [h] at hg; cases hg

def isTrue : Option (V × Heap) → Bool
  | some (.bool true, _) => true
  | _ => false

theorem isTrue_some {x : Option (V × Heap)} (h : isTrue x = true) : ∃ hp, x = some (.bool true, hp) := by
  unfold isTrue at h
  split at h
  · exact ⟨_, rfl⟩
  · cases h

/-- A law whose evaluation is true returns true, and turns nothing that was there. -/
theorem law_calls {E : Env} (hE : EnvOK E) (hB : BodyOK E) (hS : SumOK E) {f lf k : Nat} {args : List V} (args' : Array Value) (hv : VRs (fun _ => none) args args'.toList) (hr : isTrue (runC E lf k false f args ⟨0, .leaf⟩) = true) (W : World) :
    Calls E.P f args' W (fun e w' => e = .returned (.bool true) ∧ Below W.heap.size W w') := by
  obtain ⟨hp, hr⟩ := isTrue_some hr
  rw [runC_eq] at hr
  have := ((run_sound (lf := lf) hE hB hS k ⟨W, [], [], okRound E⟩ rfl).fn f args ⟨0, .leaf⟩ _ hr).2 (fun _ => none) W args'
    ⟨Below.refl _ _, fun i p h => (by cases h), fun i o h => (by cases h), fun i o p h => (by cases h), fun i j o u p q h => (by cases h), fun b hb => (by cases hb), fun b i o p hb => (by cases hb), List.nodup_nil, fun i hi => (by cases hi)⟩ hv
  refine this.mono fun e w' h => ?_
  obtain ⟨κ, v', h1, h2, h3, h4⟩ := h
  cases h3
  exact ⟨h4, h2.below⟩

section
variable {H : Type} {enc : TypeId × Value → H} {P : Program}

/-- What the row asks behind a call that wrote new blocks alone and handed back no memory. -/
theorem post_of_below {f : Func} {s : ChangeSpec} {apart fresh handsOn again : Bool} {W W' : World} {args : Array Value} {v : Value} {ds gs : List (DataW H)} {before pa pv : List MemPlace}
    (hW : DataW.Whole enc P f.params.toList s.vars apart W args.toList ds gs before)
    (hres : ∀ (b : Nat) (sp : Nat → Bool) (hd : Bool), DataW.TrodAll enc P W' b sp hd f.resultTypes.toList (v.resultList f.resultTypes.size) (s.fn H (ds ++ gs)).results [])
    (hargs : ∀ sp : Nat → Bool, (∀ p ∈ before, sp p.block = true) → DataW.TrodAll enc P W' 0 sp true f.params.toList args.toList (s.fn H (ds ++ gs)).args pa)
    (hvars : ∀ sp : Nat → Bool, (∀ p ∈ before, sp p.block = true) → DataW.TrodVars enc P W' sp s.vars (s.fn H (ds ++ gs)).vars pv)
    (hps : before = pa ++ pv) (hB : Below W.heap.size W W')
    (hok : ∀ (j : Nat) (t : TypeId) (r : Value), f.resultTypes[j]? = some t → (v.resultList f.resultTypes.size)[j]? = some r → Value.okWide P W' .any 0 t r) :
    s.post enc P f apart fresh handsOn again W args v W' := by
  have hlt : ∀ p ∈ before, p.block < W.heap.size := fun p hp => hW.lt p hp
  have hold : ∀ p ∈ before, (fun b => decide (b < W.heap.size)) p.block = true := fun p hp => by simpa using hlt p hp
  refine ⟨ds, gs, before, [], pa, pv, hW, hres _ _ _, hargs _ hold, hvars _ hold, World.keptBut_mono (fun p hp => ⟨hp, ?_⟩) (hB.frame (· ∈ before)), fun _ => ?_⟩
  · rw [hps, List.mem_append] at hp
    exact Or.inr hp
  · obtain ⟨_, _, _, _, _, hz, hn⟩ := hW
    refine ⟨hok, _, _, ([] ++ pa) ++ pv, ⟨[] ++ pa, pv, trodAll_append (hargs _ (fun _ _ => rfl)) (hres _ _ _), hvars _ (fun _ _ => rfl), rfl, ?_, ?_⟩, ?_⟩
    · intro b off hp
      have hm : MemPlace.cell b off ∈ before := by rw [hps]; simpa using hp
      rw [hB.frozen (hlt _ hm)]
      exact hz b off hm
    · intro ha
      have := hn ha
      rw [hps] at this
      simpa using this
    · intro p hp _
      rw [hps]
      simpa using hp
end

end Go.Zs
