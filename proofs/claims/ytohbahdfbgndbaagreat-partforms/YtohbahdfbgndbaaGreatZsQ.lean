/- A sound evaluator for the model's programs, seventeenth part: regions. -/
import Derived.Test.YtohbahdfbgndbaaGreatZsP
namespace Go.Zs
open Go Go.RowKit

section
variable {w0 : Base} {ι : Emb} {h : Heap} {w : World} {E : Env} {n : Nat} {t : Tm} {a : Act} {ro : Option Nat}
variable {Q : Exit → Act → World → Prop}

theorem wanted_sound {ops : Array Oper} {o : Oper} {b : Bool} (T : TR ι n t a.tmps) (hd : wantedV ops o t = some b) : Region.wanted o (yielded ops a.tmps) = b := by
  unfold wantedV at hd
  unfold Region.wanted
  cases hg : o.guard with
  | none => rw [hg] at hd; cases hd; rfl
  | some jw =>
    obtain ⟨j, want⟩ := jw
    rw [hg] at hd
    obtain ⟨d, hdst, hd1⟩ := bind_some hd
    have hv := T.get d
    unfold yielded
    simp only [hdst, Option.bind_some]
    split at hd1
    · rename_i b' heq
      cases hd1
      rw [heq] at hv
      generalize hx : a.tmps.getD d undef = x at hv
      cases hv
      have : a.tmps[d]? = some (.bool b') := by
        rw [Array.getD_eq_getD_getElem?] at hx
        cases hq : a.tmps[d]? with
        | none => rw [hq] at hx; cases hx
        | some y => rw [hq] at hx; simp at hx; rw [hx]
      simp [this]
    · rename_i vs heq
      cases hd1
      rw [heq] at hv
      generalize hx : a.tmps.getD d undef = x at hv
      cases hv
      rename_i cs' _
      rw [Array.getD_eq_getD_getElem?] at hx
      cases hq : a.tmps[d]? with
      | none => simp
      | some y => rw [hq] at hx; simp at hx; subst hx; simp
    · cases hd1

/-- One operation of a region, as the model meets it. -/
theorem step_sound (hE : EnvOK E) {call : CallF} (hc : CallOK E w0 call) (H : HR w0 ι h w) (T : TR ι n t a.tmps) {ops : Array Oper} {i : Nat} {o : Oper} (ho : ops[i]? = some o) {r : V × Heap}
    (hd : dStep E call ops o ⟨t, h⟩ = some r) {K : Act → World → Prop} (hK : ∀ κ w' v', Emb.le ι κ → HR w0 κ r.2 w' → VR κ r.1 v' → K (a.put o.dst v') w') : wpOpIn (Fen ro) 0 E.P ops Q i K a w := by
  unfold dStep at hd
  obtain ⟨b, hb, hd1⟩ := bind_some hd
  have hw := wanted_sound T hb
  unfold wpOpIn
  rw [ho]
  simp only [hw]
  cases b with
  | true =>
    simp only [if_true]
    exact op_sound hE hc H T hd1 hK
  | false =>
    simp only [cond_false] at hd1
    cases hd1
    simp only [Bool.false_eq_true, if_false]
    exact ⟨fun _ _ => trivial, hK ι w Go.undef (Emb.le_refl ι) H VR.undef⟩

theorem ops_sound (hE : EnvOK E) {call : CallF} (hc : CallOK E w0 call) {ops : Array Oper} : ∀ (l : List Oper) (k : Nat), ops.toList.drop k = l → ∀ {ι : Emb} {h : Heap} {w : World} {t : Tm} {a : Act} {s' : St}, HR w0 ι h w → TR ι n t a.tmps →
    dOps E call n ops l ⟨t, h⟩ = some s' → (∀ κ a' w', Emb.le ι κ → HR w0 κ s'.h w' → TR κ n s'.t a'.tmps → a'.defers = a.defers → Q .normal a' w') → wpOpsIn (Fen ro) 0 E.P ops Q (List.range' k l.length) a w
  | [], k, hl, ι, h, w, t, a, s', H, T, hd, hQ => by
    simp only [dOps] at hd
    cases hd
    exact hQ ι a w (Emb.le_refl ι) H T rfl
  | o :: l, k, hl, ι, h, w, t, a, s', H, T, hd, hQ => by
    have ho : ops[k]? = some o := by
      have : (ops.toList.drop k)[0]? = some o := by rw [hl]; rfl
      rw [List.getElem?_drop] at this
      simpa using this
    simp only [dOps] at hd
    obtain ⟨r, hr, hd1⟩ := bind_some hd
    show wpOpsIn (Fen ro) 0 E.P ops Q (k :: List.range' (k + 1) l.length) a w
    rw [wpOpsIn_cons]
    refine step_sound hE hc H T ho hr fun κ w' v' h1 h2 h3 => ?_
    refine ops_sound hE hc l (k + 1) (by rw [← List.drop_drop, hl]; rfl) h2 ((T.mono h1).put o.dst h3) hd1 fun μ a' w'' g1 g2 g3 g4 => hQ μ a' w'' (h1.trans' g1) g2 g3 (g4.trans (by cases o.dst <;> rfl))

theorem region_sound (hE : EnvOK E) {call : CallF} (hc : CallOK E w0 call) {ops : Array Oper} {id : Nat} {s' : St} (H : HR w0 ι h w) (T : TR ι n t a.tmps) (hd : dOps E call n ops ops.toList ⟨t, h⟩ = some s')
    (hQ : ∀ κ a' w', Emb.le ι κ → HR w0 κ s'.h w' → TR κ n s'.t a'.tmps → a'.defers = a.defers → Q .normal a' w') : (Code.region id ops false).wpIn (Fen ro) 0 E.P Q a w := by
  refine wpIn_region ?_
  have := ops_sound (ro := ro) hE hc ops.toList 0 rfl H T hd hQ
  rw [List.range_eq_range']
  simpa using this

end
end Go.Zs
