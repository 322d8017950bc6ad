/- A sound evaluator for the model's programs, eighteenth part: regions that draw their order. -/
import Derived.Test.YtohbahdfbgndbaaGreatZsQ
namespace Go.Zs
open Go Go.RowKit

section congr
variable {E : Env}

/-- An operation looks at its operands alone. -/
theorem dOp_congr {call : CallF} {op : Op} {t t' : Tm} {h : Heap} (hx : ∀ x ∈ op.operands, ev t x = ev t' x) : dOp E call op t h = dOp E call op t' h := by
  have pairs : ∀ ps : Array (Nat × Operand), (∀ x ∈ ps.map (·.2), ev t x = ev t' x) → (ps.toList.map fun p => (p.1, ev t p.2)) = (ps.toList.map fun p => (p.1, ev t' p.2)) := fun ps hp =>
    List.map_congr_left fun p hm => by
      rw [hp p.2 (Array.mem_map.2 ⟨p, Array.mem_toList_iff.1 hm, rfl⟩)]
  have lst : ∀ xs : Array Operand, (∀ x ∈ xs, ev t x = ev t' x) → xs.toList.map (ev t) = xs.toList.map (ev t') := fun xs hp =>
    List.map_congr_left fun x hm => hp x (Array.mem_toList_iff.1 hm)
  cases op <;> simp only [Op.operands] at hx <;> simp only [dOp]
  case build ty ps => rw [pairs ps fun x hm => hx x (by simpa using hm)]
  case buildSlice ty len ps => rw [pairs ps fun x hm => hx x (by simpa using hm)]
  case makeFunc fn first captured =>
    cases fn <;> simp only
    rw [lst first fun x hm => hx x (by simp [hm]), lst captured fun x hm => hx x (by simp [hm])]
  case slice ty x lo hi mx => cases lo <;> cases hi <;> cases mx <;> simp_all
  case makeMap ty r => cases r <;> rfl
  case call c =>
    unfold dCall
    have hargs := lst c.args fun x hm => hx x (by simp [Call.operands, hm])
    cases hc : c.callee with
    | builtin b => simp only [hargs]
    | value f =>
      have hf := hx f (by simp [Call.operands, hc])
      simp only [hargs, hf]
    | invoke r m => rfl
  all_goals first | rfl | (simp_all; done)

theorem wanted_congr {ops : Array Oper} {o : Oper} {t t' : Tm} (hx : ∀ d ∈ o.looksAt ops, t.get d = t'.get d) : wantedV ops o t = wantedV ops o t' := by
  unfold wantedV
  cases hg : o.guard with
  | none => rfl
  | some jw =>
    obtain ⟨j, want⟩ := jw
    simp only
    cases hd : (ops[j]?).bind (·.dst) with
    | none => rfl
    | some d =>
      simp only [Option.bind_some]
      rw [hx d (by simp [Oper.looksAt, hg, hd])]

theorem dStep_congr {call : CallF} {ops : Array Oper} {o : Oper} {t t' : Tm} {h : Heap} (hx : ∀ d ∈ o.looksAt ops, t.get d = t'.get d) : dStep E call ops o ⟨t, h⟩ = dStep E call ops o ⟨t', h⟩ := by
  unfold dStep
  rw [wanted_congr hx]
  have : dOp E call o.op t h = dOp E call o.op t' h := dOp_congr fun x hm => by
    cases x with
    | tmp d => exact hx d (List.mem_append_left _ (List.mem_filterMap.2 ⟨.tmp d, by simpa using hm, rfl⟩))
    | _ => rfl
  simp only [this]

/-- An operation that may not turn the memory does not. -/
theorem quiet_heap {call : CallF} {op : Op} {t : Tm} {h : Heap} {r : V × Heap} (he : effB E op = false) (hd : dOp E call op t h = some r) : r.2 = h := by
  have kp : ∀ {x : Option V}, keep h x = some r → r.2 = h := fun e => by obtain ⟨v, _, rfl⟩ := map_some e; rfl
  unfold dOp at hd
  split at hd <;> first
    | (cases hd; rfl)
    | exact kp hd
    | (simp [effB] at he; done)
    | (cases hd; done)
    | skip
  · split at hd <;> first | (cases hd; rfl) | cases hd
  · split at hd
    · exact kp hd
    · cases hd
  · split at hd <;> first | (cases hd; rfl) | cases hd
  · obtain ⟨_, hd⟩ := bif_none hd; exact kp hd
  · rename_i s d x
    unfold dConvert at hd
    simp only [effB] at he
    split at hd
    · cases hd; rfl
    · cases hd; rfl
    · rename_i hs hdd hxx; rw [hdd] at he; cases he
    · split at hd
      · cases hd; rfl
      · cases hd
    · split at hd
      · obtain ⟨cs, _, hd1⟩ := bind_some hd
        rw [cond_eq_ite] at hd1
        split at hd1
        · cases hd1; rfl
        · obtain ⟨_, hd2⟩ := bif_some hd1
          obtain ⟨_, _, rfl⟩ := map_some hd2
          rfl
      · cases hd
    · cases hd
  · rename_i c
    unfold dCall at hd
    split at hd
    · rename_i b hb
      obtain ⟨callee, args, ats⟩ := c
      subst hb
      unfold dBuiltin at hd
      split at hd <;> first
        | (simp [effB] at he; done)
        | skip
      · obtain ⟨_, _, hd1⟩ := bind_some hd
        obtain ⟨_, _, rfl⟩ := map_some hd1
        rfl
      · obtain ⟨_, _, rfl⟩ := map_some hd; rfl
      · obtain ⟨_, _, rfl⟩ := map_some hd; rfl
      · cases hd
    · rename_i f hf
      obtain ⟨callee, args, ats⟩ := c
      subst hf
      simp [effB] at he
    · cases hd

theorem dStep_heap {call : CallF} {ops : Array Oper} {o : Oper} {t : Tm} {h : Heap} {r : V × Heap} (he : effB E o.op = false) (hd : dStep E call ops o ⟨t, h⟩ = some r) : r.2 = h := by
  unfold dStep at hd
  obtain ⟨b, _, hd1⟩ := bind_some hd
  cases b with
  | true => exact quiet_heap he hd1
  | false => cases hd1; rfl

end congr

mutual
theorem V.same_eq : ∀ (a b : V), V.same a b = true → a = b
  | .any, b, h => by cases b <;> simp [V.same] at h; rfl
  | .bool a, b, h => by cases b <;> simp [V.same] at h; rw [h]
  | .int j a, b, h => by cases b <;> simp [V.same] at h; rw [h.1, h.2]
  | .str a, b, h => by cases b <;> simp [V.same] at h; rw [beqBytes_iff] at h; rw [eq_of_beq h]
  | .ptr none, b, h => by
    cases b with
    | ptr p => cases p <;> simp [V.same] at h; rfl
    | _ => simp [V.same] at h
  | .ptr (some (a, c)), b, h => by
    cases b with
    | ptr p =>
      cases p with
      | none => simp [V.same] at h
      | some q =>
        obtain ⟨u, v⟩ := q
        simp only [V.same, Bool.and_eq_true] at h
        rw [beq h.1, beq h.2]
    | _ => simp [V.same] at h
  | .sl none l m s e, b, h => by
    cases b with
    | sl p l' m' s' e' =>
      cases p with
      | none =>
        simp only [V.same, Bool.and_eq_true] at h
        rw [beq h.1.1.1, beq h.1.1.2, beq h.1.2, eq_of_beq h.2]
      | some q => simp [V.same] at h
    | _ => simp [V.same] at h
  | .sl (some (a, c)) l m s e, b, h => by
    cases b with
    | sl p l' m' s' e' =>
      cases p with
      | none => simp [V.same] at h
      | some q =>
        obtain ⟨u, v⟩ := q
        simp only [V.same, Bool.and_eq_true] at h
        rw [beq h.1.1.1.1.1, beq h.1.1.1.1.2, beq h.1.1.1.2, beq h.1.1.2, beq h.1.2, eq_of_beq h.2]
    | _ => simp [V.same] at h
  | .map none, b, h => by
    cases b with
    | map p => cases p <;> simp [V.same] at h; rfl
    | _ => simp [V.same] at h
  | .map (some a), b, h => by
    cases b with
    | map p =>
      cases p with
      | none => simp [V.same] at h
      | some q => simp only [V.same] at h; rw [beq h]
    | _ => simp [V.same] at h
  | .fn f x y, b, h => by
    cases b with
    | fn g u v =>
      simp only [V.same, Bool.and_eq_true] at h
      rw [beq h.1.1, V.sames_eq _ _ h.1.2, V.sames_eq _ _ h.2]
    | _ => simp [V.same] at h
  | .nilFn, b, h => by cases b <;> simp [V.same] at h; rfl
  | .agg x, b, h => by
    cases b with
    | agg u => simp only [V.same] at h; rw [V.sames_eq _ _ h]
    | _ => simp [V.same] at h
  | .tup x, b, h => by
    cases b with
    | tup u => simp only [V.same] at h; rw [V.sames_eq _ _ h]
    | _ => simp [V.same] at h
theorem V.sames_eq : ∀ (a b : List V), V.sames a b = true → a = b
  | [], [], _ => rfl
  | [], _ :: _, h => by simp [V.sames] at h
  | _ :: _, [], h => by simp [V.sames] at h
  | a :: x, b :: y, h => by
    simp only [V.sames, Bool.and_eq_true] at h
    rw [V.same_eq _ _ h.1, V.sames_eq _ _ h.2]
end

/-- What the text of a region that draws its order says. -/
structure Fine (E : Env) (ops : Array Oper) (bit : Nat → Nat → Bool) : Prop where
  back : ∀ i o, ops[i]? = some o → ∀ e ∈ o.after, Region.binds .any e = true → e.on < i
  read : ∀ i j o u d, ops[i]? = some o → ops[j]? = some u → u.dst = some d → d ∈ o.looksAt ops → (j < i ∧ bit i j = true) ∨ (i < j ∧ bit j i = true)
  same : ∀ i j o u d, ops[i]? = some o → ops[j]? = some u → u.dst = some d → o.dst = some d → (j < i → bit i j = true) ∧ (i < j → bit j i = true)
  eff : ∀ i j o u, ops[i]? = some o → ops[j]? = some u → effB E o.op = true → effB E u.op = true → (j < i → bit i j = true) ∧ (i < j → bit j i = true)
  /-- What stands ahead of an operation is listed before it may be. -/
  clo : ∀ (L : Nat → Bool), (∀ j u, ops[j]? = some u → L j = true → ∀ e ∈ u.after, Region.binds .any e = true → L e.on = true) →
    ∀ i o, ops[i]? = some o → (∀ e ∈ o.after, Region.binds .any e = true → L e.on = true) → ∀ j, bit i j = true → L j = true

section draw
variable {E : Env} {ops : Array Oper} {N : Nat} {t0 : Tm} {v : Nat → V}

def dstOf (ops : Array Oper) (k : Nat) : Option Tmp := (ops[k]?).bind (·.dst)

/-- The slots behind those operations that are listed, in the text's order. -/
def tmL (ops : Array Oper) (N : Nat) (t0 : Tm) (v : Nat → V) (L : Nat → Bool) : Nat → Tm
  | 0 => t0
  | k + 1 => bif L k then putV N (tmL ops N t0 v L k) (dstOf ops k) (v k) else tmL ops N t0 v L k

def addL (L : Nat → Bool) (i : Nat) : Nat → Bool := fun j => bif decide (j = i) then true else L j

theorem addL_same (L : Nat → Bool) (i : Nat) : addL L i i = true := by simp [addL]
theorem addL_ne (L : Nat → Bool) {i j : Nat} (h : j ≠ i) : addL L i j = L j := by simp [addL, h]

theorem putV_get (t : Tm) (dst : Option Tmp) (u : V) (x : Nat) : (putV N t dst u).get x = if dst = some x ∧ x < N then u else t.get x := by
  cases dst with
  | none => rfl
  | some d =>
    unfold putV
    simp only
    by_cases hd : d < N
    · have e : Nat.blt d N = true := Nat.ble_eq_true_of_le hd
      rw [e, cond_true, Tm.get_put]
      by_cases hx : x = d
      · subst hx; simp [hd]
      · rw [if_neg hx, if_neg (by simp; intro e; exact absurd e.symm hx)]
    · have e : Nat.blt d N = false := by
        cases hb : Nat.blt d N
        · rfl
        · exact absurd (blt hb) hd
      rw [e, cond_false, if_neg]
      rintro ⟨e1, e2⟩
      cases e1
      exact hd e2

theorem tmL_agree {L L' : Nat → Bool} {x : Nat} : ∀ k, (∀ j, j < k → dstOf ops j = some x → L j = L' j) → (tmL ops N t0 v L k).get x = (tmL ops N t0 v L' k).get x
  | 0, _ => rfl
  | k + 1, h => by
    have ih := tmL_agree k fun j hj e => h j (by omega) e
    simp only [tmL]
    by_cases hx : dstOf ops k = some x
    · have := h k (by omega) hx
      rw [this]
      cases L' k
      · exact ih
      · simp only [cond_true]; rw [putV_get, putV_get, ih]
    · have key : ∀ t : Tm, (putV N t (dstOf ops k) (v k)).get x = t.get x := fun t => by rw [putV_get, if_neg (fun e => hx e.1)]
      cases L k <;> cases L' k <;> simp only [cond_true, cond_false, key, ih]

/-- Those ahead of a place alone. -/
theorem tmL_prefix {i : Nat} : ∀ k, i ≤ k → tmL ops N t0 v (fun j => decide (j < i)) k = tmL ops N t0 v (fun _ => true) i := by
  have low : ∀ k, k ≤ i → tmL ops N t0 v (fun j => decide (j < i)) k = tmL ops N t0 v (fun _ => true) k := by
    intro k
    induction k with
    | zero => intro _; rfl
    | succ k ih =>
      intro hk
      have e : decide (k < i) = true := by simp; omega
      simp only [tmL, e, cond_true]
      rw [ih (by omega)]
  intro k hk
  induction k with
  | zero => have : i = 0 := by omega
            subst this; rfl
  | succ k ih =>
    by_cases h : i ≤ k
    · have e : decide (k < i) = false := by simp; omega
      simp only [tmL, e, cond_false]
      exact ih h
    · have : i = k + 1 := by omega
      subst this
      exact low _ (Nat.le_refl _)

/-- One more is listed. -/
theorem tmL_add {L : Nat → Bool} {i : Nat} (hi : L i = false) (hno : ∀ j, i < j → L j = true → dstOf ops j ≠ dstOf ops i ∨ dstOf ops i = none) : ∀ k, i < k → ∀ x,
    (tmL ops N t0 v (addL L i) k).get x = (putV N (tmL ops N t0 v L k) (dstOf ops i) (v i)).get x := by
  have low : ∀ k, k ≤ i → tmL ops N t0 v (addL L i) k = tmL ops N t0 v L k := by
    intro k
    induction k with
    | zero => intro _; rfl
    | succ k ih =>
      intro hk
      simp only [tmL]
      rw [ih (by omega), addL_ne L (show k ≠ i from by omega)]
  intro k hk x
  induction k with
  | zero => omega
  | succ k ih =>
    by_cases h : k = i
    · subst h
      simp only [tmL]
      rw [low k (Nat.le_refl _), addL_same, hi]
      rfl
    · have ih := ih (by omega)
      simp only [tmL]
      rw [addL_ne L h]
      cases hL : L k with
      | true =>
        simp only [cond_true]
        rw [putV_get, putV_get, putV_get, ih, putV_get]
        rcases hno k (by omega) hL with hne | hne
        · by_cases h1 : dstOf ops k = some x ∧ x < N
          · rw [if_pos h1, if_neg, if_pos h1]
            rintro ⟨e, _⟩
            exact hne (h1.1.trans e.symm)
          · rw [if_neg h1, if_neg h1]
        · rw [hne]
          simp
      | false => exact ih

end draw
end Go.Zs
