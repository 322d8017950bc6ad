/- The typed form of 'run': its operations stand for those of 'run'. -/
import Derived.Test.YtohbahdfbgndbaaGreatZsK1
namespace Go.Zs
open Go

section
variable {R : Type} {E : Env} {K : V → Heap → Option R} {h : Heap}

theorem one_cells {v : V} (h : v.one = true) : v.plain = true ∧ v.cells = [v] ∧ isAggV v = false := by
  cases v <;> simp [V.one] at h <;> exact ⟨rfl, rfl, rfl⟩

theorem splice_one {cs : List V} {o : Nat} {v : V} (h : o < cs.length) : splice cs o [v] = cs.set o v := by
  unfold splice
  rw [List.set_eq_take_append_cons_drop, if_pos h]
  simp

theorem ite_some {c : Bool} {x : Option R} {r : R} (h : (bif c then x else none) = some r) : c = true ∧ x = some r := by
  cases c
  · cases h
  · exact ⟨rfl, h⟩

theorem iteB_some {c : Bool} {x : Option R} {r : R} (h : iteB c x none = some r) : c = true ∧ x = some r := by
  cases c
  · cases h
  · exact ⟨rfl, h⟩

theorem bnd_some {α : Type} {x : Option α} {f : α → Option R} {r : R} (h : x.bind f = some r) : ∃ a, x = some a ∧ f a = some r := by
  cases x with
  | none => cases h
  | some a => exact ⟨a, rfl, h⟩

theorem goes_pick {c a b : V} {y : Option (V × Heap)} (hy : y = match c with | .bool true => some (a, h) | .bool false => some (b, h) | _ => none) : Goes (pkK c a b fun v => K v h) y K := by
  intro r hr
  subst hy
  cases c <;> simp only [pkK] at hr <;> try (cases hr; done)
  rename_i x
  cases x
  · exact ⟨_, _, rfl, hr⟩
  · exact ⟨_, _, rfl, hr⟩

theorem fill_goes {place : Nat → Option (Nat × Nat)} {place' : Nat → Option (Nat × Nat × Bool)} (hp : ∀ i off n a, place' i = some (off, n, a) → place i = some (off, n)) {K : List V → Option R} : ∀ (ps : List (Nat × V)) (cs : List V) (r : R),
    fillK place' cs ps K = some r → ∃ cs', dFill place cs ps = some cs' ∧ K cs' = some r
  | [], cs, r, h => ⟨cs, rfl, h⟩
  | (i, v) :: rest, cs, r, h => by
    simp only [fillK] at h
    split at h
    · cases h
    · rename_i off n hpl
      obtain ⟨hn, q1⟩ := iteB_some h
      have := Nat.eq_of_beq_eq_true hn
      subst this
      simp only [fil1] at q1
      obtain ⟨hc, q2⟩ := ite_some q1
      simp only [Bool.and_eq_true] at hc
      obtain ⟨h1, h2, _⟩ := one_cells hc.1
      have hlt : off < cs.length := Nat.le_of_ble_eq_true hc.2
      obtain ⟨cs', e1, e2⟩ := fill_goes hp rest _ r q2
      refine ⟨cs', ?_, e2⟩
      simp only [dFill, hp _ _ _ _ hpl, h1, h2, List.length_singleton, splice_one hlt]
      have : Nat.ble (off + 1) cs.length = true := Nat.ble_eq_true_of_le hlt
      rw [this]
      exact e1
    · rename_i off n hpl
      unfold filA at h
      split at h
      · rename_i vs
        obtain ⟨hc, q2⟩ := ite_some h
        simp only [Bool.and_eq_true] at hc
        have := Nat.eq_of_beq_eq_true hc.1
        subst this
        obtain ⟨cs', e1, e2⟩ := fill_goes hp rest _ r q2
        refine ⟨cs', ?_, e2⟩
        simp only [dFill, hp _ _ _ _ hpl, V.plain, V.cells, Nat.beq_refl, Bool.true_and, hc.2, cond_true]
        exact e1
      · cases h

theorem places_some : ∀ {fields : List Field} {places : List (Nat × Nat × Bool)}, kPlaces E fields = some places → (fields.mapM fun f => (sizeB E f.type).map fun n => (f.offset, n)) = some (places.map fun p => (p.1, p.2.1))
  | [], places, h => by
    simp [kPlaces] at h; subst h; rfl
  | f :: fs, places, h => by
    simp only [kPlaces, List.mapM_cons] at h
    obtain ⟨p, h1, h2⟩ := bnd_some h
    obtain ⟨ps, h3, h4⟩ := bnd_some h2
    cases h4
    obtain ⟨n, h5, h6⟩ := bnd_some h1
    have := places_some (fields := fs) (places := ps) h3
    rw [List.mapM_cons, h5, this]
    cases ha : aggB E f.type with
    | none => rw [ha] at h6; cases h6
    | some a => rw [ha] at h6; cases h6; rfl

theorem load_goes {ty : TypeId} {p : V} {y : Option (V × Heap)} (hy : y = match p with | .ptr (some (i, o)) => keep h (dLoad E ty i o h) | _ => none) : Goes (kLoad E ty p h fun v => K v h) y K := by
  intro r hr
  subst hy
  unfold kLoad at hr
  split at hr
  · rename_i ha
    split at hr
    · rename_i n hn
      unfold ldA at hr
      split at hr
      · obtain ⟨cs, h1, h2⟩ := bnd_some hr
        obtain ⟨h3, h4⟩ := ite_some h2
        refine ⟨_, h, ?_, h4⟩
        simp only [dLoad, h1, ha, hn, h3, Option.bind_some, cond_true]
        rfl
      · cases hr
    · cases hr
  · rename_i ha
    unfold ld1 at hr
    split at hr
    · obtain ⟨cs, h1, h2⟩ := bnd_some hr
      obtain ⟨v, h3, h4⟩ := bnd_some h2
      refine ⟨v, h, ?_, h4⟩
      simp only [dLoad, h1, ha, h3, Option.bind_some, cond_false]
      rfl
    · cases hr
  · cases hr

theorem store_goes {ty : TypeId} {p v : V} {y : Option (V × Heap)} (hy : y = match p with | .ptr (some (i, o)) => asSkip (dStore E ty i o v h) | _ => none) :
    Goes (match aggB E ty, sizeB E ty with | some true, some n => stA n p v h fun h => K .undef h | some false, some n => iteB (Nat.beq n 1) (st1 p v h fun h => K .undef h) none | _, _ => none) y K := by
  intro r hr
  subst hy
  split at hr
  · rename_i n ha hn
    unfold stA at hr
    split at hr
    · split at hr
      · split at hr
        · rename_i i o vs cs k hg
          obtain ⟨h1, h2⟩ := ite_some hr
          simp only [Bool.and_eq_true] at h1
          have := Nat.eq_of_beq_eq_true h1.1.2
          subst this
          refine ⟨_, _, ?_, h2⟩
          simp only [dStore, hn, V.plain, V.cells, Option.bind_some, cond_true, Nat.beq_refl, dStoreCells, hg, h1.1.1.1, h1.1.1.2, h1.2, Bool.and_self]
          rfl
        · cases hr
      · cases hr
    · cases hr
  · rename_i n ha hn
    obtain ⟨h0, hr1⟩ := iteB_some hr
    have := Nat.eq_of_beq_eq_true h0
    subst this
    unfold st1 at hr1
    split at hr1
    · rename_i i o
      split at hr1
      · rename_i cs k hg
        obtain ⟨h1, h2⟩ := ite_some hr1
        simp only [Bool.and_eq_true] at h1
        obtain ⟨g1, g2, _⟩ := one_cells h1.2
        have hlt : o < cs.length := Nat.le_of_ble_eq_true h1.1.2
        refine ⟨_, _, ?_, h2⟩
        have e : Nat.ble (o + 1) cs.length = true := Nat.ble_eq_true_of_le hlt
        simp only [dStore, hn, g1, g2, Option.bind_some, cond_true, List.length_singleton, Nat.beq_refl, dStoreCells, hg, h1.1.1, e, List.all_cons, h1.2, List.all_nil, Bool.and_self, splice_one hlt]
        rfl
      · cases hr1
    · cases hr1
  · cases hr

theorem bin_int {op : BinOp} {xt : TypeId} {k k' : IntKind} {a b : Int} : dBin E op xt (.int k a) (.int k' b) h = intOp op k a k' b := by
  cases op <;> rfl

theorem bin_str {op : BinOp} {xt : TypeId} {a b : List UInt8} : dBin E op xt (.str a) (.str b) h = dStr op a b := by
  cases op <;> rfl

theorem int_goes {op : BinOp} {xt : TypeId} {x y : V} : Goes (intK op x y fun v => K v h) (bif isAggV x && !E.eqs.contains xt then none else keep h (dBin E op xt x y h)) K := by
  intro r hr
  unfold intK at hr
  split at hr
  · split at hr
    · obtain ⟨v, h1, h2⟩ := bnd_some hr
      exact ⟨v, h, by simp only [isAggV, Bool.false_and, cond_false, bin_int, h1]; rfl, h2⟩
    · cases hr
  · cases hr

theorem str_goes {op : BinOp} {xt : TypeId} {x y : V} : Goes (strK op x y fun v => K v h) (bif isAggV x && !E.eqs.contains xt then none else keep h (dBin E op xt x y h)) K := by
  intro r hr
  unfold strK at hr
  split at hr
  · split at hr
    · obtain ⟨v, h1, h2⟩ := bnd_some hr
      exact ⟨v, h, by simp only [isAggV, Bool.false_and, cond_false, bin_str, h1]; rfl, h2⟩
    · cases hr
  · cases hr

/-- '==' and '!=' of what may be nil. -/
theorem ref_goes {xt : TypeId} {x y : V} {q : Option Bool} (hx : ∀ b, q = some b → isAggV x = false ∧ dEqual E 100 xt x y h = some b ∧ (∀ k n, x ≠ .int k n) ∧ ∀ s, x ≠ .str s) (neg : Bool) :
    Goes (refK neg q fun v => K v h) (bif isAggV x && !E.eqs.contains xt then none else keep h (dBin E (bif neg then .neq else .eql) xt x y h)) K := by
  intro r hr
  unfold refK at hr
  obtain ⟨b, h1, h2⟩ := bnd_some hr
  obtain ⟨g1, g2, g3, g4⟩ := hx b h1
  refine ⟨_, h, ?_, h2⟩
  rw [g1]
  simp only [Bool.false_and, cond_false]
  cases neg
  · have : dBin E .eql xt x y h = (dEqual E 100 xt x y h).map .bool := by
      cases x <;> first | rfl | exact absurd rfl (g3 _ _) | exact absurd rfl (g4 _)
    simp only [cond_false, this, g2]
    cases b <;> rfl
  · have : dBin E .neq xt x y h = (dEqual E 100 xt x y h).map fun b => .bool (!b) := by
      cases x <;> first | rfl | exact absurd rfl (g3 _ _) | exact absurd rfl (g4 _)
    simp only [cond_true, this, g2]
    cases b <;> rfl

theorem eqPtr_spec {xt t : TypeId} {s : Nat} {x y : V} (hu : E.P.underlying xt = some (.pointer t)) (hs : sizeB E t = some s) (b : Bool) (hq : eqPtr s x y h = some b) : isAggV x = false ∧ dEqual E 100 xt x y h = some b ∧ (∀ k n, x ≠ .int k n) ∧ ∀ s, x ≠ .str s := by
  unfold eqPtr at hq
  split at hq
  · split at hq
    · refine ⟨rfl, ?_, fun _ _ => (by intro h; cases h), fun _ => (by intro h; cases h)⟩
      split at hq
      · rename_i b'; simp only [dEqual, hu]; exact hq
      · split at hq
        · simp only [dEqual, hu]; exact hq
        · simp only [dEqual, hu, hs, Option.bind_some]; exact hq
    · cases hq
  · cases hq

theorem eqSl_spec {xt t : TypeId} {x y : V} (hu : E.P.underlying xt = some (.slice t)) (b : Bool) (hq : eqSl x y = some b) : isAggV x = false ∧ dEqual E 100 xt x y h = some b ∧ (∀ k n, x ≠ .int k n) ∧ ∀ s, x ≠ .str s := by
  unfold dEqual
  cases x <;> try (cases hq; done)
  cases y <;> try (cases hq; done)
  rename_i a _ _ _ _ b' _ _ _ _
  refine ⟨rfl, ?_, fun _ _ => (by intro h; cases h), fun _ => (by intro h; cases h)⟩
  rw [hu]
  cases a <;> cases b' <;> first | exact hq | cases hq

theorem eqMap_spec {xt t u : TypeId} {x y : V} (hu : E.P.underlying xt = some (.map t u)) (b : Bool) (hq : eqMap x y = some b) : isAggV x = false ∧ dEqual E 100 xt x y h = some b ∧ (∀ k n, x ≠ .int k n) ∧ ∀ s, x ≠ .str s := by
  unfold dEqual
  cases x <;> try (cases hq; done)
  cases y <;> try (cases hq; done)
  rename_i a b'
  refine ⟨rfl, ?_, fun _ _ => (by intro h; cases h), fun _ => (by intro h; cases h)⟩
  rw [hu]
  cases a <;> cases b' <;> first | exact hq | cases hq

theorem eqFn_spec {xt : TypeId} {a b' : Array TypeId} {c : Bool} {x y : V} (hu : E.P.underlying xt = some (.func a b' c)) (b : Bool) (hq : eqFn x y = some b) : isAggV x = false ∧ dEqual E 100 xt x y h = some b ∧ (∀ k n, x ≠ .int k n) ∧ ∀ s, x ≠ .str s := by
  unfold dEqual
  cases x <;> try (cases hq; done)
  all_goals
    cases y <;> try (cases hq; done)
    all_goals
      refine ⟨rfl, ?_, fun _ _ => (by intro h; cases h), fun _ => (by intro h; cases h)⟩
      rw [hu]
      exact hq

end
end Go.Zs
