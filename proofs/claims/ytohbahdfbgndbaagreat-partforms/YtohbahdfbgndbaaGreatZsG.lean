/- A sound evaluator for the model's programs, seventh part: structs, equality, arithmetic, strings. -/
import Derived.Test.YtohbahdfbgndbaaGreatZsF
import Derived.Laws.StructEq
namespace Go.Zs
open Go Go.RowKit

theorem foldl_splice : ∀ (vs : List Value) (off k : Nat) (c : Array Value), off + k + vs.length ≤ c.size →
    ((vs.zipIdx k).foldl (fun (cs : Array Value) (x : Value × Nat) => cs.setIfInBounds (off + x.2) x.1) c).toList = c.toList.take (off + k) ++ vs ++ c.toList.drop (off + k + vs.length)
  | [], off, k, c, _ => by simp [List.take_append_drop]
  | v :: vs, off, k, c, h => by
    simp only [List.length_cons] at h
    rw [List.zipIdx_cons, List.foldl_cons, foldl_splice vs off (k + 1) (c.setIfInBounds (off + k) v) (by simp; omega)]
    apply List.ext_getElem?
    intro j
    have e1 : (c.setIfInBounds (off + k) v).toList = c.toList.set (off + k) v := by simp
    rw [e1, show off + (k + 1) = off + k + 1 from by omega, getElem?_splice _ _ _ _ (by simp; omega), getElem?_splice _ _ _ _ (by simp; omega)]
    simp only [List.length_cons, List.getElem?_set]
    by_cases h1 : j < off + k
    · rw [if_pos (show j < off + k + 1 from by omega), if_pos h1, if_neg (show ¬ off + k = j from by omega)]
    · rw [if_neg h1]
      by_cases h2 : j = off + k
      · subst h2
        rw [if_pos (show off + k < off + k + 1 from by omega), if_pos rfl, if_pos (show off + k < off + k + (vs.length + 1) from by omega), if_pos (by simp; omega)]
        simp
      · rw [if_neg (show ¬ j < off + k + 1 from by omega)]
        by_cases h3 : j < off + k + 1 + vs.length
        · rw [if_pos h3, if_pos (show j < off + k + (vs.length + 1) from by omega), show j - (off + k) = (j - (off + k + 1)) + 1 from by omega]; simp
        · rw [if_neg h3, if_neg (show ¬ j < off + k + (vs.length + 1) from by omega), if_neg (show ¬ off + k = j from by omega)]

/-- Parts stand for parts. -/
inductive PsR (ι : Emb) : List (Nat × V) → List (Nat × Value) → Prop
  | nil : PsR ι [] []
  | cons {i : Nat} {v : V} {v' : Value} {ps : List (Nat × V)} {ps' : List (Nat × Value)} (h : VR ι v v') (t : PsR ι ps ps') : PsR ι ((i, v) :: ps) ((i, v') :: ps')

section
variable {w0 : Base} {ι : Emb} {h : Heap} {w : World} {E : Env}

theorem fill_sound {place : Nat → Option (Nat × Nat)} : ∀ {ps : List (Nat × V)} {ps' : List (Nat × Value)}, PsR ι ps ps' → ∀ {cs : List V} {cs' : Array Value} {r : List V}, VRs ι cs cs'.toList → dFill place cs ps = some r →
    ∃ r', Instr.fill place cs' ps' = some r' ∧ VRs ι r r'.toList
  | _, _, .nil, cs, cs', r, hc, hd => by
    simp only [dFill] at hd; cases hd
    exact ⟨cs', by simp [Instr.fill], hc⟩
  | _, _, .cons (i := i) (v := v) (v' := v') hv t, cs, cs', r, hc, hd => by
    simp only [dFill] at hd
    cases hp : place i with
    | none => rw [hp] at hd; cases hd
    | some os =>
      obtain ⟨off, size⟩ := os
      rw [hp] at hd
      obtain ⟨hb, hd⟩ := bif_some hd
      simp only [Bool.and_eq_true] at hb
      obtain ⟨⟨hpl, hsz⟩, hle⟩ := hb
      have hsz := beq hsz
      have hle := ble hle
      have hvc := hv.cells hpl
      have l1 := hvc.length
      have l2 := hc.length
      simp only [Array.length_toList] at l1 l2
      have hfold : (v'.cells.zipIdx.foldl (fun (cs : Array Value) (x : Value × Nat) => cs.setIfInBounds (off + x.2) x.1) cs').toList = cs'.toList.take off ++ v'.cells.toList ++ cs'.toList.drop (off + v'.cells.toList.length) := by
        have := foldl_splice v'.cells.toList off 0 cs' (by simp; omega)
        rw [← Array.foldl_toList, Array.toList_zipIdx]
        simpa using this
      have hsp := splice_VRs hc hvc off
      rw [← hfold] at hsp
      obtain ⟨r', hr, hv'⟩ := fill_sound t hsp hd
      refine ⟨r', ?_, hv'⟩
      simp only [Instr.fill, hp]
      rw [if_neg (by simp; omega)]
      exact hr

theorem mapM_places {fields : Array Field} {places : List (Nat × Nat)} (hm : (fields.toList.mapM fun f => (sizeB E f.type).map fun n => (f.offset, n)) = some places) :
    (fields.mapM fun f => (do pure (f.offset, ← sizeOf f.type) : Sem (Nat × Nat))).run E.P w = .ok places.toArray w := by
  have key : ∀ (l : List Field) (ps : List (Nat × Nat)), (l.mapM fun f => (sizeB E f.type).map fun n => (f.offset, n)) = some ps →
      (l.mapM fun f => (do pure (f.offset, ← sizeOf f.type) : Sem (Nat × Nat))).run E.P w = .ok ps w := by
    intro l
    induction l with
    | nil => intro ps e; simp at e; subst e; simp
    | cons f l ih =>
      intro ps e
      rw [List.mapM_cons] at e
      obtain ⟨a, ha, e⟩ := bind_some e
      obtain ⟨b, hb, e⟩ := bind_some e
      obtain ⟨n, hn, rfl⟩ := map_some ha
      cases e
      rw [List.mapM_cons]
      simp only [Sem.run_bind, run_size hn, Result.andThen_ok, Sem.run_pure, ih _ hb]
  have := key fields.toList places hm
  rw [← Array.toArray_toList (xs := fields), List.mapM_toArray]
  simp only [Sem.run_map, this, Result.andThen_ok]

theorem build_sound {t : TypeId} {ps : List (Nat × V)} {ps' : Array (Nat × Value)} {v : V} (hps : PsR ι ps ps'.toList) (hd : dBuild E t ps = some v) : Quiet E.P ι (Instr.build t ps') w v := by
  unfold dBuild at hd
  obtain ⟨z, hz, hd⟩ := bind_some hd
  obtain ⟨hpl, hd⟩ := bif_some hd
  obtain ⟨z', hrz, rfl⟩ := run_zero hz
  have hzc := (VR.ofValue (ι := ι) z').cells hpl
  unfold Instr.build
  split at hd
  · rename_i fields hu
    obtain ⟨places, hp, hd⟩ := bind_some hd
    obtain ⟨cs, hcs, rfl⟩ := map_some hd
    obtain ⟨r', hr, hv⟩ := fill_sound hps hzc hcs
    refine ⟨.agg r', ?_, .agg hv⟩
    have e : (fun (x : Nat) => places.toArray[x]?) = (fun (x : Nat) => places[x]?) := by funext x; simp
    simp only [Sem.run_bind, hrz w, Result.andThen_ok, run_und hu, mapM_places (w := w) hp, e, hr, Sem.run_pure]
  · rename_i n e hu
    obtain ⟨s, hs, hd⟩ := bind_some hd
    obtain ⟨cs, hcs, rfl⟩ := map_some hd
    obtain ⟨r', hr, hv⟩ := fill_sound hps hzc hcs
    refine ⟨.agg r', ?_, .agg hv⟩
    simp only [Sem.run_bind, hrz w, Result.andThen_ok, run_und hu, run_size hs, hr, Sem.run_pure]
  · cases hd

/-- Copies of a row of cells, as 'make' and 'append' lay them. -/
theorem copies_sound {z : List V} {z' : Array Value} (hz : VRs ι z z'.toList) (n : Nat) :
    VRs ι (copies z n) ((Array.range (n * z'.size)).map (z'[· % z'.size]!)).toList := by
  have e : ((Array.range (n * z'.size)).map (z'[· % z'.size]!)).toList = (List.range (n * z'.size)).map (z'[· % z'.size]!) := by simp
  rw [e]
  clear e
  induction n with
  | zero => simpa [copies] using VRs.nil
  | succ n ih =>
    have e2 : (List.range ((n + 1) * z'.size)).map (z'[· % z'.size]!) = z'.toList ++ (List.range (n * z'.size)).map (z'[· % z'.size]!) := by
      rw [show (n + 1) * z'.size = z'.size + n * z'.size from by rw [Nat.add_mul]; omega, List.range_add, List.map_append]
      congr 1
      · apply List.ext_getElem?
        intro j
        by_cases hj : j < z'.size
        · simp [hj, Nat.mod_eq_of_lt hj]
        · simp [hj]
      · rw [List.map_map]
        apply List.map_congr_left
        intro j _
        simp
    rw [e2]
    exact hz.append ih

theorem zeros_sound {t : TypeId} {n : Nat} {zs : List V} (hd : zerosB E t n = some zs) :
    ∃ s, sizeB E t = some s ∧ zs.length = n * s ∧ ((n * s = 0 ∧ zs = []) ∨ (n * s ≠ 0 ∧ ∃ z', (∀ w, (zeroValue t).run E.P w = .ok z' w) ∧ z'.cells.size = s ∧ ∀ ι, VRs ι zs ((Array.range (n * z'.cells.size)).map (z'.cells[· % z'.cells.size]!)).toList)) := by
  unfold zerosB at hd
  obtain ⟨s, hs, hd⟩ := bind_some hd
  refine ⟨s, hs, ?_⟩
  cases hb : Nat.beq (n * s) 0 with
  | true =>
    rw [hb] at hd; cases hd
    have := beq hb
    exact ⟨by simp [this], .inl ⟨this, rfl⟩⟩
  | false =>
    rw [hb] at hd
    have hne := bne hb
    obtain ⟨z, hz, hd⟩ := bind_some hd
    obtain ⟨hc, hd⟩ := bif_some hd
    simp only [Bool.and_eq_true] at hc
    obtain ⟨hpl, hl⟩ := hc
    have hl := beq hl
    cases hd
    obtain ⟨z', hr, rfl⟩ := run_zero hz
    have hzc := fun ι => (VR.ofValue (ι := ι) z').cells hpl
    have hsz : z'.cells.size = s := by have := (hzc (fun _ => none)).length; simp at this; omega
    refine ⟨?_, .inr ⟨hne, z', hr, hsz, fun ι => copies_sound (hzc ι) n⟩⟩
    have : ∀ k, (copies (ofValue z').cells k).length = k * s := by
      intro k
      induction k with
      | zero => simp [copies]
      | succ k ih => simp [copies, ih, hl, Nat.add_mul]; omega
    exact this n

end
end Go.Zs
