/- A sound evaluator for the model's programs, twelfth part: maps. -/
import Derived.Test.YtohbahdfbgndbaaGreatZsK
namespace Go.Zs
open Go Go.RowKit

section
variable {w0 : Base} {ι : Emb} {h : Heap} {w : World} {E : Env}

theorem key_sound {b : Bool} : ∀ (d D : Nat), d ≤ D → ∀ (t : TypeId) (v : V) (v' : Value), dKey E d t v = true → VR ι v v' → (Instr.checkKey b D t v').run E.P w = .ok () w
  | 0, _, _, _, _, _, hd, _ => by simp [dKey] at hd
  | d + 1, 0, hle, _, _, _, _, _ => by omega
  | d + 1, D + 1, hle, t, v, v', hd, hv => by
    have ih := key_sound (b := b) d D (by omega)
    unfold dKey at hd
    unfold Instr.checkKey
    split at hd
    · rename_i hu; cases hv <;> simp [run_und hu]
    · rename_i hu; cases hv <;> simp [run_und hu]
    · rename_i hu; cases hv <;> simp [run_und hu]
    · rename_i fields hu
      split at hd
      · rename_i cs
        cases hv with
        | @agg _ cs' hc =>
        simp only [Sem.run_bind, run_und hu, Result.andThen_ok]
        rw [← Array.forIn_toList]
        generalize fields.toList = fs at hd
        clear hu
        induction fs with
        | nil => simp
        | cons f fs ihf =>
          simp only [List.all_cons, Bool.and_eq_true] at hd
          simp only [List.forIn_cons, Sem.run_bind]
          by_cases hn : f.name = "_"
          · have e : ¬ (f.name ≠ "_") := by simpa using hn
            simp only [if_neg e, Sem.run_pure, Result.andThen_ok]
            exact ihf hd.2
          · rw [if_neg hn] at hd
            have hd1 := hd.1
            split at hd1
            · rename_i x hx
              obtain ⟨x', hr, hxv⟩ := part_sound (w := w) hc hx
              have hk := ih _ _ _ hd1 hxv
              have e : f.name ≠ "_" := hn
              simp only [if_pos e, Sem.run_bind, hr, Result.andThen_ok, hk, Sem.run_pure]
              exact ihf hd.2
            · cases hd1
      · cases hd
    · cases hd

/-- What was found stands for what is found. -/
inductive FR (ι : Emb) : Option (Nat × V) → Option (Nat × Value) → Prop
  | none : FR ι none none
  | some {i : Nat} {v : V} {v' : Value} (h : VR ι v v') : FR ι (some (i, v)) (some (i, v'))

theorem findAsking_sound (hE : EnvOK E) (H : HR w0 ι h w) {t : TypeId} {k : V} {k' : Value} (hk : VR ι k k') : ∀ {es : List (V × V)} {es' : List MapEntry}, EsR ι es es' → ∀ {i : Nat} {r : Option (Nat × V)}, dFind E t k h es i = some r →
    ∃ r', (Instr.findAsking t k' es' i).run E.P w = .ok r' w ∧ FR ι r r'
  | _, _, .nil, i, r, hd => by simp only [dFind] at hd; cases hd; exact ⟨none, rfl, .none⟩
  | _, _, .cons (k := a) (v := b) hka hva t', i, r, hd => by
    simp only [dFind] at hd
    obtain ⟨s, hs, hd⟩ := bind_some hd
    have hr := equalV_sound hE H hs hk hka
    simp only [Instr.findAsking, Sem.run_bind, hr, Result.andThen_ok]
    cases s with
    | true => cases hd; exact ⟨_, rfl, .some hva⟩
    | false => exact findAsking_sound hE H hk t' hd

theorem sameNow_eq {t : TypeId} {d : TypeDesc} (hu : E.P.underlying t = some d) {k a : V} {k' a' : Value} {s b : Bool} (hk : VR ι k k') (ha : VR ι a a') (hn : Instr.sameNow d k' a' = some b) (hs : dEqual E 100 t k a h = some s) : s = b := by
  unfold dEqual at hs
  rw [hu] at hs
  unfold Instr.sameNow at hn
  split at hn
  · split at hn
    · rename_i hkk
      cases hn
      cases hk with
      | int =>
        cases ha with
        | int =>
          simp only at hs
          rw [if_pos hkk] at hs
          cases hs
          rfl
        | any => simp at hs
      | any => simp at hs
    · cases hn
  · cases hn
    cases hk with
    | str =>
      cases ha with
      | str =>
        simp only at hs
        cases hs
        rw [beqBytes_iff, beq_toListBytes, toList_data, toList_data]
      | any => simp at hs
    | any => simp at hs
  · cases hn
    cases hk with
    | bool =>
      cases ha with
      | bool => simp only at hs; cases hs; rfl
      | any => simp at hs
    | any => simp at hs
  · cases hn

theorem findNow_sound {t : TypeId} {d : TypeDesc} (hu : E.P.underlying t = some d) {k : V} {k' : Value} (hk : VR ι k k') : ∀ {es : List (V × V)} {es' : List MapEntry}, EsR ι es es' → ∀ {i : Nat} {r : Option (Nat × V)} {q : Option (Nat × Value)},
    dFind E t k h es i = some r → Instr.findNow d k' es' i = some q → FR ι r q
  | _, _, .nil, i, r, q, hd, hn => by simp only [dFind] at hd; simp only [Instr.findNow] at hn; cases hd; cases hn; exact .none
  | _, _, .cons (k := a) (v := b) hka hva t', i, r, q, hd, hn => by
    simp only [dFind] at hd
    simp only [Instr.findNow] at hn
    obtain ⟨s, hs, hd⟩ := bind_some hd
    split at hn
    · rename_i hsame
      have := sameNow_eq hu hk hka hsame hs
      subst this
      cases hd; cases hn; exact .some hva
    · rename_i hsame
      have := sameNow_eq hu hk hka hsame hs
      subst this
      exact findNow_sound hu hk t' hd hn
    · cases hn

theorem findKey_sound (hE : EnvOK E) (H : HR w0 ι h w) {t : TypeId} {d : TypeDesc} (hu : E.P.underlying t = some d) {k : V} {k' : Value} (hk : VR ι k k') {es : List (V × V)} {es' : List MapEntry} (he : EsR ι es es') {r : Option (Nat × V)} (hd : dFind E t k h es 0 = some r) :
    ∃ r', (Instr.findKey t k' es').run E.P w = .ok r' w ∧ FR ι r r' := by
  unfold Instr.findKey
  simp only [Sem.run_bind, run_und hu, Result.andThen_ok]
  split
  · rename_i q hq
    exact ⟨q, rfl, findNow_sound hu hk he hd hq⟩
  · exact findAsking_sound hE H hk he hd

theorem run_getMap {P : Program} {b : Nat} {es : Array MapEntry} {clock : Nat} (hb : w.heap[b]? = some (.map es clock)) : (getObj b).run P w = .ok (.map es clock) w := by
  simp [getObj, Sem.run, hb]

theorem run_setMap {P : Program} {b : Nat} {es es2 : Array MapEntry} {clock c2 : Nat} (hb : w.heap[b]? = some (.map es clock)) : (setObj b (.map es2 c2)).run P w = .ok () { w with heap := w.heap.setIfInBounds b (.map es2 c2) } := by
  simp [setObj, Sem.run, hb]

theorem turned_setMap (w : World) (b : Nat) (o : Obj) : Turned w { w with heap := w.heap.setIfInBounds b o } b :=
  ⟨rfl, rfl, rfl, by simp, fun k hk => by simp [Ne.symm hk]⟩

theorem set_get {w : World} {b : Nat} {o o' : Obj} (hb : w.heap[b]? = some o') : ({ w with heap := w.heap.setIfInBounds b o } : World).heap[b]? = some o := by
  have : b < w.heap.size := (Array.getElem?_eq_some_iff.1 hb).1
  simp [this]

theorem EsR.setVal : ∀ {es : List (V × V)} {es' : List MapEntry}, EsR ι es es' → ∀ (j : Nat) {k v : V} {k' v' : Value}, VR ι k k' → VR ι v v' → EsR ι (Zs.setVal es j k v) (es'.modify j fun e => { e with key := k', val := v' })
  | _, _, .nil, j, _, _, _, _, _, _ => by simpa [Zs.setVal] using EsR.nil
  | _, _, .cons hk hv t, 0, _, _, _, _, hk2, hv2 => by simpa [Zs.setVal] using EsR.cons hk2 hv2 t
  | _, _, .cons hk hv t, j + 1, _, _, _, _, hk2, hv2 => by simpa [Zs.setVal] using EsR.cons hk hv (t.setVal j hk2 hv2)

theorem born_modify {k v : Value} : ∀ (l : List MapEntry) (j : Nat), (l.modify j fun e => { e with key := k, val := v }).map (·.born) = l.map (·.born)
  | [], j => by simp
  | _ :: _, 0 => by simp
  | _ :: l, j + 1 => by simpa using born_modify l j

theorem born_erase : ∀ (l : List MapEntry) (j : Nat), (l.eraseIdx j).map (·.born) = (l.map (·.born)).eraseIdx j
  | [], j => by simp
  | _ :: _, 0 => by simp
  | _ :: l, j + 1 => by simpa using born_erase l j

theorem EsR.dropAt : ∀ {es : List (V × V)} {es' : List MapEntry}, EsR ι es es' → ∀ (j : Nat), EsR ι (Zs.dropAt es j) (es'.eraseIdx j)
  | _, _, .nil, j => by simpa [Zs.dropAt] using EsR.nil
  | _, _, .cons hk hv t, 0 => by simpa [Zs.dropAt] using t
  | _, _, .cons hk hv t, j + 1 => by simpa [Zs.dropAt] using EsR.cons hk hv (t.dropAt j)

theorem EsR.snoc : ∀ {es : List (V × V)} {es' : List MapEntry}, EsR ι es es' → ∀ {k v : V} {e : MapEntry}, VR ι k e.key → VR ι v e.val → EsR ι (es ++ [(k, v)]) (es' ++ [e])
  | _, _, .nil, _, _, _, hk, hv => .cons hk hv .nil
  | _, _, .cons hk hv t, _, _, _, hk2, hv2 => .cons hk hv (t.snoc hk2 hv2)

theorem EsR.get : ∀ {es : List (V × V)} {es' : List MapEntry}, EsR ι es es' → ∀ {j : Nat} {k v : V}, es[j]? = some (k, v) → ∃ e, es'[j]? = some e ∧ VR ι k e.key ∧ VR ι v e.val
  | _, _, .nil, j, _, _, h => by simp at h
  | _, _, .cons hk hv t, 0, _, _, h => by simp at h; obtain ⟨rfl, rfl⟩ := h; exact ⟨_, rfl, hk, hv⟩
  | _, _, .cons hk hv t, j + 1, _, _, h => by simpa using t.get (by simpa using h)

theorem EsR.length : ∀ {es : List (V × V)} {es' : List MapEntry}, EsR ι es es' → es.length = es'.length
  | _, _, .nil => rfl
  | _, _, .cons _ _ t => by simp [t.length]

theorem beqCell_bits {a b : V} {a' b' : Value} (h : beqCell a b = true) (ha : VR ι a a') (hb : VR ι b b') (n : Nat) : Instr.sameBits n a' b' = true := by
  unfold beqCell at h
  split at h
  · cases ha; cases hb; simpa [Instr.sameBits] using h
  · cases ha; cases hb; simpa [Instr.sameBits] using h
  · cases ha; cases hb
    rw [beqBytes_iff] at h
    simp only [Instr.sameBits]
    rw [beq_toListBytes, toList_data, toList_data]
    exact h
  · cases h

theorem beqCells_bits : ∀ {a b : List V} {a' b' : List Value}, beqCells a b = true → VRs ι a a' → VRs ι b b' → ∀ n, a'.length = b'.length ∧ (a'.zip b').all (fun x => Instr.sameBits n x.1 x.2) = true
  | _, _, _, _, h, .nil, .nil, n => by simp
  | _, _, _, _, h, .nil, .cons _ _, n => by simp [beqCells] at h
  | _, _, _, _, h, .cons _ _, .nil, n => by simp [beqCells] at h
  | _, _, _, _, h, .cons ha ta, .cons hb tb, n => by
    simp only [beqCells, Bool.and_eq_true] at h
    have := beqCells_bits h.2 ta tb n
    simp [this.1, beqCell_bits h.1 ha hb n]
    simpa using this.2

theorem beqV_bits {a b : V} {a' b' : Value} (h : beqV a b = true) (ha : VR ι a a') (hb : VR ι b b') : Instr.sameBits 10000 a' b' = true := by
  unfold beqV at h
  split at h
  · cases ha with
    | agg ha =>
    cases hb with
    | agg hb =>
    have := beqCells_bits h ha hb 9999
    simp only [Instr.sameBits]
    simp at this
    simp [this.1]
    simpa using this.2
  · exact beqCell_bits h ha hb _

theorem lookup_sound (hE : EnvOK E) (H : HR w0 ι h w) {t : TypeId} {x ix : V} {x' ix' : Value} {ok : Bool} {v : V} (hx : VR ι x x') (hi : VR ι ix ix') (hd : dLookup E t x ix ok h = some v) : Quiet E.P ι (Instr.lookup t x' ix' ok) w v := by
  unfold dLookup at hd
  split at hd
  · rename_i k e hu
    obtain ⟨hk, hd⟩ := bif_some hd
    obtain ⟨es, hes, hd⟩ := bind_some hd
    obtain ⟨r, hr, hd⟩ := bind_some hd
    have hkd : ∃ d, E.P.underlying k = some d := by
      unfold dKey at hk
      cases hq : E.P.underlying k with
      | none => rw [hq] at hk; simp at hk
      | some d => exact ⟨d, rfl⟩
    obtain ⟨kd, hkd⟩ := hkd
    have main : ∀ (vv : V) (vv' : Value) (b : Bool), VR ι vv vv' → v = (bif ok then V.tup [vv, .bool b] else vv) → VR ι v (if ok = true then .tuple #[vv', .bool b] else vv') := by
      intro vv vv' b hvv e
      subst e
      cases ok
      · exact hvv
      · exact .tup (.cons hvv (.cons (.bool b) .nil))
    have tail : ∀ es' : Array MapEntry, EsR ι es es'.toList → Quiet E.P ι (do
        Instr.checkKey es'.isEmpty 10000 k ix'
        let (v, f) ← match ← Instr.findKey k ix' es'.toList with
          | some (_, v) => pure (v, true)
          | none => pure (← zeroValue e, false)
        pure (if ok = true then .tuple #[v, .bool f] else v)) w v := by
      intro es' he
      obtain ⟨r', hf, hfr⟩ := findKey_sound hE H hkd hi he hr
      have hck := key_sound (ι := ι) (w := w) (b := es'.isEmpty) 100 10000 (by omega) k ix ix' hk hi
      cases hfr with
      | some hv =>
        simp only at hd
        exact ⟨_, by simp only [Sem.run_bind, hck, Result.andThen_ok, hf, Sem.run_pure], main _ _ true hv (Option.some.inj hd).symm⟩
      | none =>
        simp only at hd
        obtain ⟨z, hz, hd⟩ := map_some hd
        obtain ⟨z', hzr, rfl⟩ := run_zero hz
        exact ⟨_, by simp only [Sem.run_bind, hck, Result.andThen_ok, hf, hzr w, Sem.run_pure], main _ z' false (VR.ofValue z') hd.symm⟩
    unfold dMapOf at hes
    unfold Instr.lookup
    split at hes
    · cases hes; cases hx
      obtain ⟨v', hr', hv'⟩ := tail #[] .nil
      refine ⟨v', ?_, hv'⟩
      simp only [Sem.run_bind, run_und hu, Result.andThen_ok, Sem.run_pure] at hr' ⊢
      exact hr'
    · rename_i i
      split at hes
      · rename_i es2 bs cl hg
        cases hes
        cases hx with
        | @map _ p hp =>
        obtain ⟨q, hq, es', clock, hb, he, hbs, hcl⟩ := H.obj _ _ hg
        rw [hp] at hq; cases hq
        obtain ⟨v', hr', hv'⟩ := tail es' he
        refine ⟨v', ?_, hv'⟩
        simp only [Sem.run_bind, run_und hu, Result.andThen_ok, run_getMap hb, Sem.run_pure] at hr' ⊢
        exact hr'
      · cases hes
    · cases hes
  · cases hd

end
end Go.Zs
