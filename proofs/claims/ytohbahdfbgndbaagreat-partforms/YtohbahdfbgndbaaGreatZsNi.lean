/- A sound evaluator for the model's programs: iterators over maps. -/
import Derived.Test.YtohbahdfbgndbaaGreatZsN
namespace Go.Zs
open Go Go.RowKit

section
variable {w0 : Base} {ι : Emb} {h : Heap} {w : World} {E : Env}

theorem run_getIter {P : Program} {b : Nat} {m : Option Nat} {x l : Nat} {s : Array Nat} (hb : w.heap[b]? = some (.mapIter m x s l)) : (getObj b).run P w = .ok (.mapIter m x s l) w := by
  simp only [getObj, Sem.run, hb]

theorem run_setIter {P : Program} {b : Nat} {m : Option Nat} {x l : Nat} {s : Array Nat} {o' : Obj} (hb : w.heap[b]? = some (.mapIter m x s l)) : (setObj b o').run P w = .ok () { w with heap := w.heap.setIfInBounds b o' } := by
  simp only [setObj, Sem.run, hb]

theorem range_sound (H : HR w0 ι h w) {t : TypeId} {x : V} {x' : Value} {r : V × Heap} (hx : VR ι x x') (hd : dRange E t x h = some r) : SemOK E.P w0 ι (Instr.range t x') w r := by
  unfold dRange at hd
  split at hd
  · rename_i k e hu
    cases hd; cases hx
    refine ⟨_, _, _, H.le_add ⟨w.heap.size, 0, 0⟩, H.new (o := .iter none 0 [] 0) (o' := .mapIter none 0 #[] 0) (p := ⟨w.heap.size, 0, 0⟩) rfl ⟨none, heap_alloc_new _ _, rfl, rfl⟩, .ptr (Emb.add_same ..), ?_⟩
    simp only [Instr.range, Sem.run_bind, run_und hu, Result.andThen_ok, Sem.run_pure]
    rfl
  · rename_i k e i hu
    split at hd
    · rename_i es bs cl hg
      cases hd
      cases hx with
      | @map _ p hp =>
      obtain ⟨q, hq, es', clock, hb, he, hbs, hcl⟩ := H.obj _ _ hg
      rw [hp] at hq; cases hq
      subst hcl
      refine ⟨_, _, _, H.le_add ⟨w.heap.size, 0, 0⟩, H.new (o := .iter (some i) clock [] clock) (o' := .mapIter (some p.blk) clock #[] clock) (p := ⟨w.heap.size, 0, 0⟩) rfl ⟨_, heap_alloc_new _ _, rfl, p, hp, rfl⟩, .ptr (Emb.add_same ..), ?_⟩
      simp only [Instr.range, Sem.run_bind, run_und hu, Result.andThen_ok, Sem.run_pure, run_getMap hb]
      rfl
    · cases hd
  · cases hd

theorem byStamp_find {b : Nat} : ∀ {es : List (V × V)} {bs : List Nat} {es' : List MapEntry} {e : V × V}, EsR ι es es' → es'.map (·.born) = bs → byStamp b es bs = some e → ∃ e', es'.find? (·.born == b) = some e' ∧ VR ι e.1 e'.key ∧ VR ι e.2 e'.val
  | _, _, _, _, .nil, hb, hd => by subst hb; simp [byStamp] at hd
  | _, _, _, e, .cons (e := e0) hk hv t, hb, hd => by
    subst hb
    simp only [List.map_cons, byStamp] at hd
    by_cases hc : e0.born = b
    · rw [T.beq_true hc, cond_true] at hd
      cases hd
      exact ⟨e0, by simp [hc], hk, hv⟩
    · rw [T.beq_false hc, cond_false] at hd
      obtain ⟨e', h1, h2⟩ := byStamp_find t rfl hd
      exact ⟨e', by simp [hc, h1], h2⟩

theorem entry_sound (H : HR w0 ι h w) {x : V} {x' : Value} {v : V} (hx : VR ι x x') (hd : dEntry x h = some v) : Quiet E.P ι (Instr.entry x') w v := by
  unfold dEntry at hd
  split at hd
  · rename_i j
    split at hd
    · rename_i m since seen last hgi
      split at hd
      · rename_i es bs cl hg
        obtain ⟨hcl1, hd1⟩ := bif_some hd
        obtain ⟨b, hlast, hd2⟩ := bind_some hd1
        obtain ⟨e, he, hd3⟩ := map_some hd2
        cases hx with
        | @ptr _ _ p hp =>
        obtain ⟨q, hq, mb, hbi, hbase, q2, hq2, hmb⟩ := H.obj _ _ hgi
        rw [hp] at hq; cases hq
        obtain ⟨q3, hq3, es', clock, hb, hes, hbs, hcl⟩ := H.obj _ _ hg
        rw [hq2] at hq3; cases hq3
        subst hmb
        obtain ⟨e', h1, h2, h3⟩ := byStamp_find hes hbs he
        have h1' : es'.find? (·.born == b) = some e' := by rw [← Array.find?_toList]; exact h1
        have hll : cl = last := Nat.eq_of_beq_eq_true hcl1
        subst hll; subst hcl
        refine ⟨.tuple #[e'.key, e'.val], ?_, by rw [← hd3]; exact .tup (.cons h2 (.cons h3 .nil))⟩
        rw [hbase]
        simp only [Instr.entry, Sem.run_bind, run_getIter hbi, Result.andThen_ok, List.back?_toArray, hlast, run_getMap hb, bne_self_eq_false, Bool.false_eq_true, if_false, h1', Sem.run_pure]
      · cases hd
    · cases hd
  · cases hd

/-- Entries that are left stand for entries that are left. -/
inductive LsR (ι : Emb) : List (V × V × Nat) → List MapEntry → Prop
  | nil : LsR ι [] []
  | cons {k v : V} {e : MapEntry} {l : List (V × V × Nat)} {l' : List MapEntry} (hk : VR ι k e.key) (hv : VR ι v e.val) (t : LsR ι l l') : LsR ι ((k, v, e.born) :: l) (e :: l')

theorem LsR.get : ∀ {l : List (V × V × Nat)} {l' : List MapEntry}, LsR ι l l' → ∀ (j : Nat) (hj : j < l'.length), ∃ k v, (k, v, l'[j].born) ∈ l ∧ VR ι k l'[j].key ∧ VR ι v l'[j].val
  | _, _, .nil, j, hj => by simp at hj
  | _, _, .cons hk hv t, 0, _ => ⟨_, _, List.mem_cons_self .., hk, hv⟩
  | _, _, .cons hk hv t, j + 1, hj => by
    obtain ⟨k, v, h1, h2, h3⟩ := t.get j (by simpa using hj)
    exact ⟨k, v, List.mem_cons_of_mem _ h1, h2, h3⟩

theorem LsR.length : ∀ {l : List (V × V × Nat)} {l' : List MapEntry}, LsR ι l l' → l.length = l'.length
  | _, _, .nil => rfl
  | _, _, .cons _ _ t => by simp [t.length]

theorem any_beq (seen : List Nat) (c : Nat) : seen.any (Nat.beq c) = seen.contains c := by
  induction seen with
  | nil => rfl
  | cons a l ih =>
    simp only [List.any_cons, List.contains_cons, ih]
    congr 1
    by_cases hc : c = a
    · subst hc; simp
    · rw [T.beq_false hc]; simp [hc]

theorem leftB_spec {seen : List Nat} : ∀ {es : List (V × V)} {bs : List Nat} {es' : List MapEntry}, EsR ι es es' → es'.map (·.born) = bs → LsR ι (leftB seen es bs) (es'.filter fun e => !seen.contains e.born)
  | _, _, _, .nil, hb => by subst hb; exact .nil
  | _, _, _, .cons (e := e0) hk hv t, hb => by
    subst hb
    have ih := leftB_spec (seen := seen) t rfl
    simp only [List.map_cons, leftB, any_beq]
    rw [List.filter_cons]
    cases hc : seen.contains e0.born with
    | true => simpa using ih
    | false => simpa using LsR.cons hk hv ih

/-- The next step of an iterator is one of those reckoned. -/
theorem nexts_sound (H : HR w0 ι h w) {x : V} {x' : Value} {outs : List (V × Heap)} (ty : TypeId) (hx : VR ι x x') (hd : dNexts x h = some outs) :
    ∃ o ∈ outs, ∃ v' w', (Instr.next x' false ty).run E.P w = .ok v' w' ∧ HR w0 ι o.2 w' ∧ VR ι o.1 v' := by
  unfold dNexts at hd
  split at hd
  · rename_i j
    split at hd
    · rename_i a b c hgi
      cases hd
      cases hx with
      | @ptr _ _ p hp =>
      obtain ⟨q, hq, mb, hbi, hbase, hmb⟩ := H.obj _ _ hgi
      rw [hp] at hq; cases hq
      subst hmb
      refine ⟨_, List.mem_singleton.2 rfl, .tuple #[.bool false], w, ?_, H, .tup (.cons (.bool false) .nil)⟩
      rw [hbase]
      simp only [Instr.next, Sem.run_bind, run_getIter hbi, Result.andThen_ok, Sem.run_pure]
    · rename_i m since seen last hgi
      split at hd
      · rename_i es bs cl hg
        obtain ⟨hchk, hd1⟩ := bif_some hd
        rw [Bool.and_eq_true] at hchk
        cases hx with
        | @ptr _ _ p hp =>
        obtain ⟨q, hq, mb, hbi, hbase, q2, hq2, hmb⟩ := H.obj _ _ hgi
        rw [hp] at hq; cases hq
        obtain ⟨q3, hq3, es', clock, hb, hes, hbs, hcl⟩ := H.obj _ _ hg
        rw [hq2] at hq3; cases hq3
        subst hmb; subst hcl
        have hold : ∀ x ∈ es'.toList, x.born < since := by
          intro x hx
          have h1 := List.all_eq_true.1 hchk.1 x.born (by rw [← hbs]; exact List.mem_map_of_mem hx)
          exact blt h1
        have hsl : since ≤ last := ble hchk.2
        have htest : (!seen.toArray.isEmpty && !es'.isEmpty && es'.all (fun x => decide (x.born ≥ last))) = false := by
          cases hemp : es'.isEmpty with
          | true => simp
          | false =>
            have hall : es'.all (fun x => decide (x.born ≥ last)) = false := by
              rw [Bool.eq_false_iff]
              intro hh
              rw [Array.all_eq_true_iff_forall_mem] at hh
              have h0 : 0 < es'.size := by
                rcases Nat.eq_zero_or_pos es'.size with h0 | h0
                · simp [Array.isEmpty, h0] at hemp
                · exact h0
              have hm : es'[0] ∈ es' := Array.getElem_mem h0
              have h1 := hh _ hm
              have h2 := hold es'[0] (by simp)
              simp at h1
              omega
            simp [hall]
        have hls := leftB_spec (seen := seen) hes hbs
        have hL : ∀ e, seen.toArray.contains e = seen.contains e := fun e => by simp
        rw [hbase]
        simp only [Instr.next, Sem.run_bind, run_getIter hbi, run_getMap hb, Result.andThen_ok, htest, Bool.false_eq_true, if_false, hL]
        have hLl : (es'.filter fun e => !seen.contains e.born).toList = es'.toList.filter fun e => !seen.contains e.born := by simp
        have hmem : ∀ x ∈ (es'.filter fun e => !seen.contains e.born).toList, x.born < since := fun x hx => hold x (by rw [hLl] at hx; exact (List.mem_filter.1 hx).1)
        rw [← hLl] at hls
        generalize (es'.filter fun e => !seen.contains e.born) = L at hls hmem
        have e1 : L.filter (fun x => decide (x.born < since)) = L := Array.filter_eq_self.2 (fun x hx => by simpa using hmem x (by simpa using hx))
        have e2 : L.filter (fun x => decide (x.born ≥ since)) = #[] := by
          rw [Array.filter_eq_empty_iff]
          intro x hx
          have := hmem x (by simpa using hx)
          simp
          omega
        simp only [e1, e2, Array.append_empty]
        split at hd1
        · rename_i hl
          cases hd1
          rw [hl] at hls
          have : L = #[] := by
            have := hls.length
            exact Array.eq_empty_of_size_eq_zero (by simpa using this.symm)
          subst this
          refine ⟨_, List.mem_singleton.2 rfl, .tuple #[.bool false], w, ?_, H, .tup (.cons (.bool false) .nil)⟩
          simp [choose, Sem.run, Question.forced]
        · rename_i hne
          cases hd1
          have hlen := hls.length
          have hpos : 0 < L.size := by
            rcases Nat.eq_zero_or_pos L.size with h0 | h0
            · exfalso
              apply hne
              apply List.eq_nil_of_length_eq_zero
              simpa [h0] using hlen
            · exact h0
          have hemp : L.isEmpty = false := by
            cases he : L.isEmpty with
            | false => rfl
            | true => simp at he; subst he; simp at hpos
          simp only [hemp, Bool.false_eq_true, if_false, Array.empty_append, Array.size_map]
          have hch : ∃ (k : Nat) (w1 : World), k < L.size ∧ HR w0 ι h w1 ∧ w1.heap = w.heap ∧ (choose (Question.mapNext L.size)).run E.P w = .ok k w1 := by
            by_cases hf : L.size ≤ 1
            · exact ⟨0, w, by omega, H, rfl, by simp [choose, Sem.run, Question.forced, hf]⟩
            · exact ⟨_, w.drew, Nat.mod_lt _ (by omega), H.drew, rfl, by
                simp only [choose, Sem.run, Question.forced, decide_eq_true_eq, hf, if_false, Question.cut]
                rfl⟩
          obtain ⟨k, w1, hk, H1, hheap, hrun⟩ := hch
          have hbi1 : w1.heap[p.blk]? = some (.mapIter (some q2.blk) since seen.toArray last) := by rw [hheap]; exact hbi
          obtain ⟨kk, vv, hmm, hvk, hvv⟩ := hls.get k (by simpa using hk)
          simp only [Array.getElem_toList] at hmm hvk hvv
          refine ⟨(.tup [.bool true, kk, vv], h.set j (.iter (some m) since (seen ++ [L[k].born]) clock)), List.mem_map.2 ⟨_, hmm, rfl⟩, .tuple #[.bool true, L[k].key, L[k].val], { w1 with heap := w1.heap.setIfInBounds p.blk (.mapIter (some q2.blk) since (seen.toArray.push L[k].born) clock) }, ?_, ?_, ?_⟩
          · simp only [hrun, Result.andThen_ok, Array.getElem?_map, Array.getElem?_eq_getElem hk, Option.map_some, Sem.run_bind, run_setIter hbi1, Sem.run_pure]
          · exact H1.upd hgi hp rfl (turned_setMap w1 p.blk _) ⟨_, by rw [set_get hbi1]; simp, hbase, q2, hq2, rfl⟩
          · exact .tup (.cons (.bool true) (.cons hvk (.cons hvv .nil)))
      · cases hd
    · cases hd
  · cases hd

end
end Go.Zs
