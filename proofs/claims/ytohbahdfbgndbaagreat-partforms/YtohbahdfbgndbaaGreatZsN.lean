/- A sound evaluator for the model's programs, fourteenth part: the other builtins, conversions, the functions without a body. -/
import Derived.Test.YtohbahdfbgndbaaGreatZsM
namespace Go.Zs
open Go Go.RowKit

section
variable {w0 : Base} {ι : Emb} {h : Heap} {w : World} {E : Env}

theorem HR.same_heap (H : HR w0 ι h w) {w' : World} (ho : w'.os = w.os) (ht : w'.tape = w.tape) (hp : w'.output = w.output) (hs : w'.heap.size = w.heap.size) (hb : ∀ k : Nat, w'.heap[k]? = w.heap[k]?) : HR w0 ι h w' :=
  ⟨H.below.trans ⟨ho, ht, hp, Nat.le_of_eq hs.symm, fun k _ => hb k⟩, fun i p e => by rw [hs]; exact H.dom i p e, fun i o e => let ⟨p, a, b⟩ := H.obj i o e; ⟨p, a, b.same (hb _)⟩, H.own, H.sep, fun b hg => ⟨(H.gd b hg).1, (hb b.1).trans (H.gd b hg).2⟩, H.gs, H.gn, H.rv⟩

theorem mapUpdate_sound (hE : EnvOK E) (H : HR w0 ι h w) {t : TypeId} {x ix v : V} {x' ix' v' : Value} {h' : Heap} (hx : VR ι x x') (hi : VR ι ix ix') (hv : VR ι v v') (hd : dMapUpdate E t x ix v h = some h') :
    ∃ w', (Instr.mapUpdate t x' ix' v').run E.P w = .ok () w' ∧ HR w0 ι h' w' := by
  unfold dMapUpdate at hd
  split at hd
  · rename_i k e i hu
    obtain ⟨hk, hd⟩ := bif_some hd
    have hkd : ∃ d, E.P.underlying k = some d := by
      unfold dKey at hk
      cases hq : E.P.underlying k with
      | none => rw [hq] at hk; simp at hk
      | some d => exact ⟨d, rfl⟩
    obtain ⟨kd, hkd⟩ := hkd
    split at hd
    · rename_i es bs cl hg
      obtain ⟨r, hr, hd⟩ := bind_some hd
      cases hx with
      | @map _ p hp =>
      obtain ⟨q, hq, es', clock, hb, he, hbs, hcl⟩ := H.obj _ _ hg
      rw [hp] at hq; cases hq
      obtain ⟨r', hf, hfr⟩ := findKey_sound hE H hkd hi he hr
      have hck := key_sound (ι := ι) (w := w) (b := false) 100 10000 (by omega) k ix ix' hk hi
      unfold Instr.mapUpdate
      cases hfr with
      | @some j u u' hu' =>
        simp only at hd
        split at hd
        · rename_i old ov hold
          obtain ⟨hbq, hd⟩ := bif_some hd
          cases hd
          obtain ⟨en, hen, hko, _⟩ := he.get hold
          have hen' : es'[j]? = some en := by simpa using hen
          have hbits := beqV_bits hbq hko hi
          refine ⟨_, ?_, H.upd hg hp rfl (turned_setMap w p.blk (.map (es'.modify j fun e => { e with key := ix', val := v' }) clock)) ⟨_, _, set_get hb, ?_⟩⟩
          · simp only [Sem.run_bind, run_und hu, Result.andThen_ok, run_getMap hb, hck, hf, hen', Option.map_some, Option.getD_some, Instr.keyThatStays, hbits, if_true, Sem.run_pure]
            exact run_setMap hb
          · exact ⟨by rw [Array.toList_modify]; exact he.setVal j hi hv, by rw [Array.toList_modify, born_modify]; exact hbs, hcl⟩
        · cases hd
      | none =>
        simp only at hd
        cases hd
        refine ⟨_, ?_, H.upd hg hp rfl (turned_setMap w p.blk (.map (es'.push { key := ix', val := v', born := clock }) (clock + 1))) ⟨_, _, set_get hb, ?_⟩⟩
        · simp only [Sem.run_bind, run_und hu, Result.andThen_ok, run_getMap hb, hck, hf]
          exact run_setMap hb
        · exact ⟨by rw [Array.toList_push]; exact he.snoc hi hv, by rw [Array.toList_push, List.map_append, hbs, hcl]; rfl, by rw [hcl]⟩
    · cases hd
  · cases hd

theorem delete_sound (hE : EnvOK E) (H : HR w0 ι h w) {ts : Array TypeId} {ty : TypeId} {x k : V} {x' k' : Value} {r : V × Heap} (hx : VR ι x x') (hk : VR ι k k') (hd : dDelete E ts x k h = some r) :
    SemOK E.P w0 ι (Builtin.delete_ ts ty #[x', k']) w r := by
  unfold dDelete at hd
  split at hd
  · rename_i kt e hu
    obtain ⟨t0, ht0, hu⟩ := bind_some hu
    obtain ⟨hkk, hd⟩ := bif_some hd
    cases hd
    cases hx
    have hck := key_sound (ι := ι) (w := w) (b := true) 100 10000 (by omega) kt k k' hkk hk
    refine .same H (.tup .nil) ?_
    unfold Builtin.delete_
    simp only [ht0, List.getElem?_toArray, List.getElem?_cons_zero, List.getElem?_cons_succ, Sem.run_bind, run_und hu, Result.andThen_ok, hck, Sem.run_pure]
  · rename_i kt e i hu
    obtain ⟨t0, ht0, hu⟩ := bind_some hu
    obtain ⟨hkk, hd⟩ := bif_some hd
    have hkd : ∃ d, E.P.underlying kt = some d := by
      unfold dKey at hkk
      cases hq : E.P.underlying kt with
      | none => rw [hq] at hkk; simp at hkk
      | some d => exact ⟨d, rfl⟩
    obtain ⟨kd, hkd⟩ := hkd
    split at hd
    · rename_i es bs cl hg
      obtain ⟨r2, hr, hd⟩ := map_some hd
      cases hx with
      | @map _ p hp =>
      obtain ⟨q, hq, es', clock, hb, he, hbs, hcl⟩ := H.obj _ _ hg
      rw [hp] at hq; cases hq
      obtain ⟨r', hf, hfr⟩ := findKey_sound hE H hkd hk he hr
      have hck := key_sound (ι := ι) (w := w) (b := es'.isEmpty) 100 10000 (by omega) kt k k' hkk hk
      unfold Builtin.delete_
      cases hfr with
      | @some j u u' hu' =>
        simp only at hd
        cases hd
        refine ⟨ι, _, _, Emb.le_refl ι, H.upd hg hp rfl (turned_setMap w p.blk (.map (es'.eraseIdxIfInBounds j) clock)) ⟨_, _, set_get hb, ?_⟩, .tup .nil, ?_⟩
        · exact ⟨by rw [Array.toList_eraseIdxIfInBounds]; exact he.dropAt j, by rw [Array.toList_eraseIdxIfInBounds, born_erase, hbs], hcl⟩
        · simp only [ht0, List.getElem?_toArray, List.getElem?_cons_zero, List.getElem?_cons_succ, Sem.run_bind, run_und hu, Result.andThen_ok, run_getMap hb, hck, hf, run_setMap hb, Sem.run_pure]
      | none =>
        simp only at hd
        cases hd
        refine ⟨ι, _, _, Emb.le_refl ι, H.same_heap (w' := { w with heap := w.heap.setIfInBounds p.blk (.map es' clock) }) rfl rfl rfl (by simp) ?_, .tup .nil, ?_⟩
        · intro j
          by_cases hj : j = p.blk
          · subst hj; rw [set_get hb, hb]
          · exact (turned_setMap w p.blk _).block j hj
        · simp only [ht0, List.getElem?_toArray, List.getElem?_cons_zero, List.getElem?_cons_succ, Sem.run_bind, run_und hu, Result.andThen_ok, run_getMap hb, hck, hf, run_setMap hb, Sem.run_pure]
    · cases hd
  · cases hd

theorem len_sound (H : HR w0 ι h w) {ts : Array TypeId} {t ty : TypeId} {x : V} {x' : Value} {v : V} (ht : ts[0]? = some t) (hx : VR ι x x') (hd : dLen E t x h = some v) : Quiet E.P ι (Builtin.len_ ts ty #[x']) w v := by
  unfold dLen at hd
  unfold Builtin.len_
  split at hd
  · rename_i s hu
    cases hd
    cases hx
    refine ⟨_, ?_, .int ..⟩
    simp only [ht, List.getElem?_toArray, List.getElem?_cons_zero, Sem.run_bind, run_und hu, Result.andThen_ok, Sem.run_pure, goInt]
    simp
  · rename_i n e hu
    cases hd
    refine ⟨_, ?_, .int ..⟩
    simp only [ht, List.getElem?_toArray, List.getElem?_cons_zero, Sem.run_bind, run_und hu, Result.andThen_ok, Sem.run_pure, goInt]
  · rename_i e a n lo es ex hu
    cases hd
    cases hx <;> refine ⟨_, ?_, .int ..⟩ <;> simp only [ht, List.getElem?_toArray, List.getElem?_cons_zero, Sem.run_bind, run_und hu, Result.andThen_ok, Sem.run_pure, goInt]
  · rename_i k e hu
    cases hd
    cases hx
    refine ⟨_, ?_, .int ..⟩
    simp only [ht, List.getElem?_toArray, List.getElem?_cons_zero, Sem.run_bind, run_und hu, Result.andThen_ok, Sem.run_pure, goInt]
  · rename_i k e i hu
    split at hd
    · rename_i es bs cl hg
      cases hd
      cases hx with
      | @map _ p hp =>
      obtain ⟨q, hq, es', clock, hb, he, hbs, hcl⟩ := H.obj _ _ hg
      rw [hp] at hq; cases hq
      refine ⟨_, ?_, .int ..⟩
      have := he.length
      simp only [ht, List.getElem?_toArray, List.getElem?_cons_zero, Sem.run_bind, run_und hu, Result.andThen_ok, run_getMap hb, Sem.run_pure, goInt]
      rw [this]
      simp
    · cases hd
  · cases hd

theorem first_zero {size : Nat} {x : V} {cs : List V} (hd : dFirst size 0 x h = some cs) : cs = [] := by
  unfold dFirst at hd
  split at hd
  · cases hd; rfl
  · rw [Nat.zero_mul] at hd; cases hd; rfl
  · obtain ⟨_, hd⟩ := bif_some hd; cases hd; rfl
  · cases hd

theorem copy_sound (H : HR w0 ι h w) {ts : Array TypeId} {ty : TypeId} {d s : V} {d' s' : Value} {r : V × Heap} (hdd : VR ι d d') (hs : VR ι s s') (hd : dCopy E ts d s h = some r) : SemOK E.P w0 ι (Builtin.copy_ ts ty #[d', s']) w r := by
  unfold dCopy at hd
  split at hd
  · rename_i e a len lo es ex hu
    obtain ⟨t0, ht0, hu⟩ := bind_some hu
    obtain ⟨size, hsz, hd1⟩ := bind_some hd
    clear hd
    obtain ⟨m, hm, hd⟩ := bind_some hd1
    clear hd1
    obtain ⟨cs, hcs, hd2⟩ := bind_some hd
    clear hd
    obtain ⟨cs', hr, hv⟩ := first_sound (P := E.P) H hs hcs
    have hlen := lenOf_sound (P := E.P) (w := w) hs hm
    have hsz' := run_size (w := w) hsz
    unfold Builtin.copy_
    cases hdd with
    | slN =>
      simp only at hd2
      cases hd2
      refine .same H (.int ..) ?_
      simp only [ht0, List.getElem?_toArray, List.getElem?_cons_zero, List.getElem?_cons_succ, Sem.run_bind, run_und hu, Result.andThen_ok, hlen, hsz', hr, Sem.run_pure]
      rfl
    | @sl i o _ _ _ off c _ p hp k1 k2 k3 k4 k5 k6 =>
      simp only at hd2
      have hrr : ∀ w2, (storeCells ⟨p.blk, off, none⟩ cs'.toList).run E.P w = .ok () w2 → (Builtin.copy_ ts ty #[.slice (some ⟨p.blk, off, none⟩) len c, s']).run E.P w = .ok (.int .i64 ((min m len : Nat) : Int)) w2 := by
        intro w2 hst
        unfold Builtin.copy_
        simp only [ht0, List.getElem?_toArray, List.getElem?_cons_zero, List.getElem?_cons_succ, Sem.run_bind, run_und hu, Result.andThen_ok, hlen, hsz']
        have hr2 : (Builtin.firstCells size (m.min len) s').run E.P w = .ok cs' w := hr
        simp only [hr2, Result.andThen_ok, hst, Sem.run_pure]
        rfl
      by_cases h0 : Nat.beq cs.length 0 = true
      · rw [h0] at hd2
        cases hd2
        have e0 : cs'.toList = [] := by
          have := hv.length; have := beq h0
          exact List.eq_nil_of_length_eq_zero (by omega)
        exact .same H (.int ..) (hrr w (by rw [e0]; rfl))
      · rw [Bool.eq_false_iff.2 h0] at hd2
        obtain ⟨h2, hst, rfl⟩ := map_some hd2
        have hne : cs.length ≠ 0 := fun e => h0 (by rw [e]; rfl)
        have hn : min m len ≠ 0 := by
          intro e
          apply hne
          rw [e] at hcs
          rw [first_zero hcs]
          rfl
        obtain ⟨w', hsr, H'⟩ := storeCells_sound (P := E.P) H hp hst hv
        rw [← k4 (by omega)] at hsr
        exact ⟨ι, _, w', Emb.le_refl ι, H', .int .., hrr w' hsr⟩
  · cases hd

theorem clear_sound (H : HR w0 ι h w) {ts : Array TypeId} {ty : TypeId} {x : V} {x' : Value} {r : V × Heap} (hx : VR ι x x') (hd : dClear E ts x h = some r) : SemOK E.P w0 ι (Builtin.clear_ ts ty #[x']) w r := by
  unfold dClear at hd
  unfold Builtin.clear_
  split at hd
  · rename_i d hu
    obtain ⟨t0, ht0, hu⟩ := bind_some hu
    cases hd; cases hx
    refine .same H (.tup .nil) ?_
    simp only [ht0, List.getElem?_toArray, List.getElem?_cons_zero, Sem.run_bind, run_und hu, Result.andThen_ok]
    cases d <;> rfl
  · rename_i d _ _ _ _ hu
    obtain ⟨t0, ht0, hu⟩ := bind_some hu
    cases hd; cases hx
    refine .same H (.tup .nil) ?_
    simp only [ht0, List.getElem?_toArray, List.getElem?_cons_zero, Sem.run_bind, run_und hu, Result.andThen_ok]
    cases d <;> rfl
  · rename_i d i hu
    obtain ⟨t0, ht0, hu⟩ := bind_some hu
    split at hd
    · rename_i es bs cl hg
      cases hd
      cases hx with
      | @map _ p hp =>
      obtain ⟨q, hq, es', clock, hb, he, hbs, hcl⟩ := H.obj _ _ hg
      rw [hp] at hq; cases hq
      refine ⟨ι, _, _, Emb.le_refl ι, H.upd hg hp rfl (turned_setMap w p.blk (.map #[] clock)) ⟨_, _, set_get hb, .nil, rfl, hcl⟩, .tup .nil, ?_⟩
      simp only [ht0, List.getElem?_toArray, List.getElem?_cons_zero, Sem.run_bind, run_und hu, Result.andThen_ok]
      cases d <;> simp only [Sem.run_bind, run_getMap hb, Result.andThen_ok, run_setMap hb, Sem.run_pure]
    · cases hd
  · rename_i e i o n lo es ex hu
    obtain ⟨t0, ht0, hu⟩ := bind_some hu
    cases hx with
    | @sl _ _ _ _ _ off c _ p hp k1 k2 k3 k4 k5 k6 =>
    by_cases h0 : Nat.beq n 0 = true
    · rw [h0] at hd
      cases hd
      obtain rfl := beq h0
      refine .same H (.tup .nil) ?_
      simp only [ht0, List.getElem?_toArray, List.getElem?_cons_zero, Sem.run_bind, run_und hu, Result.andThen_ok]
      rfl
    · rw [Bool.eq_false_iff.2 h0] at hd
      obtain ⟨z, hz, hd1⟩ := bind_some hd
      obtain ⟨hz0, hd2⟩ := bif_none hd1
      obtain ⟨h2, hst, rfl⟩ := map_some hd2
      obtain ⟨s, hs, hl, hzz⟩ := zeros_sound hz
      rcases hzz with ⟨_, rfl⟩ | ⟨hne, z', hr, hsz, hv⟩
      · simp at hz0
      · obtain ⟨w', hsr, H'⟩ := storeCells_sound (P := E.P) H hp hst (hv ι)
        have hn : n ≠ 0 := fun e => h0 (by rw [e]; rfl)
        rw [← k4 (by omega)] at hsr
        refine ⟨ι, _, w', Emb.le_refl ι, H', .tup .nil, ?_⟩
        simp only [ht0, List.getElem?_toArray, List.getElem?_cons_zero, Sem.run_bind, run_und hu, Result.andThen_ok]
        cases n with
        | zero => exact absurd rfl hn
        | succ n =>
          simp only [Sem.run_bind, hr w, Result.andThen_ok]
          have e2 : (Builtin.zeroCells z'.cells (n + 1)).toList = ((Array.range ((n + 1) * z'.cells.size)).map (z'.cells[· % z'.cells.size]!)).toList := rfl
          rw [e2, hsr]
          rfl
  · cases hd

theorem minmax_step {mx : Bool} : ∀ {xs : List V} {xs' : List Value} {a v : V} {a' : Value}, VRs ι xs xs' → VR ι a a' → xs.foldlM (fun a b => match a, b with
    | .int k x, .int _ y => some (.int k (bif mx then (if y > x then y else x) else (if y < x then y else x)))
    | _, _ => none) a = some v → Quiet E.P ι (xs'.foldlM (if mx then Builtin.max2 else Builtin.min2) a') w v
  | _, _, a, v, a', .nil, ha, hd => by
    simp at hd; subst hd
    exact ⟨a', by simp, ha⟩
  | _, _, a, v, a', .cons (v := b) (v' := b') hb t, ha, hd => by
    rw [List.foldlM_cons] at hd
    obtain ⟨c, hc, hd⟩ := bind_some hd
    rw [List.foldlM_cons]
    split at hc
    · cases hc
      cases ha; cases hb
      obtain ⟨v', hr, hv⟩ := minmax_step t (.int ..) hd
      refine ⟨v', ?_, hv⟩
      cases mx
      · simp only [Sem.run_bind, Bool.false_eq_true, if_false, Builtin.min2, Sem.run_pure, Result.andThen_ok] at hr ⊢
        exact hr
      · simp only [Sem.run_bind, if_true, Builtin.max2, Sem.run_pure, Result.andThen_ok] at hr ⊢
        exact hr
    · cases hc

theorem minmax_sound {mx : Bool} {ts : Array TypeId} {ty : TypeId} {xs : List V} {xs' : Array Value} {v : V} (hx : VRs ι xs xs'.toList) (hd : dMinMax mx xs = some v) : Quiet E.P ι ((if mx then Builtin.max_ else Builtin.min_) ts ty xs') w v := by
  unfold dMinMax at hd
  split at hd
  · cases hd
  · rename_i x rest
    generalize hl : xs'.toList = l at hx
    cases hx with
    | cons hh t =>
    have := minmax_step (E := E) (w := w) (mx := mx) t hh hd
    cases mx
    · simp only [Bool.false_eq_true, if_false] at this ⊢
      unfold Builtin.min_; rw [hl]; exact this
    · simp only [if_true] at this ⊢
      unfold Builtin.max_; rw [hl]; exact this

theorem convert_sound (H : HR w0 ι h w) {s d : TypeId} {x : V} {x' : Value} {r : V × Heap} (hx : VR ι x x') (hd : dConvert E s d x h = some r) : SemOK E.P w0 ι (convert s d x') w r := by
  unfold dConvert at hd
  unfold convert
  split at hd
  · rename_i sd k k2 n hs hdd
    cases hd; cases hx
    refine .same H (.int ..) ?_
    simp only [Sem.run_bind, run_und hs, run_und hdd, Result.andThen_ok]
    cases sd <;> rfl
  · rename_i sd s hs hdd
    cases hd; cases hx
    refine .same H (.str _) ?_
    simp only [Sem.run_bind, run_und hs, run_und hdd, Result.andThen_ok]
    cases sd <;> rfl
  · rename_i sd e s hs hdd
    split at hd
    · rename_i he
      obtain ⟨hb, hd⟩ := bif_some hd
      cases hd
      cases hx with
      | str s =>
      have hle := ble hb
      obtain ⟨κ, v', w', a, b, c, hr⟩ := stringToBytes_sound (E := E) (e := e) H s (by simpa using hle)
      refine ⟨κ, v', w', a, b, c, ?_⟩
      simp only [Sem.run_bind, run_und hs, run_und hdd, Result.andThen_ok]
      cases sd <;> simp only [Sem.run_bind, run_und he, Result.andThen_ok] <;> exact hr
    · cases hd
  · rename_i e _ _ _ _ hs hdd
    split at hd
    · rename_i he
      cases hd; cases hx
      refine .same H (.str' (b := .empty) rfl) ?_
      simp only [Sem.run_bind, run_und hs, run_und hdd, Result.andThen_ok, run_und he]
      rfl
    · cases hd
  · rename_i e i o len lo es ex hs hdd
    split at hd
    · rename_i he
      obtain ⟨cs, hc, hd1⟩ := bind_some hd
      obtain ⟨k, hg⟩ := cells_some hc
      have main : ∀ b, (len = 0 ∧ b = []) ∨ (o + len ≤ cs.length ∧ bytesOfVs ((cs.drop o).take len) = some b) → SemOK E.P w0 ι (convert s d x') w (.str b, h) := by
        intro b hb
        obtain ⟨v', hr, hv⟩ := bytesToString_sound (E := E) H hx hg hb
        refine .same H hv ?_
        cases hx with
        | sl =>
        unfold convert
        simp only [Sem.run_bind, run_und hs, run_und hdd, Result.andThen_ok, run_und he]
        exact hr
      unfold convert at main
      by_cases h0 : Nat.beq len 0 = true
      · rw [h0] at hd1
        cases hd1
        exact main [] (.inl ⟨beq h0, rfl⟩)
      · rw [Bool.eq_false_iff.2 h0] at hd1
        obtain ⟨hle, hd2⟩ := bif_some hd1
        obtain ⟨b, hb, rfl⟩ := map_some hd2
        exact main b (.inr ⟨ble hle, hb⟩)
    · cases hd
  · cases hd

end
end Go.Zs
