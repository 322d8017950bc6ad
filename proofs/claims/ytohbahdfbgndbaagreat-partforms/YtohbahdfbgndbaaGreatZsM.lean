/- A sound evaluator for the model's programs, thirteenth part: append. -/
import Derived.Test.YtohbahdfbgndbaaGreatZsL
namespace Go.Zs
open Go Go.RowKit

theorem growBy_le (need : Nat) : ∀ (rounds c : Nat), c ≤ 2 * need + 1000 → Builtin.growBy need rounds c ≤ 2 * need + 1000
  | 0, c, h => by simpa [Builtin.growBy] using h
  | r + 1, c, h => by
    unfold Builtin.growBy
    split
    · exact h
    · exact growBy_le need r _ (by omega)

theorem nextcap_le {need old : Nat} (h : old < need) : Builtin.nextslicecap need old ≤ 2 * need + 1000 := by
  unfold Builtin.nextslicecap
  split
  · omega
  · split
    · omega
    · exact growBy_le _ _ _ (by omega)

section
variable {w0 : Base} {ι : Emb} {h : Heap} {w : World} {E : Env}

theorem first_sound (H : HR w0 ι h w) {P : Program} {size n : Nat} {x : V} {x' : Value} {cs : List V} (hx : VR ι x x') (hd : dFirst size n x h = some cs) :
    ∃ cs' : Array Value, (Builtin.firstCells size n x').run P w = .ok cs' w ∧ VRs ι cs cs'.toList := by
  unfold dFirst at hd
  split at hd
  · cases hd; cases hx; exact ⟨#[], rfl, .nil⟩
  · rename_i i o len lo es ex
    cases hx with
    | @sl _ _ _ _ _ off c _ p hp k1 k2 k3 k4 k5 k6 =>
    cases hb : Nat.beq (n * size) 0 with
    | true =>
      rw [hb] at hd; cases hd
      have := beq hb
      exact ⟨#[], by simp [Builtin.firstCells, this, loadCells, loadCellsFrom], .nil⟩
    | false =>
      rw [hb] at hd
      obtain ⟨cs2, hc, hd⟩ := bind_some hd
      obtain ⟨hb2, hd⟩ := bif_some hd
      cases hd
      simp only [Bool.and_eq_true] at hb2
      obtain ⟨k, hg⟩ := cells_some hc
      obtain ⟨vs', hr, hv, _⟩ := H.row (P := P) hg hp (ble hb2.2)
      have hne := bne hb
      have hn : n ≠ 0 := fun e => hne (by rw [e, Nat.zero_mul])
      have := ble hb2.1
      rw [k4 (by omega)]
      exact ⟨vs', hr, hv⟩
  · rename_i s
    cases hx with
    | str s =>
    obtain ⟨hb, hd⟩ := bif_some hd
    cases hd
    refine ⟨(s.extract 0 n).data.map fun b => .int .u8 b.toNat, rfl, ?_⟩
    rw [Array.toList_map]
    have e : (s.extract 0 n).data.toList = s.data.toList.take n := by simp [List.extract_eq_take_drop]
    rw [e]
    exact VRs.map_of (fun b => .int ..) _
  · cases hd

theorem first_len {size n : Nat} {a : Option (Nat × Nat)} {len lo es : Nat} {ex : Bool} {cs : List V} (hd : dFirst size n (.sl a len lo es ex) h = some cs) (ha : a.isSome = true) : cs.length = n * size := by
  unfold dFirst at hd
  split at hd
  · rename_i heq; cases heq; cases ha
  · by_cases hb : Nat.beq (n * size) 0 = true
    · rw [hb] at hd; cases hd; simp [beq hb]
    · rw [Bool.eq_false_iff.2 hb] at hd
      obtain ⟨cs2, hc, hd⟩ := bind_some hd
      obtain ⟨hb2, hd⟩ := bif_some hd
      cases hd
      simp only [Bool.and_eq_true] at hb2
      have := ble hb2.2
      simp; omega
  · rename_i heq; cases heq
  · cases hd

theorem lenOf_sound {P : Program} {x : V} {x' : Value} {n : Nat} (hx : VR ι x x') (hd : dLenOf x = some n) : (Builtin.lenOf x').run P w = .ok n w := by
  unfold dLenOf at hd
  split at hd
  · cases hd; cases hx <;> rfl
  · cases hd; cases hx; simp [Builtin.lenOf]
  · cases hd

theorem zeroCells_size (z : Array Value) (n : Nat) : (Builtin.zeroCells z n).size = n * z.size := by simp [Builtin.zeroCells]

/-- What is appended, as the model reckons it. -/
inductive App (E : Env) (w0 : Base) (ι : Emb) (h : Heap) (e : TypeId) (size n : Nat) (new : List V) : TypeDesc → Value → Prop
  | plain {d : TypeDesc} {x' : Value} (hd : (∃ u, d = .slice u) ∨ d = .string) (hl : ∀ w, (Builtin.lenOf x').run E.P w = .ok n w)
      (hn : ∀ w, HR w0 ι h w → ∃ new' : Array Value, (Builtin.firstCells size n x').run E.P w = .ok new' w ∧ VRs ι new new'.toList) : App E w0 ι h e size n new d x'
  | zeros {k k' : IntKind} (hl : n ≤ 1073741824) (z' : Value) (hz : ∀ w, (zeroValue e).run E.P w = .ok z' w) (h0 : n * size = 0 → new = []) (h1 : n * size ≠ 0 → VRs ι new (Builtin.zeroCells z'.cells n).toList) :
      App E w0 ι h e size n new (.int k) (.int k' (n : Int))

theorem app_of {e : TypeId} {info : TypeInfo} {d : TypeDesc} {x : V} {x' : Value} {n : Nat} {new : List V} {zr : Bool} (hi : E.P.info? e = some info) (hzr : isIntD d = some zr) (hx : VR ι x x')
    (hn : (bif zr then countV x else dLenOf x) = some n) (hnew : (bif zr then zerosB E e n else dFirst info.size n x h) = some new) (hle : n ≤ 1073741824) {z : V} (hz : zeroB E e = some z) :
    App E w0 ι h e info.size n new d x' := by
  unfold isIntD at hzr
  split at hzr
  · cases hzr
    simp only [cond_true] at hn hnew
    unfold countV at hn
    cases hx <;> first | (cases hn; done) | skip
    rename_i k m
    cases m with
    | negSucc m => cases hn
    | ofNat m =>
      cases hn
      obtain ⟨s2, hs2, hl, hzz⟩ := zeros_sound hnew
      have : s2 = info.size := by unfold sizeB at hs2; rw [hi] at hs2; cases hs2; rfl
      subst this
      obtain ⟨z', hzr, rfl⟩ := run_zero hz
      rcases hzz with ⟨h0, rfl⟩ | ⟨hne, z2, hr2, hsz2, hv2⟩
      · exact .zeros hle z' hzr (fun _ => rfl) (fun hne => absurd h0 hne)
      · exact .zeros hle z2 hr2 (fun h0 => absurd h0 hne) (fun _ => hv2 ι)
  · cases hzr
    simp only [cond_false] at hn hnew
    exact .plain (.inl ⟨_, rfl⟩) (fun w => lenOf_sound hx hn) (fun w H => first_sound H hx hnew)
  · cases hzr
    simp only [cond_false] at hn hnew
    exact .plain (.inr rfl) (fun w => lenOf_sound hx hn) (fun w H => first_sound H hx hnew)
  · cases hzr

section runs
variable {ts : Array TypeId} {ty t0 t1 e : TypeId} {d : TypeDesc} {info : TypeInfo} {base : Option Addr} {sLen sCap n : Nat} {x' : Value} {new : List V}

theorem zeros_bounds {bytes : Nat} (hn : n ≤ 1073741824) (hb : bytes ≤ 65536) : IntKind.i64.wrap (n : Int) = (n : Int) ∧ ¬ ((n : Int) < 0) ∧ ¬ ((n : Int) * (bytes : Int) > 2 ^ 48) := by
  refine ⟨by unfold IntKind.wrap; simp [IntKind.bits, IntKind.signed]; omega, by omega, ?_⟩
  have : n * bytes ≤ 1073741824 * 65536 := Nat.mul_le_mul hn hb
  have h2 : ((n * bytes : Nat) : Int) ≤ ((1073741824 * 65536 : Nat) : Int) := Int.ofNat_le.2 this
  simp only [Int.natCast_mul] at h2
  omega

/-- There is room. -/
theorem append_in (ht0 : ts[0]? = some t0) (ht1 : ts[1]? = some t1) (hu0 : E.P.underlying t0 = some (.slice e)) (hu1 : E.P.underlying t1 = some d) (hi : E.P.info? e = some info) (hb : info.bytes ≤ 65536) (A : App E w0 ι h e info.size n new d x') (H : HR w0 ι h w)
    (hle : sLen + n ≤ sCap) : ∃ new' : Array Value, VRs ι new new'.toList ∧ (Builtin.append_ ts ty #[.slice base sLen sCap, x']).run E.P w =
      match base with
      | some a => ((storeCells (a.add (sLen * info.size)) new'.toList).run E.P w).andThen fun _ w' => .ok (.slice base (sLen + n) sCap) w'
      | none => .ok (.slice base (sLen + n) sCap) w := by
  have hsz : (sizeOf e).run E.P w = .ok info.size w := run_size (by unfold sizeB; rw [hi]; rfl)
  unfold Builtin.append_
  cases A with
  | plain hd hl hn =>
    obtain ⟨new', hr, hv⟩ := hn w H
    refine ⟨new', hv, ?_⟩
    rcases hd with ⟨u, rfl⟩ | rfl <;>
    · simp only [ht0, ht1, List.getElem?_toArray, List.getElem?_cons_zero, List.getElem?_cons_succ, Sem.run_bind, run_und hu0, run_und hu1, Result.andThen_ok, hsz, Sem.run_pure, Bool.false_eq_true, if_false, hl w, Bool.not_false, if_true, hr, if_pos hle]
      cases base <;> simp
  | zeros hl z' hz h0 h1 =>
    obtain ⟨b1, b2, b3⟩ := zeros_bounds hl hb
    by_cases hz0 : n * info.size = 0
    · refine ⟨#[], by rw [h0 hz0]; exact .nil, ?_⟩
      simp only [ht0, ht1, List.getElem?_toArray, List.getElem?_cons_zero, List.getElem?_cons_succ, Sem.run_bind, run_und hu0, run_und hu1, Result.andThen_ok, hsz, Sem.run_pure, asInt, asIntOf, b1, if_neg b2, run_info hi, if_neg b3, Bool.not_true, Bool.false_eq_true, if_false, if_true, Int.toNat_natCast, if_pos hz0, if_pos hle]
      cases base <;> simp
    · refine ⟨_, h1 hz0, ?_⟩
      simp only [ht0, ht1, List.getElem?_toArray, List.getElem?_cons_zero, List.getElem?_cons_succ, Sem.run_bind, run_und hu0, run_und hu1, Result.andThen_ok, hsz, Sem.run_pure, asInt, asIntOf, b1, if_neg b2, run_info hi, if_neg b3, Bool.not_true, Bool.false_eq_true, if_false, if_true, Int.toNat_natCast, if_neg hz0, hz w, if_pos hle]
      cases base <;> simp

/-- There is none. -/
theorem append_grow (ht0 : ts[0]? = some t0) (ht1 : ts[1]? = some t1) (hu0 : E.P.underlying t0 = some (.slice e)) (hu1 : E.P.underlying t1 = some d) (hi : E.P.info? e = some info) (hb : info.bytes ≤ 65536) (A : App E w0 ι h e info.size n new d x') (H : HR w0 ι h w)
    {z' : Value} (hz' : ∀ w, (zeroValue e).run E.P w = .ok z' w) (hle : ¬ sLen + n ≤ sCap) (hmax : sLen + n ≤ 1073741824) {old' : Array Value} (ho : (Builtin.firstCells info.size sLen (.slice base sLen sCap)).run E.P w.drew = .ok old' w.drew) :
    ∃ (new' : Array Value) (cap : Nat), VRs ι new new'.toList ∧ sLen + n ≤ cap ∧ (Builtin.append_ ts ty #[.slice base sLen sCap, x']).run E.P w =
      .ok (.slice (some ⟨w.heap.size, 0, none⟩) (sLen + n) cap) (w.drew.alloc (.cells (old' ++ new' ++ Builtin.zeroCells z'.cells (cap - (sLen + n))) e)) := by
  have hsz : (sizeOf e).run E.P w = .ok info.size w := run_size (by unfold sizeB; rw [hi]; rfl)
  have m1 : ¬ (((sLen + n : Nat) : Int) > IntKind.i64.max) := by
    have : IntKind.i64.max = 9223372036854775807 := by decide
    rw [this]; omega
  have m2 : ¬ (Builtin.nextslicecap (sLen + n) sCap * info.bytes > 2 ^ 48) := by
    have := nextcap_le (need := sLen + n) (old := sCap) (by omega)
    have : Builtin.nextslicecap (sLen + n) sCap * info.bytes ≤ (2 * 1073741824 + 1000) * 65536 := Nat.mul_le_mul (by omega) hb
    omega
  have m3 : sLen + n ≤ (Question.appendCap (sLen + n) sCap e).cut (w.tape w.drawn (Question.appendCap (sLen + n) sCap e)) := by simp [Question.cut]
  unfold Builtin.append_
  cases A with
  | plain hd hl hn =>
    obtain ⟨new', hr, hv⟩ := hn w.drew H.drew
    refine ⟨new', _, hv, m3, ?_⟩
    rcases hd with ⟨u, rfl⟩ | rfl <;>
    · simp only [ht0, ht1, List.getElem?_toArray, List.getElem?_cons_zero, List.getElem?_cons_succ, Sem.run_bind, run_und hu0, run_und hu1, Result.andThen_ok, hsz, Sem.run_pure, Bool.false_eq_true, if_false, hl w, Bool.not_false, if_true, if_neg hle, run_info hi, m1, false_and, m2, run_choose, Question.forced, run_askRoom,
        World.drew_eq, ho, hr, hz' w.drew, newRow, run_newObj, World.alloc_eq, World.size_drew]
  | zeros hl z2 hz h0 h1 =>
    obtain rfl : z2 = z' := by have := (hz w).symm.trans (hz' w); cases this; rfl
    obtain ⟨b1, b2, b3⟩ := zeros_bounds hl hb
    by_cases hz0 : n * info.size = 0
    · refine ⟨#[], _, by rw [h0 hz0]; exact .nil, m3, ?_⟩
      simp only [ht0, ht1, List.getElem?_toArray, List.getElem?_cons_zero, List.getElem?_cons_succ, Sem.run_bind, run_und hu0, run_und hu1, Result.andThen_ok, hsz, Sem.run_pure, asInt, asIntOf, b1, if_neg b2, run_info hi, if_neg b3, Bool.not_true, Bool.false_eq_true, if_false, if_true, Int.toNat_natCast, if_pos hz0, if_neg hle,
        m1, false_and, m2, run_choose, Question.forced, run_askRoom, World.drew_eq, ho, hz' w.drew, newRow, run_newObj, World.alloc_eq, World.size_drew]
    · refine ⟨_, _, h1 hz0, m3, ?_⟩
      simp only [ht0, ht1, List.getElem?_toArray, List.getElem?_cons_zero, List.getElem?_cons_succ, Sem.run_bind, run_und hu0, run_und hu1, Result.andThen_ok, hsz, Sem.run_pure, asInt, asIntOf, b1, if_neg b2, run_info hi, if_neg b3, Bool.not_true, Bool.false_eq_true, if_false, if_true, Int.toNat_natCast, if_neg hz0, if_neg hle,
        m1, false_and, m2, run_choose, Question.forced, run_askRoom, World.drew_eq, ho, hz' w.drew, newRow, run_newObj, World.alloc_eq, World.size_drew]
end runs

theorem append_sound (H : HR w0 ι h w) {ts : Array TypeId} {ty : TypeId} {s x : V} {s' x' : Value} {r : V × Heap} (hs : VR ι s s') (hx : VR ι x x') (hd : dAppend E ts s x h = some r) : SemOK E.P w0 ι (Builtin.append_ ts ty #[s', x']) w r := by
  unfold dAppend at hd
  split at hd
  · rename_i e d a len lo es ex hu0 hu1
    obtain ⟨t0, ht0, hu0⟩ := bind_some hu0
    obtain ⟨t1, ht1, hu1⟩ := bind_some hu1
    obtain ⟨info, hinfo, hd1⟩ := bind_some hd
    clear hd
    obtain ⟨z, hz, hd2⟩ := bind_some hd1
    clear hd1
    obtain ⟨zr, hzr, hd3⟩ := bind_some hd2
    clear hd2
    obtain ⟨n, hn, hd4⟩ := bind_some hd3
    clear hd3
    obtain ⟨new, hnew, hd5⟩ := bind_some hd4
    clear hd4
    obtain ⟨hc, hd⟩ := bif_none hd5
    clear hd5
    simp only [Bool.or_eq_false_iff, Bool.not_eq_false'] at hc
    obtain ⟨⟨⟨⟨⟨c1, c2⟩, c3⟩, c4⟩, c5⟩, c6⟩ := hc
    have c1 := bne c1
    have c2 := ble c2
    have c3 := ble c3
    have c5 := beq c5
    have c6 := beq c6
    have A := app_of (w0 := w0) (h := h) hinfo hzr hx hn hnew (by omega) hz
    obtain ⟨z', hzrun, rfl⟩ := run_zero hz
    have hzc := (VR.ofValue (ι := ι) z').cells c4
    have hzs : z'.cells.size = info.size := by have := hzc.length; simp at this; omega
    by_cases hn0 : Nat.beq n 0 = true
    · rw [hn0] at hd
      obtain rfl := beq hn0
      cases hd
      obtain rfl : new = [] := List.eq_nil_of_length_eq_zero (by omega)
      cases hs with
      | slN =>
        obtain ⟨new', hv, hr⟩ := append_in (ty := ty) (base := none) (sLen := 0) (sCap := 0) ht0 ht1 hu0 hu1 hinfo c3 A H (Nat.le_refl _)
        exact .same H (.slN _) hr
      | @sl _ _ _ _ _ off c _ p hp k1 k2 k3 k4 k5 k6 =>
        obtain ⟨new', hv, hr⟩ := append_in (ty := ty) (base := some ⟨p.blk, off, none⟩) (sLen := len) (sCap := c) ht0 ht1 hu0 hu1 hinfo c3 A H (by omega)
        have : new'.toList = [] := by cases hv' : new'.toList with
          | nil => rfl
          | cons a b => rw [hv'] at hv; cases hv
        refine .same H (.sl hp k1 k2 k3 k4 k5 k6) ?_
        rw [hr, this]
        rfl
    · have hn0 := Bool.eq_false_iff.2 hn0
      rw [hn0] at hd
      have hn0 := bne hn0
      simp only [cond_false] at hd
      split at hd
      · obtain ⟨hb, hd⟩ := bif_some hd
        cases hd
        have hlo := beq hb
        cases hs with
        | slN =>
        obtain ⟨new', cap, hv, hcap, hr⟩ := append_grow (ty := ty) (base := none) (sLen := 0) (sCap := 0) ht0 ht1 hu0 hu1 hinfo c3 A H hzrun (by omega) (by omega) (old' := #[]) rfl
        have hl := hv.length
        simp only [Array.length_toList] at hl
        have hcell := H.drew.newRoom (e := e) (c := new') (r := Builtin.zeroCells z'.cells (cap - (0 + n))) hv
        refine ⟨_, _, _, H.le_add _, hcell, VR.new_sl _ h.next n n info.size cap false rfl (Nat.le_refl _) (by omega) (fun e => by cases e) ?_, ?_⟩
        · show cap * info.size ≤ new'.size + (Builtin.zeroCells z'.cells (cap - (0 + n))).size
          rw [zeroCells_size, hzs, ← hl, c6, ← Nat.add_mul]
          exact Nat.mul_le_mul_right _ (by omega)
        · rw [hr]
          simp
      · rename_i i o
        obtain ⟨hes, hd⟩ := bif_none hd
        simp only [Bool.not_eq_false'] at hes
        obtain rfl := beq hes
        cases hs with
        | @sl _ _ _ _ _ off c _ p hp k1 k2 k3 k4 k5 k6 =>
        by_cases hlo : Nat.ble (len + n) lo = true
        · rw [hlo] at hd
          have hlo := ble hlo
          obtain ⟨h2, hst, rfl⟩ := map_some hd
          obtain ⟨new', hv, hr⟩ := append_in (ty := ty) (base := some ⟨p.blk, off, none⟩) (sLen := len) (sCap := c) ht0 ht1 hu0 hu1 hinfo c3 A H (by omega)
          obtain ⟨w', hsr, H'⟩ := storeCells_sound (P := E.P) H hp hst hv
          refine ⟨ι, _, w', Emb.le_refl ι, H', .sl hp hlo k2 k3 k4 k5 k6, ?_⟩
          rw [hr]
          simp only [add_none, k4 (by omega), Nat.add_assoc] at hsr ⊢
          rw [hsr]
          rfl
        · have hlo := Bool.eq_false_iff.2 hlo
          rw [hlo] at hd
          simp only [cond_false] at hd
          have hlo : lo < len + n := by
            rcases Nat.lt_or_ge lo (len + n) with h1 | h1
            · exact h1
            · rw [Nat.ble_eq_true_of_le h1] at hlo; cases hlo
          obtain ⟨old, hold, hd⟩ := bind_some hd
          have hgrow : ∀ (k : Kd) (h2 : Heap) (H2 : HR w0 ι h2 w) (hnx : h2.next = h.next), ¬ len + n ≤ c → SemOK E.P w0 ι (Builtin.append_ ts ty #[.slice (some ⟨p.blk, off, none⟩) len c, x']) w (.sl (some (h.next, 0)) (len + n) (len + n) info.size false, h2.new (.cells (old ++ new) k)) := by
            intro k h2 H2 hnx hle
            obtain ⟨old', hor, hov⟩ := first_sound (P := E.P) H.drew (.sl hp k1 k2 k3 k4 k5 k6) hold
            obtain ⟨new', cap, hv, hcap, hr⟩ := append_grow (ty := ty) (base := some ⟨p.blk, off, none⟩) (sLen := len) (sCap := c) ht0 ht1 hu0 hu1 hinfo c3 A H hzrun hle c2 hor
            have hol := hov.length
            have hnl := hv.length
            simp only [Array.length_toList] at hol hnl
            have holl : old.length = len * info.size := first_len hold rfl
            have hov2 : VRs ι (old ++ new) (old' ++ new').toList := by rw [Array.toList_append]; exact hov.append hv
            have hcell := H2.drew.newRoom (e := e) (c := old' ++ new') (r := Builtin.zeroCells z'.cells (cap - (len + n))) hov2 k
            have hnx' : h2.next = h.next := hnx
            rw [hnx'] at hcell
            refine ⟨_, _, _, by have := H2.le_add ⟨w.drew.heap.size, 0, (old' ++ new').size + (Builtin.zeroCells z'.cells (cap - (len + n))).size⟩; rw [hnx'] at this; exact this, hcell,
              VR.new_sl _ h.next (len + n) (len + n) info.size cap false rfl (Nat.le_refl _) (by omega) (fun e => by cases e) ?_, ?_⟩
            · show cap * info.size ≤ (old' ++ new').size + (Builtin.zeroCells z'.cells (cap - (len + n))).size
              rw [zeroCells_size, hzs, Array.size_append, ← hol, ← hnl, c6, holl, ← Nat.add_mul, ← Nat.add_mul]
              exact Nat.mul_le_mul_right _ (by omega)
            · rw [hr]
              simp
          by_cases hex : ex = true
          · rw [hex] at hd
            cases hd
            exact hgrow .own h H rfl (by have := k3 hex; omega)
          · have hex := Bool.eq_false_iff.2 hex
            rw [hex] at hd
            simp only [cond_false] at hd
            split at hd
            · rename_i cs k hg
              obtain ⟨hb, hd⟩ := bif_some hd
              cases hd
              simp only [Bool.and_eq_true] at hb
              by_cases hcc : len + n ≤ c
              · obtain ⟨new', hv, hr⟩ := append_in (ty := ty) (base := some ⟨p.blk, off, none⟩) (sLen := len) (sCap := c) ht0 ht1 hu0 hu1 hinfo c3 A H hcc
                obtain ⟨q, hq, cc, e', fz, h1, h2, h3, h4, h5, h6⟩ := H.obj _ _ hg
                rw [hp] at hq; cases hq
                have hnl := hv.length
                have holl : old.length = len * info.size := first_len hold rfl
                obtain ⟨old', hor, hov⟩ := first_sound (P := E.P) H (.sl hp k1 k2 k3 k4 k5 k6) hold
                have hle1 : (len + n) * info.size ≤ c * info.size := Nat.mul_le_mul_right _ hcc
                rw [Nat.add_mul] at hle1
                obtain ⟨w', hsr, ht, hh⟩ := run_storeCells (P := E.P) new'.toList (off + len * info.size) 0 w cc e' fz h1 (by omega) (h5 hb.1) (all_one hv hb.2)
                have hm := H.move (o' := .cells (old ++ new) k) (q := ⟨p.blk, off, c * info.size⟩) hg hp hb.1 rfl ht ⟨_, e', fz, hh, by simp; omega, by simp; omega, ?_, ?_, h6⟩
                · refine ⟨_, .slice (some ⟨p.blk, off, none⟩) (len + n) c, w', H.le_add _, hm, ?_, ?_⟩
                  · exact VR.sl (p := ⟨p.blk, off, c * info.size⟩) (Emb.add_same ι h.next ⟨p.blk, off, c * info.size⟩) (Nat.le_refl _) hcc (fun e => by cases e) (fun _ => rfl) (Nat.le_refl _) (Nat.le_refl _)
                  · rw [hr]
                    simp only [add_none]
                    rw [hsr]
                    rfl
                · -- the cells behind the store
                  have hrow : old'.toList = (cc.toList.drop off).take (len * info.size) := by
                    have hrun := run_loadCells_list (P := E.P) (w := w) ⟨p.blk, off, none⟩ ((cc.toList.drop off).take (len * info.size)) (by
                      intro j v hj
                      have hjn : j < len * info.size := by have := (List.getElem?_eq_some_iff.1 hj).1; simp at this; omega
                      rw [take_drop_get _ _ _ _ hjn] at hj
                      rw [add_none]
                      simpa [World.cell?, h1] using hj)
                    have hl : ((cc.toList.drop off).take (len * info.size)).length = len * info.size := by simp; omega
                    rw [hl] at hrun
                    have : (Builtin.firstCells info.size len (.slice (some ⟨p.blk, off, none⟩) len c)).run E.P w = (loadCells ⟨p.blk, off, none⟩ (len * info.size)).run E.P w := rfl
                    rw [this, hrun] at hor
                    cases hor
                    simp
                  show VRs ι (old ++ new) ((_ : Array Value).toList.drop off |>.take (old ++ new).length)
                  have e1 : ((cc.toList.take (off + len * info.size + 0) ++ new'.toList ++ cc.toList.drop (off + len * info.size + 0 + new'.toList.length)).toArray.toList.drop off).take (old ++ new).length = old'.toList ++ new'.toList := by
                    rw [hrow]
                    apply List.ext_getElem?
                    intro j
                    have hlen : (old ++ new).length = len * info.size + new'.toList.length := by simp [holl, hnl]
                    rw [hlen]
                    have hl2 : ((cc.toList.drop off).take (len * info.size)).length = len * info.size := by simp; omega
                    by_cases hj : j < len * info.size + new'.toList.length
                    · rw [take_drop_get _ _ _ _ hj]
                      rw [show (cc.toList.take (off + len * info.size + 0) ++ new'.toList ++ cc.toList.drop (off + len * info.size + 0 + new'.toList.length)).toArray.toList = cc.toList.take (off + len * info.size + 0) ++ new'.toList ++ cc.toList.drop (off + len * info.size + 0 + new'.toList.length) from by simp,
                        getElem?_splice cc.toList new'.toList (off + len * info.size + 0) (off + j) (by simp at hnl ⊢; omega)]
                      by_cases a1 : j < len * info.size
                      · rw [if_pos (show off + j < off + len * info.size + 0 from by omega), List.getElem?_append_left (by omega), take_drop_get _ _ _ _ a1]
                      · rw [if_neg (show ¬ off + j < off + len * info.size + 0 from by omega), if_pos (show off + j < off + len * info.size + 0 + new'.toList.length from by omega), List.getElem?_append_right (by omega), hl2]
                        congr 1; omega
                    · rw [List.getElem?_eq_none (by rw [List.length_take]; omega), List.getElem?_eq_none (by rw [List.length_append, hl2]; omega)]
                  rw [e1]
                  exact hov.append hv
                · intro hw j hj
                  refine h5 hw j ?_
                  simp only [List.size_toArray, List.length_append, List.length_take, List.length_drop, Array.length_toList] at hj hnl
                  omega
              · exact hgrow k (h.kill i) (H.kill i) rfl hcc
            · cases hd
  · cases hd

end
end Go.Zs
