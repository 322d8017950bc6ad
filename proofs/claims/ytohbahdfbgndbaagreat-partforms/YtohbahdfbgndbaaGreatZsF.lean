/- A sound evaluator for the model's programs, sixth part: operations that leave memory as it is. -/
import Derived.Test.YtohbahdfbgndbaaGreatZsE
namespace Go.Zs
open Go Go.RowKit

/-- A computation that looks and computes. -/
def Quiet (P : Program) (ι : Emb) (s : Sem Value) (w : World) (v : V) : Prop := ∃ v', s.run P w = .ok v' w ∧ VR ι v v'

theorem Quiet.ok {P : Program} {w0 : Base} {ι : Emb} {s : Sem Value} {w : World} {v : V} {h : Heap} (H : HR w0 ι h w) (q : Quiet P ι s w v) : SemOK P w0 ι s w (v, h) :=
  let ⟨_, hr, hv⟩ := q; .same H hv hr

section
variable {w0 : Base} {ι : Emb} {h : Heap} {w : World} {E : Env}

theorem part_sound {t : TypeId} {cs : List V} {cs' : Array Value} {off : Nat} {v : V} (hc : VRs ι cs cs'.toList) (hd : dPart E t cs off = some v) : Quiet E.P ι (part t cs' off) w v := by
  unfold dPart at hd
  obtain ⟨a, ha, hd⟩ := bind_some hd
  unfold part
  cases a with
  | true =>
    obtain ⟨n, hn, hd⟩ := map_some hd
    subst hd
    refine ⟨.agg (cs'.extract off (off + n)), by simp [run_isAgg ha, run_size hn], .agg ?_⟩
    have := (hc.drop off).take n
    simpa [Array.toList_extract, List.extract_eq_take_drop] using this
  | false =>
    obtain ⟨v', e, hv⟩ := hc.get hd
    have e' : cs'[off]? = some v' := by simpa using e
    exact ⟨v', by simp [run_isAgg ha, e'], hv⟩

theorem field_sound {t : TypeId} {x : V} {x' : Value} {f : Nat} {v : V} (hx : VR ι x x') (hd : dField E t x f = some v) : Quiet E.P ι (Instr.field t x' f) w v := by
  unfold dField at hd
  split at hd
  · rename_i fields cs hu
    obtain ⟨g, hg, hd⟩ := bind_some hd
    cases hx with
    | agg hc =>
      obtain ⟨v', hr, hv⟩ := part_sound (w := w) hc hd
      exact ⟨v', by unfold Instr.field; simp [run_und hu, hg, asAgg, hr], hv⟩
  · cases hd

theorem fieldAddr_sound {t : TypeId} {x : V} {x' : Value} {f : Nat} {v : V} (hx : VR ι x x') (hd : dFieldAddr E t x f = some v) : Quiet E.P ι (Instr.fieldAt t x' f) w v := by
  unfold dFieldAddr at hd
  split at hd
  · rename_i fields i o hu
    obtain ⟨g, hg, hd⟩ := bind_some hd
    obtain ⟨n, hn, hd⟩ := bind_some hd
    obtain ⟨hb, hd⟩ := bif_none hd
    cases hd
    cases hx with
    | ptr hp =>
      refine ⟨_, ?_, .ptr hp⟩
      unfold Instr.fieldAt
      simp only [Sem.run_bind, run_und hu, Result.andThen_ok, hg]
      unfold Instr.sureAddr fieldPlace
      simp [run_size hn, bne hb, add_none, Nat.add_assoc]
  · cases hd

theorem intIn_some {n : Int} {len k : Nat} (e : intIn n len = some k) : n = (k : Int) ∧ k < len := by
  unfold intIn at e
  split at e
  · obtain ⟨hb, e⟩ := bif_some e
    cases e
    exact ⟨rfl, blt hb⟩
  · cases e

theorem indexAddr_sound {t : TypeId} {x ix : V} {x' ix' : Value} {v : V} (hx : VR ι x x') (hi : VR ι ix ix') (hd : dIndexAddr E t x ix = some v) : Quiet E.P ι (Instr.indexAt t x' ix') w v := by
  unfold dIndexAddr at hd
  split at hd
  · rename_i e i o len lo es ex k n hu
    obtain ⟨j, hj, hd⟩ := bind_some hd
    obtain ⟨s, hs, hd⟩ := map_some hd
    subst hd
    obtain ⟨rfl, hlt⟩ := intIn_some hj
    cases hi
    cases hx with
    | sl hp h1 h2 h3 h4 h5 h6 =>
      refine ⟨_, ?_, .ptr hp⟩
      unfold Instr.indexAt
      simp only [asIntOf, Sem.run_bind, Sem.run_pure, Result.andThen_ok, run_und hu]
      have hc : (0 : Int) ≤ (j : Int) ∧ (j : Int) < (len : Int) := ⟨by omega, by omega⟩
      simp [hlt, run_size hs, add_none, h4 (by omega), Nat.add_assoc]
  · rename_i len e i o k n hu
    obtain ⟨j, hj, hd⟩ := bind_some hd
    obtain ⟨s, hs, hd⟩ := map_some hd
    subst hd
    obtain ⟨rfl, hlt⟩ := intIn_some hj
    cases hi
    cases hx with
    | ptr hp =>
      refine ⟨_, ?_, .ptr hp⟩
      unfold Instr.indexAt
      simp only [asIntOf, Sem.run_bind, Sem.run_pure, Result.andThen_ok, run_und hu]
      simp [Instr.sureAddr, hlt, run_size hs, add_none, Nat.add_assoc]
  · cases hd

theorem index_sound {t : TypeId} {x ix : V} {x' ix' : Value} {v : V} (hx : VR ι x x') (hi : VR ι ix ix') (hd : dIndex E t x ix = some v) : Quiet E.P ι (Instr.index t x' ix') w v := by
  unfold dIndex at hd
  split at hd
  · rename_i s k n hu
    split at hd
    · rename_i j
      obtain ⟨b, hb, hd⟩ := map_some hd
      subst hd
      cases hi
      cases hx with
      | str s =>
        refine ⟨_, ?_, .int ..⟩
        unfold Instr.index
        simp only [asIntOf, Sem.run_bind, Sem.run_pure, Result.andThen_ok, run_und hu]
        have e : s[(Int.ofNat j).toNat]? = some b := by
          show s[j]? = some b
          have hj : j < s.data.toList.length := (List.getElem?_eq_some_iff.1 hb).1
          have hj' : j < s.size := by simpa using hj
          have hj2 := (List.getElem?_eq_some_iff.1 hb).2
          rw [getElem?_pos s j hj', ← hj2]; rfl
        have h0 : (0 : Int) ≤ Int.ofNat j := Int.natCast_nonneg j
        rw [if_pos h0, e]
        rfl
    · cases hd
  · rename_i len e cs k n hu
    obtain ⟨j, hj, hd1⟩ := bind_some hd
    obtain ⟨s, hs, hd2⟩ := bind_some hd1
    obtain ⟨rfl, hlt⟩ := intIn_some hj
    cases hi
    cases hx with
    | agg hc =>
      obtain ⟨v', hr, hv⟩ := part_sound (w := w) hc hd2
      refine ⟨v', ?_, hv⟩
      unfold Instr.index
      simp only [asIntOf, Sem.run_bind, Sem.run_pure, Result.andThen_ok, run_und hu]
      simp [hlt, run_size hs, hr]
  · cases hd

theorem extract_sound {x : V} {x' : Value} {i : Nat} {v : V} (hx : VR ι x x') (hd : dExtract x i = some v) : Quiet E.P ι (Instr.extract x' i) w v := by
  unfold dExtract at hd
  split at hd
  · cases hx with
    | tup hc =>
      obtain ⟨v', e, hv⟩ := hc.get hd
      have e' := e
      simp only [Array.getElem?_toList] at e'
      exact ⟨v', by unfold Instr.extract; simp [e'], hv⟩
  · cases hd

theorem un_sound {op : UnOp} {x : V} {x' : Value} {v : V} (hx : VR ι x x') (hd : dUn op x = some v) : Quiet E.P ι (Op.unary op x') w v := by
  unfold dUn at hd
  split at hd
  · cases hd; cases hx; exact ⟨_, rfl, .int ..⟩
  · cases hx
    simp [dBits] at hd
    subst hd
    exact ⟨_, rfl, .int ..⟩
  · cases hd; cases hx; exact ⟨_, rfl, .bool _⟩
  · cases hd

/-- A bound of a slice expression. -/
theorem bound_sound {x : V} {x' : Value} {other most most' n : Nat} {code : BoundsCode} (hx : VR ι x x') (hd : dBound (some x) other most = some n) (hm : most ≤ most') : (Instr.sliceBound x' most' code).run E.P w = .ok n w ∧ n ≤ most := by
  unfold dBound at hd
  split at hd
  · rename_i h; cases h
  · rename_i k m h
    cases h
    obtain ⟨hb, hd⟩ := bif_some hd
    cases hd
    cases hx
    have := ble hb
    refine ⟨?_, this⟩
    unfold Instr.sliceBound
    have e : n ≤ most' := by omega
    simp [asIntOf, e]
  · cases hd

theorem bytes_slice (s : ByteArray) (a b : Nat) : (s.extract a b).data.toList = (s.data.toList.drop a).take (b - a) := by
  simp [List.extract_eq_take_drop]

theorem dBound_le {x : Option V} {other most n : Nat} (hd : dBound x other most = some n) (ho : other ≤ most) : n ≤ most := by
  unfold dBound at hd
  split at hd
  · cases hd; exact ho
  · obtain ⟨hb, hd⟩ := bif_some hd; cases hd; exact ble hb
  · cases hd

inductive OptR (ι : Emb) : Option V → Option Value → Prop
  | none : OptR ι none none
  | some {v : V} {v' : Value} (h : VR ι v v') : OptR ι (some v) (some v')

/-- The two bounds, and no third. -/
theorem bounds_sound {lo hi : Option V} {lo' hi' : Option Value} {isS : Bool} {len cap cap' a b : Nat} (hl : OptR ι lo lo') (hh : OptR ι hi hi') (hb : dBound hi len cap = some b) (ha : dBound lo 0 b = some a) (hlc : len ≤ cap) (hm : cap ≤ cap') :
    (Instr.sliceBounds isS len cap' lo' hi' none).run E.P w = .ok (a, b, cap') w ∧ a ≤ b ∧ b ≤ cap := by
  unfold Instr.sliceBounds
  cases hh with
  | none =>
    cases hb
    cases hl with
    | none => cases ha; exact ⟨by simp, by omega, hlc⟩
    | some h => obtain ⟨hr, hle⟩ := bound_sound (E := E) (w := w) (code := .sliceB) h ha (Nat.le_refl _); exact ⟨by simp [hr], hle, hlc⟩
  | some h' =>
    obtain ⟨hr', hle'⟩ := bound_sound (E := E) (w := w) (code := if isS then BoundsCode.sliceAcap else .sliceAlen) h' hb hm
    cases hl with
    | none => cases ha; exact ⟨by simp [hr'], by omega, hle'⟩
    | some h => obtain ⟨hr, hle⟩ := bound_sound (E := E) (w := w) (code := .sliceB) h ha (Nat.le_refl _); exact ⟨by simp [hr', hr], hle, hle'⟩

/-- .. and a third. -/
theorem bounds3_sound {lo : Option V} {hi mx : V} {lo' : Option Value} {hi' mx' : Value} {isS : Bool} {len cap cap' a b m : Nat} (hl : OptR ι lo lo') (hh : VR ι hi hi') (hm : VR ι mx mx') (hd : dBound (some mx) 0 cap = some m)
    (hb : dBound (some hi) 0 m = some b) (ha : dBound lo 0 b = some a) (hc : cap ≤ cap') :
    (Instr.sliceBounds isS len cap' lo' (some hi') (some mx')).run E.P w = .ok (a, b, m) w ∧ a ≤ b ∧ b ≤ m ∧ m ≤ cap := by
  unfold Instr.sliceBounds
  obtain ⟨h1, l1⟩ := bound_sound (E := E) (w := w) (code := if isS then BoundsCode.slice3Acap else .slice3Alen) hm hd hc
  obtain ⟨h2, l2⟩ := bound_sound (E := E) (w := w) (code := .slice3B) hh hb (Nat.le_refl _)
  cases hl with
  | none => cases ha; exact ⟨by simp [h1, h2], by omega, l2, l1⟩
  | some h => obtain ⟨h3, l3⟩ := bound_sound (E := E) (w := w) (code := .slice3C) h ha (Nat.le_refl _); exact ⟨by simp [h1, h2, h3], l3, l2, l1⟩

theorem VR.str' {s : List UInt8} {b : ByteArray} (e : b.data.toList = s) : VR ι (.str s) (.string b) := e ▸ VR.str b

theorem slice_sound (H : HR w0 ι h w) {t : TypeId} {x : V} {x' : Value} {lo hi mx : Option V} {lo' hi' mx' : Option Value} {v : V} (hx : VR ι x x') (hl : OptR ι lo lo') (hh : OptR ι hi hi') (hm : OptR ι mx mx')
    (hd : dSlice E t x lo hi mx h = some v) : Quiet E.P ι (Instr.sliceAt t x' lo' hi' mx') w v := by
  unfold dSlice at hd
  unfold Instr.sliceAt
  split at hd
  · rename_i s hu
    split at hd
    · obtain ⟨b, hb, hd⟩ := bind_some hd
      obtain ⟨a, ha, hd⟩ := map_some hd
      subst hd
      cases hm
      cases hx with
      | str s =>
        obtain ⟨hr, h1, h2⟩ := bounds_sound (E := E) (w := w) (isS := false) hl hh hb ha (Nat.le_refl _) (Nat.le_refl _)
        refine ⟨.string (s.extract a b), ?_, .str' (bytes_slice s a b)⟩
        unfold Instr.slice
        simp only [Sem.run_bind, run_und hu, Result.andThen_ok, Option.isSome_none, Bool.false_eq_true, if_false, Sem.run_pure]
        have e : s.data.toList.length = s.size := by simp
        rw [e] at hr
        simp [hr]
    · cases hd
  · rename_i e es hu
    obtain ⟨sz, hsz, hd⟩ := bind_some hd
    split at hd
    · obtain ⟨b, hb, hd⟩ := bind_some hd
      obtain ⟨a, ha, hd⟩ := map_some hd
      subst hd
      cases hm
      cases hx with
      | slN =>
        obtain rfl : b = 0 := by have := dBound_le hb (Nat.le_refl 0); omega
        obtain rfl : a = 0 := by have := dBound_le ha (Nat.le_refl 0); omega
        obtain ⟨hr, h1, h2⟩ := bounds_sound (E := E) (w := w) (isS := true) hl hh hb ha (Nat.le_refl _) (Nat.le_refl 0)
        refine ⟨.slice none 0 0, ?_, .slN es⟩
        unfold Instr.slice
        simp [run_und hu, hr, run_size hsz]
    · cases hd
  · rename_i e i o len least es ex hu
    obtain ⟨sz, hsz, hd⟩ := bind_some hd
    obtain ⟨he, hd⟩ := bif_some hd
    obtain rfl := beq he
    split at hd
    · obtain ⟨b, hb, hd⟩ := bind_some hd
      obtain ⟨a, ha, hd⟩ := map_some hd
      subst hd
      cases hm
      cases hx with
      | @sl _ _ _ _ _ off c _ p hp k1 k2 k3 k4 k5 k6 =>
        obtain ⟨hr, h1, h2⟩ := bounds_sound (E := E) (w := w) (isS := true) hl hh hb ha k1 k2
        have hmul : a * es + (c - a) * es = c * es := by rw [← Nat.add_mul]; congr 1; omega
        have hrun : (Instr.slice t (.slice (some ⟨p.blk, off, none⟩) len c) lo' hi' none).run E.P w = .ok (.slice (some ⟨p.blk, if c = a then off else off + a * es, none⟩) (b - a) (c - a)) w := by
          unfold Instr.slice
          simp only [Sem.run_bind, run_und hu, Result.andThen_ok, hr, run_size hsz, Sem.run_pure, Option.map_some, add_none]
          split <;> simp_all
        refine ⟨_, by simpa [run_und hu] using hrun, ?_⟩
        refine .sl hp (by omega) (by omega) (fun e => by have := k3 e; omega) (fun h0 => ?_) ?_ ?_
        · rw [if_neg (by omega), k4 (by omega)]; omega
        · split <;> omega
        · split
          · rename_i hca; subst hca; simp; have : 0 ≤ c * es := Nat.zero_le _; omega
          · omega
    · rename_i mv
      obtain ⟨mm, hm', hd⟩ := bind_some hd
      split at hd
      · cases hd
      · rename_i xv
        obtain ⟨b, hb, hd⟩ := bind_some hd
        obtain ⟨a, ha, hd⟩ := map_some hd
        subst hd
        cases hm with
        | some hm =>
        cases hh with
        | some hh =>
        cases hx with
        | @sl _ _ _ _ _ off c _ p hp k1 k2 k3 k4 k5 k6 =>
          obtain ⟨hr, h1, h2, h3⟩ := bounds3_sound (E := E) (w := w) (isS := true) (len := len) hl hh hm hm' hb ha k2
          have hmul : a * es + (mm - a) * es = mm * es := by rw [← Nat.add_mul]; congr 1; omega
          have hle : mm * es ≤ c * es := Nat.mul_le_mul_right _ (by omega)
          refine ⟨.slice (some ⟨p.blk, if mm = a then off else off + a * es, none⟩) (b - a) (mm - a), ?_, ?_⟩
          · unfold Instr.slice
            simp only [Sem.run_bind, run_und hu, Result.andThen_ok, hr, run_size hsz, Sem.run_pure, Option.map_some, add_none]
            split <;> simp_all
          · refine .sl hp (by omega) (by omega) (fun _ => rfl) (fun h0 => ?_) ?_ ?_
            · rw [if_neg (by omega), k4 (by omega)]; omega
            · split <;> omega
            · split
              · rename_i hca; subst hca; simp; have : 0 ≤ c * es := Nat.zero_le _; omega
              · omega
  · rename_i n e i o hu
    obtain ⟨sz, hsz, hd⟩ := bind_some hd
    obtain ⟨cs, hcs, hd⟩ := bind_some hd
    obtain ⟨hlen, hd⟩ := bif_some hd
    have hlen := ble hlen
    split at hd
    · obtain ⟨b, hb, hd⟩ := bind_some hd
      obtain ⟨a, ha, hd⟩ := map_some hd
      subst hd
      cases hm
      cases hx with
      | @ptr _ _ p hp =>
        obtain ⟨k, hg⟩ := cells_some hcs
        obtain ⟨q, hq, c, e', fz, h1, h2, h3, _⟩ := H.obj _ _ hg
        rw [hp] at hq; cases hq
        obtain ⟨hr, l1, l2⟩ := bounds_sound (E := E) (w := w) (isS := false) hl hh hb ha (Nat.le_refl _) (Nat.le_refl n)
        have hmul : a * sz + (n - a) * sz = n * sz := by rw [← Nat.add_mul]; congr 1; omega
        refine ⟨.slice (some ⟨p.blk, if n = a then p.base + o else p.base + o + a * sz, none⟩) (b - a) (n - a), ?_, ?_⟩
        · simp only [Sem.run_bind, run_und hu, Result.andThen_ok, Instr.sureAddr, Sem.run_pure, hr, run_size hsz, add_none]
          split <;> simp_all
        · refine .sl hp (by omega) (by omega) (fun _ => rfl) (fun h0 => ?_) ?_ ?_
          · rw [if_neg (by omega)]; omega
          · split <;> omega
          · split
            · rename_i hca; subst hca; simp; omega
            · omega
    · cases hd
  · cases hd

end
end Go.Zs
