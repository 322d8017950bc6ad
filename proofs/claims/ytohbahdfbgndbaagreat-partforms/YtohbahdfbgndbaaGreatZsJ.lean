/- A sound evaluator for the model's programs, tenth part: new objects, conversions. -/
import Derived.Test.YtohbahdfbgndbaaGreatZsI
namespace Go.Zs
open Go Go.RowKit

section
variable {w0 : Base} {ι : Emb} {h : Heap} {w : World} {E : Env}

/-- New cells of the call's own. -/
theorem HR.newCells (H : HR w0 ι h w) {cs : List V} {c : Array Value} {e : TypeId} (hc : VRs ι cs c.toList) :
    HR w0 (ι.add h.next ⟨w.heap.size, 0, c.size⟩) (h.new (.cells cs .own)) (w.alloc (.cells c e)) := by
  refine H.new rfl ⟨c, e, (0, 0), heap_alloc_new _ _, by simp, ?_, ?_, ?_, fun _ => rfl⟩
  · have := hc.length; simp at this; show cs.length ≤ c.size; omega
  · show VRs ι cs ((c.toList.drop 0).take cs.length)
    rw [List.drop_zero, hc.length, List.take_length]
    exact hc
  · intro _ j _; simp

/-- .. with room behind them. -/
theorem HR.newRoom (H : HR w0 ι h w) {cs : List V} {c r : Array Value} {e : TypeId} (hc : VRs ι cs c.toList) (k : Kd := .own) :
    HR w0 (ι.add h.next ⟨w.heap.size, 0, c.size + r.size⟩) (h.new (.cells cs k)) (w.alloc (.cells (c ++ r) e)) := by
  refine H.new rfl ⟨c ++ r, e, (0, 0), heap_alloc_new _ _, by simp, ?_, ?_, ?_, fun _ => rfl⟩
  · have := hc.length; simp at this; show cs.length ≤ c.size + r.size; omega
  · show VRs ι cs (((c ++ r).toList.drop 0).take cs.length)
    rw [List.drop_zero, hc.length, Array.toList_append, List.take_left']
    · exact hc
    · rfl
  · intro _ j _; simp

theorem VR.new_ptr (p : Pl) (i : Nat) (hb : p.base = 0) : VR (ι.add i p) (.ptr (some (i, 0))) (.pointer (some ⟨p.blk, 0, none⟩)) := by
  have := VR.ptr (o := 0) (Emb.add_same ι i p)
  rw [hb] at this
  exact this

theorem VR.new_sl (p : Pl) (i len lo es c : Nat) (ex : Bool) (hb : p.base = 0) (h1 : len ≤ lo) (h2 : lo ≤ c) (h3 : ex = true → c = lo) (h6 : c * es ≤ p.ext) :
    VR (ι.add i p) (.sl (some (i, 0)) len lo es ex) (.slice (some ⟨p.blk, 0, none⟩) len c) :=
  .sl (Emb.add_same ι i p) h1 h2 h3 (fun _ => by omega) (by omega) (by omega)

theorem box_sound (H : HR w0 ι h w) {t : TypeId} {x : V} {x' : Value} (hx : VR ι x x') (hp : x.plain = true) :
    SemOK E.P w0 ι (Instr.box t x') w (.ptr (some (h.next, 0)), h.new (.cells x.cells .own)) :=
  ⟨_, _, _, H.le_add _, H.newCells (e := t) (hx.cells hp), VR.new_ptr ⟨w.heap.size, 0, x'.cells.size⟩ h.next rfl, rfl⟩

theorem alloc_sound (H : HR w0 ι h w) {t : TypeId} {z : V} (hz : zeroB E t = some z) (hp : z.plain = true) :
    SemOK E.P w0 ι (Instr.alloc t true (.tuple #[])) w (.ptr (some (h.next, 0)), h.new (.cells z.cells .own)) := by
  obtain ⟨z', hr, rfl⟩ := run_zero hz
  refine ⟨_, _, _, H.le_add _, H.newCells (e := t) ((VR.ofValue z').cells hp), VR.new_ptr ⟨w.heap.size, 0, z'.cells.size⟩ h.next rfl, ?_⟩
  unfold Instr.alloc
  simp only [Sem.run_bind, hr w, Result.andThen_ok]
  rfl

theorem buildSlice_sound (H : HR w0 ι h w) {t : TypeId} {len : Nat} {ps : List (Nat × V)} {ps' : Array (Nat × Value)} {r : V × Heap} (hps : PsR ι ps ps'.toList) (hd : dBuildSlice E t len ps h = some r) :
    SemOK E.P w0 ι (Instr.buildSlice t len ps') w r := by
  unfold dBuildSlice at hd
  split at hd
  · rename_i e hu
    obtain ⟨s, hs, hd⟩ := bind_some hd
    obtain ⟨hb, hd⟩ := bif_some hd
    obtain ⟨z, hz, hd⟩ := bind_some hd
    obtain ⟨cs, hcs, rfl⟩ := map_some hd
    obtain ⟨s', hs', hzl, hzz⟩ := zeros_sound hz
    rw [hs] at hs'; cases hs'
    unfold Instr.buildSlice
    have hle : ¬ len * s > 2 ^ 24 := by have := ble hb; omega
    rcases hzz with ⟨h0, rfl⟩ | ⟨hne, z', hr, hsz, hv⟩
    · obtain ⟨r', hf, hv⟩ := fill_sound (ι := ι) (cs' := (Array.range (len * s)).map ((#[] : Array Value)[· % (#[] : Array Value).size]!)) hps (by rw [h0]; simpa using VRs.nil) hcs
      refine ⟨_, _, _, H.le_add _, H.newCells (e := e) hv, VR.new_sl ⟨w.heap.size, 0, r'.size⟩ h.next len len s len true rfl (Nat.le_refl _) (Nat.le_refl _) (fun _ => rfl) (by rw [h0]; exact Nat.zero_le _), ?_⟩
      simp only [Sem.run_bind, run_und hu, Result.andThen_ok, run_size hs, if_neg hle, if_pos h0, Sem.run_pure, hf]
      rfl
    · have hv' := hv ι
      rw [hsz] at hv'
      obtain ⟨r', hf, hv2⟩ := fill_sound (ι := ι) hps hv' hcs
      have hl : r'.size = len * s := by
        have l1 := hv2.length
        have l2 : ∀ {ps : List (Nat × V)} {a b : List V}, dFill (fun i => some (i * s, s)) a ps = some b → b.length = a.length := by
          intro ps
          induction ps with
          | nil => intro a b e; simp only [dFill] at e; cases e; rfl
          | cons p ps ih =>
            intro a b e
            obtain ⟨i, v⟩ := p
            simp only [dFill] at e
            obtain ⟨hc, e⟩ := bif_some e
            rw [ih e]
            simp only [Bool.and_eq_true] at hc
            have := ble hc.2
            unfold splice; simp; omega
        have := l2 hcs
        simp at l1; omega
      refine ⟨_, _, _, H.le_add _, H.newCells (e := e) hv2, VR.new_sl ⟨w.heap.size, 0, r'.size⟩ h.next len len s len true rfl (Nat.le_refl _) (Nat.le_refl _) (fun _ => rfl) (by show _ ≤ r'.size; omega), ?_⟩
      simp only [Sem.run_bind, run_und hu, Result.andThen_ok, run_size hs, if_neg hle, if_neg hne, hr w, Sem.run_pure, hsz, hf]
      rfl
  · cases hd

theorem makeSlice_sound (H : HR w0 ι h w) {t : TypeId} {l c : V} {l' c' : Value} {r : V × Heap} (hl : VR ι l l') (hc : VR ι c c') (hd : dMakeSlice E t l c h = some r) : SemOK E.P w0 ι (Instr.makeSlice t l' c') w r := by
  unfold dMakeSlice at hd
  split at hd
  · rename_i e k1 n k2 m hu
    obtain ⟨i, hi, hd⟩ := bind_some hd
    obtain ⟨hb, hd⟩ := bif_some hd
    obtain ⟨z, hz, rfl⟩ := map_some hd
    simp only [Bool.and_eq_true] at hb
    obtain ⟨⟨hb1, hb2⟩, hb3⟩ := hb
    have hb1 := ble hb1
    have hb2 := ble hb2
    have hb3 := ble hb3
    obtain ⟨s', hs', hzl, hzz⟩ := zeros_sound hz
    have hs : s' = i.size := by unfold sizeB at hs'; rw [hi] at hs'; cases hs'; rfl
    subst hs
    cases hl; cases hc
    have wl : IntKind.i64.wrap (Int.ofNat n) = Int.ofNat n := by
      unfold IntKind.wrap; simp [IntKind.bits, IntKind.signed]; omega
    have wc : IntKind.i64.wrap (Int.ofNat m) = Int.ofNat m := by
      unfold IntKind.wrap; simp [IntKind.bits, IntKind.signed]; omega
    have t1 : ¬ ((i.bytes : Int) * Int.ofNat m > 2 ^ 48) := by
      have : ((i.bytes * m : Nat) : Int) ≤ (281474976710656 : Nat) := Int.ofNat_le.2 hb2
      simp only [Int.natCast_mul] at this
      simp only [Int.ofNat_eq_natCast]
      omega
    have cond : (((decide (Int.ofNat m < 0) || decide ((i.bytes : Int) * Int.ofNat m > 2 ^ 48)) || decide (Int.ofNat n < 0)) || decide (Int.ofNat n > Int.ofNat m)) = false := by
      simp only [Bool.or_eq_false_iff, decide_eq_false_iff_not]
      refine ⟨⟨⟨?_, t1⟩, ?_⟩, ?_⟩ <;> simp only [Int.ofNat_eq_natCast] <;> omega
    unfold Instr.makeSlice
    have hsz : (sizeOf e).run E.P w = .ok i.size w := run_size hs'
    rcases hzz with ⟨h0, rfl⟩ | ⟨hne, z', hr, hsz', hv⟩
    · refine ⟨_, _, _, H.le_add _, H.newCells (e := e) (c := #[]) (by simpa using VRs.nil), VR.new_sl ⟨w.heap.size, 0, 0⟩ h.next n m i.size m true rfl hb1 (Nat.le_refl _) (fun _ => rfl) (by rw [h0]; exact Nat.zero_le _), ?_⟩
      simp only [Sem.run_bind, run_und hu, Result.andThen_ok, asInt, asIntOf, Sem.run_pure, run_info hi, wl, wc, cond, Bool.false_eq_true, if_false, run_askRoom, hsz]
      have e0 : (Int.ofNat m).toNat * i.size = 0 := h0
      simp only [e0, if_true, Sem.run_bind, Sem.run_pure, Result.andThen_ok, newRow, run_newObj]
      have er : Array.range 0 = #[] := rfl
      simp [er]
    · have hv' := hv ι
      refine ⟨_, _, _, H.le_add _, H.newCells (e := e) hv', VR.new_sl ⟨w.heap.size, 0, _⟩ h.next n m i.size m true rfl hb1 (Nat.le_refl _) (fun _ => rfl) ?_, ?_⟩
      · simp [hsz']
      · simp only [Sem.run_bind, run_und hu, Result.andThen_ok, asInt, asIntOf, Sem.run_pure, run_info hi, wl, wc, cond, Bool.false_eq_true, if_false, run_askRoom, hsz]
        have e0 : (Int.ofNat m).toNat * i.size = m * i.size := rfl
        simp only [e0, if_neg hne, hr w, Sem.run_bind, Sem.run_pure, Result.andThen_ok, hsz']
        rfl
  · cases hd

end
end Go.Zs
