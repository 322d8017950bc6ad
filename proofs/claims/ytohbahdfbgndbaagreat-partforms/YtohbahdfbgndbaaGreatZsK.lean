/- A sound evaluator for the model's programs, eleventh part: strings and bytes, maps. -/
import Derived.Test.YtohbahdfbgndbaaGreatZsJ
namespace Go.Zs
open Go Go.RowKit

section
variable {w0 : Base} {ι : Emb} {h : Heap} {w : World} {E : Env}

theorem bytes_vs {s : List UInt8} : ∀ {vs : List V} {vs' : List Value}, VRs ι vs vs' → bytesOfVs vs = some s → ∃ ns : List Int, vs' = ns.map (fun n => Value.int .u8 n) ∧ s = ns.map (fun n => UInt8.ofNat n.toNat) := by
  induction s with
  | nil =>
    intro vs vs' hv hd
    cases hv with
    | nil => exact ⟨[], rfl, rfl⟩
    | cons a t =>
      simp only [bytesOfVs] at hd
      obtain ⟨b, _, hd⟩ := bind_some hd
      obtain ⟨r, _, hd⟩ := map_some hd
      cases hd
  | cons x s ih =>
    intro vs vs' hv hd
    cases hv with
    | nil => simp [bytesOfVs] at hd
    | cons a t =>
      simp only [bytesOfVs] at hd
      obtain ⟨b, hb, hd⟩ := bind_some hd
      obtain ⟨r, hr, hd⟩ := map_some hd
      cases hd
      obtain ⟨ns, rfl, rfl⟩ := ih t hr
      unfold byteOfV at hb
      split at hb
      · rename_i n
        cases a
        cases hb
        exact ⟨n :: ns, rfl, rfl⟩
      · cases hb

theorem push_loop {P : Program} (f : Value → ByteArray → Sem (ForInStep ByteArray)) (hf : ∀ n s, f (.int .u8 n) s = pure (ForInStep.yield (s.push (UInt8.ofNat n.toNat)))) : ∀ (ns : List Int) (s : ByteArray) (w : World),
    (forIn (ns.map (fun n => Value.int .u8 n)) s f).run P w = .ok ⟨(s.data.toList ++ ns.map (fun n => UInt8.ofNat n.toNat)).toArray⟩ w
  | [], s, w => by simp
  | n :: ns, s, w => by
    simp only [List.map_cons, List.forIn_cons, hf, Sem.run_bind, Sem.run_pure, Result.andThen_ok]
    rw [push_loop f hf ns]
    congr 2
    simp [ByteArray.push]

theorem bytesToString_sound (H : HR w0 ι h w) {i o len lo es : Nat} {ex : Bool} {cs : List V} {k : Kd} {x' : Value} {s : List UInt8} (hx : VR ι (.sl (some (i, o)) len lo es ex) x') (hg : h.get i = some (.cells cs k))
    (hs : (len = 0 ∧ s = []) ∨ (o + len ≤ cs.length ∧ bytesOfVs ((cs.drop o).take len) = some s)) : Quiet E.P ι (Conv.bytesToString x') w (.str s) := by
  cases hx with
  | @sl _ _ _ _ _ off c _ p hp k1 k2 k3 k4 k5 k6 =>
  unfold Conv.bytesToString
  by_cases h0 : len = 0
  · subst h0
    have : s = [] := by
      rcases hs with ⟨_, e⟩ | ⟨_, e⟩
      · exact e
      · simpa [bytesOfVs] using e.symm
    subst this
    refine ⟨.string .empty, ?_, .str' rfl⟩
    simp [loadCells, loadCellsFrom]
  · rcases hs with ⟨e, _⟩ | ⟨hle, hb⟩
    · exact absurd e h0
    · obtain ⟨vs', hr, hv, _⟩ := H.row (P := E.P) hg hp hle
      obtain ⟨ns, hns, rfl⟩ := bytes_vs hv hb
      rw [k4 (by omega)]
      refine ⟨.string ⟨(ns.map (fun n => UInt8.ofNat n.toNat)).toArray⟩, ?_, .str' (by simp)⟩
      simp only [Sem.run_bind, hr, Result.andThen_ok]
      rw [← Array.forIn_toList, hns]
      rw [push_loop (P := E.P) _ (fun _ _ => rfl) ns ByteArray.empty w]
      simp

/-- A string's bytes, in new memory. -/
theorem freeze_new (w : World) (c : Array Value) (e : TypeId) : (w.alloc (.cells c e)).freeze ⟨w.heap.size, c.size, none⟩ 1 = w.alloc (.cells c e (c.size, c.size + 1)) := by
  unfold World.freeze World.alloc
  simp only [Nat.one_ne_zero, if_false]
  congr 1
  apply Array.ext
  · simp
  · intro i h1 h2
    simp only [Array.size_modify, Array.size_push] at h1
    rw [Array.getElem_modify]
    by_cases hi : i = w.heap.size
    · subst hi; simp
    · rw [if_neg (Ne.symm hi), Array.getElem_push, Array.getElem_push, dif_pos (by omega), dif_pos (by omega)]

theorem stringToBytes_sound (H : HR w0 ι h w) {e : TypeId} (s : ByteArray) (hs : s.size ≤ 1073741824) :
    SemOK E.P w0 ι (Conv.stringToBytes e s) w (.sl (some (h.next, 0)) s.data.toList.length s.data.toList.length 1 false, h.new (.cells (s.data.toList.map fun b => .int .u8 b.toNat) .mark)) := by
  unfold Conv.stringToBytes
  have hl : s.data.toList.length = s.size := by simp
  rw [hl]
  generalize hcap : (Question.appendCap s.size 0 e).cut (w.tape w.drawn (Question.appendCap s.size 0 e)) = cap
  have hle : s.size ≤ cap := by rw [← hcap]; simp [Question.cut]
  let c : Array Value := s.data.map (fun b => Value.int .u8 b.toNat) ++ Array.replicate (cap - s.size) (.int .u8 0)
  have hc : c.size = cap := by simp [c]; have : s.data.size = s.size := rfl; omega
  have hmap : VRs ι (s.data.toList.map fun b => V.int .u8 b.toNat) (s.data.map (fun b => Value.int .u8 b.toNat)).toList := by
    rw [Array.toList_map]
    exact VRs.map_of (fun b => .int ..) _
  refine ⟨ι.add h.next ⟨w.heap.size, 0, cap⟩, .slice (some ⟨w.heap.size, 0, none⟩) s.size cap, w.drew.alloc (.cells c e (c.size, c.size + 1)), H.le_add _, ?_, ?_, ?_⟩
  · have := H.drew.new (o := .cells (s.data.toList.map fun b => V.int .u8 b.toNat) .mark) (o' := .cells c e (c.size, c.size + 1)) (p := ⟨w.heap.size, 0, cap⟩) rfl
      ⟨c, e, _, heap_alloc_new _ _, by simp [hc], by simp; have : s.data.size = s.size := rfl; omega, by
        show VRs ι _ ((c.toList.drop 0).take _)
        rw [List.drop_zero, hmap.length, Array.toList_append, List.take_left']
        · exact hmap
        · rfl, by intro _ j hj; simp; omega, by intro e; cases e⟩
    exact this
  · exact VR.new_sl ⟨w.heap.size, 0, cap⟩ h.next s.size s.size 1 cap false rfl (Nat.le_refl _) hle (fun e => by cases e) (by simp)
  · simp only [Sem.run_bind, run_choose, Question.forced, Bool.false_eq_true, if_false, Result.andThen_ok, hcap, newRow, run_newObj, Sem.run_pure, markStringish, World.drew_eq, World.alloc_eq]
    have hsh : (w.drew.alloc (.cells c e)).shape? w.drew.heap.size = some (e, c.size) := by
      unfold World.shape?
      rw [heap_alloc_new]
    have hfr := freeze_new w.drew c e
    simp only [run_shape]
    show ((Result.ok ((w.drew.alloc (.cells c e)).shape? w.drew.heap.size) (w.drew.alloc (.cells c e))).andThen _).andThen _ = _
    rw [hsh]
    simp only [Result.andThen_ok, run_freeze, hfr, Sem.run_pure]
    rfl

end
end Go.Zs
