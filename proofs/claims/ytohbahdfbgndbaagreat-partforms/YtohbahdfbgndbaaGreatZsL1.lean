/- Rules for the typed form of functions: what each operation comes to on values of known kinds. -/
import Derived.Test.YtohbahdfbgndbaaGreatZsK3
namespace Go.Zs
open Go

section
variable {R : Type}

theorem iterK_succ (B : (Out → Fs → Heap → Option R) → Fs → Heap → Option R) (K : Out → Fs → Heap → Option R) (k : Nat) (f : Fs) (h : Heap) :
    iterK true B K (k + 1) f h = B (fun o f h => seqK o (iterK true B K k f h) (K o f h)) f h := rfl
theorem seqK_n (a b : Option R) : seqK .normal a b = a := rfl
theorem seqK_e (i : Nat) (a b : Option R) : seqK (.exit i) a b = b := rfl
theorem seqK_r (a b : Option R) : seqK .ret a b = b := rfl
theorem blkK_n (i : Nat) (a b : Option R) : blkK i .normal a b = b := rfl
theorem blkK_r (i : Nat) (a b : Option R) : blkK i .ret a b = b := rfl
theorem blkK_e (i j : Nat) (a b : Option R) : blkK i (.exit j) a b = if j = i then a else b := by
  show @Bool.rec (fun _ => Option R) b a (Nat.beq j i) = _
  by_cases h : j = i
  · subst h; rw [Nat.beq_refl, if_pos rfl]
  · rw [T.beq_false h, if_neg h]
theorem cndV_b (c : Bool) (a b : Option R) : cndV (.bool c) a b = if c = true then a else b := by cases c <;> rfl
theorem pkK_b (c : Bool) (a b : V) (K : V → Option R) : pkK (.bool c) a b K = K (if c = true then a else b) := by cases c <;> rfl
theorem gdP_b (c w : Bool) (x : Option V) (K : V → Option R) : gdP (.bool c) w x K = if c = w then x.bind K else K .undef := by
  unfold gdP gdV
  cases c <;> cases w <;> rfl
theorem gdE_b (c w : Bool) (x : Option (V × Heap)) (h : Heap) (K : V → Heap → Option R) : gdE (.bool c) w x h K = if c = w then x.bind (fun r => K r.1 r.2) else K .undef h := by
  unfold gdE gdV
  cases c <;> cases w <;> rfl
theorem bne_false' (b : Bool) : (b != false) = b := by cases b <;> rfl
theorem intK_i (op : BinOp) (k k' : IntKind) (a b : Int) (K : V → Option R) : intK op (.int k a) (.int k' b) K = (intOp op k a k' b).bind K := rfl
theorem strK_s (op : BinOp) (a b : List UInt8) (K : V → Option R) : strK op (.str a) (.str b) K = (dStr op a b).bind K := rfl
theorem cvI_i (k k' : IntKind) (n : Int) (K : V → Option R) : cvI k (.int k' n) K = K (.int k (k.wrap n)) := rfl
theorem lenS_s (s : List UInt8) (K : V → Option R) : lenS (.str s) K = K (.int .i64 s.length) := rfl
theorem lenL_l (a : Option (Nat × Nat)) (l m s : Nat) (x : Bool) (K : V → Option R) : lenL (.sl a l m s x) K = K (.int .i64 l) := rfl
theorem exK_t (i : Nat) (vs : List V) (K : V → Option R) : exK i (.tup vs) K = (vs[i]?).bind K := rfl
theorem nilV_p (a : Nat × Nat) (K : V → Option R) : nilV (.ptr (some a)) K = K (.ptr (some a)) := rfl
theorem faK_p (off i o : Nat) (K : V → Option R) : faK off (.ptr (some (i, o))) K = K (.ptr (some (i, o + off))) := rfl
theorem bindVH_s (r : V × Heap) (K : V → Heap → Option R) : bindVH (some r) K = K r.1 r.2 := rfl
theorem refK_s (n b : Bool) (K : V → Option R) : refK n (some b) K = K (.bool (b != n)) := rfl
theorem eqPtr_nn (s : Nat) (h : Heap) : eqPtr s (.ptr none) (.ptr none) h = some true := rfl
theorem eqPtr_sn (s : Nat) (a : Nat × Nat) (h : Heap) : eqPtr s (.ptr (some a)) (.ptr none) h = some false := rfl
theorem ixS_i (s : List UInt8) (k : IntKind) (n : Int) (K : V → Option R) : ixS (.str s) (.int k n) K = (intIn n s.length).bind fun k => (s[k]?).bind fun b => K (.int .u8 b.toNat) := rfl
theorem intIn_nat (k len : Nat) : intIn (k : Int) len = if k < len then some k else none := by
  show (bif Nat.blt k len then some k else none) = _
  by_cases h : k < len
  · rw [if_pos h, show Nat.blt k len = true from Nat.ble_eq_true_of_le h]; rfl
  · rw [if_neg h]
    cases hb : Nat.blt k len
    · rfl
    · exact absurd (Nat.le_of_ble_eq_true hb) h

theorem io_add (k : IntKind) (a b : Int) : intOp .add k a k b = some (.int k (k.wrap (a + b))) := by simp [intOp, dInt]
theorem io_sub (k : IntKind) (a b : Int) : intOp .sub k a k b = some (.int k (k.wrap (a - b))) := by simp [intOp, dInt]
theorem io_mul (k : IntKind) (a b : Int) : intOp .mul k a k b = some (.int k (k.wrap (a * b))) := by simp [intOp, dInt]
theorem io_eql (k : IntKind) (a b : Int) : intOp .eql k a k b = some (.bool (decide (a = b))) := by simp [intOp, dInt]; rfl
theorem io_neq (k : IntKind) (a b : Int) : intOp .neq k a k b = some (.bool (decide (a ≠ b))) := by simp [intOp, dInt]; rfl
theorem io_lss (k : IntKind) (a b : Int) : intOp .lss k a k b = some (.bool (decide (a < b))) := by simp [intOp, dInt]
theorem io_leq (k : IntKind) (a b : Int) : intOp .leq k a k b = some (.bool (decide (a ≤ b))) := by simp [intOp, dInt]
theorem io_gtr (k : IntKind) (a b : Int) : intOp .gtr k a k b = some (.bool (decide (b < a))) := by simp [intOp, dInt]
theorem io_geq (k : IntKind) (a b : Int) : intOp .geq k a k b = some (.bool (decide (b ≤ a))) := by simp [intOp, dInt]
theorem io_quo (k : IntKind) (a b : Int) : intOp .quo k a k b = if b = 0 then none else some (.int k (k.wrap (a.tdiv b))) := by simp [intOp, dInt]
theorem io_rem (k : IntKind) (a b : Int) : intOp .rem k a k b = if b = 0 then none else some (.int k (a.tmod b)) := by simp [intOp, dInt]
theorem io_and (k : IntKind) (a b : Nat) (ha : a < limK k) (hb : b < limK k) : intOp .and k (a : Int) k (b : Int) = some (.int k (a &&& b : Nat)) := by
  have := bits_and (k := k) a b ha hb
  simp only [intOp, if_pos, dInt]; exact this
theorem io_or (k : IntKind) (a b : Nat) (ha : a < limK k) (hb : b < limK k) : intOp .or k (a : Int) k (b : Int) = some (.int k (a ||| b : Nat)) := by
  have := bits_or (k := k) a b ha hb
  simp only [intOp, if_pos, dInt]; exact this
theorem io_xor (k : IntKind) (a b : Nat) (ha : a < limK k) (hb : b < limK k) : intOp .xor k (a : Int) k (b : Int) = some (.int k (a ^^^ b : Nat)) := by
  have := bits_xor (k := k) a b ha hb
  simp only [intOp, if_pos, dInt]; exact this
theorem io_shr (k k' : IntKind) (a b : Nat) (hb : b ≤ k.bits) : intOp .shr k (a : Int) k' (b : Int) = some (.int k (a / 2 ^ b : Nat)) := by
  simp only [intOp]
  rw [if_neg (by omega), Int.toNat_natCast, Nat.min_eq_left hb]
  rw [Int.fdiv_eq_ediv_of_nonneg _ (by exact_mod_cast Nat.zero_le _)]
  norm_cast

theorem mkS_i (bytes size : Nat) (z : List V) (k k' : IntKind) (l c : Nat) (h : Heap) (K : V → Heap → Option R) (h1 : l ≤ c) (h2 : bytes * c ≤ 281474976710656) (h3 : c ≤ 1073741824) :
    mkS bytes size z (.int k (l : Int)) (.int k' (c : Int)) h K = K (.sl (some (h.next, 0)) l c size true) (h.new (.cells (copies z c) .own)) := by
  show (bif Nat.ble l c && Nat.ble (bytes * c) 281474976710656 && Nat.ble c 1073741824 then _ else none) = _
  rw [Nat.ble_eq_true_of_le h1, Nat.ble_eq_true_of_le h2, Nat.ble_eq_true_of_le h3]
  rfl
theorem cells_of {h : Heap} {i : Nat} {cs : List V} {k : Kd} (hg : h.get i = some (.cells cs k)) : h.cells i = some cs := by unfold Heap.cells; rw [hg]
theorem ld1_c {h : Heap} {i o : Nat} {cs : List V} {k : Kd} (hg : h.get i = some (.cells cs k)) (K : V → Option R) : ld1 (.ptr (some (i, o))) h K = (cs[o]?).bind K := by
  show (h.cells i).bind (fun cs => (cs[o]?).bind K) = _
  rw [cells_of hg]; rfl
theorem ldA_c {h : Heap} {i o n : Nat} {cs : List V} {k : Kd} (hg : h.get i = some (.cells cs k)) (hl : o + n ≤ cs.length) (K : V → Option R) : ldA n (.ptr (some (i, o))) h K = K (.agg ((cs.drop o).take n)) := by
  show (h.cells i).bind (fun cs => bif Nat.ble (o + n) cs.length then K (.agg ((cs.drop o).take n)) else none) = _
  rw [cells_of hg, Option.bind_some, Nat.ble_eq_true_of_le hl]; rfl
theorem st1_c {h : Heap} {i o : Nat} {cs : List V} {k : Kd} {v : V} (hg : h.get i = some (.cells cs k)) (hk : k.wr = true) (hl : o < cs.length) (hv : v.one = true) (K : Heap → Option R) : st1 (.ptr (some (i, o))) v h K = K (h.set i (.cells (cs.set o v) k)) := by
  show (match h.get i with | some (.cells cs k) => bif k.wr && Nat.blt o cs.length && v.one then K (h.set i (.cells (cs.set o v) k)) else none | _ => none) = _
  rw [hg]
  simp only [hk, hv, show Nat.blt o cs.length = true from Nat.ble_eq_true_of_le hl, Bool.and_self, cond_true]
theorem iaS_i (s i o len m es : Nat) (x : Bool) (k : IntKind) (n : Int) (K : V → Option R) : iaS s (.sl (some (i, o)) len m es x) (.int k n) K = (intIn n len).bind fun k => K (.ptr (some (i, o + k * s))) := rfl
theorem cvBS_c {h : Heap} {i o len m es : Nat} {x : Bool} {cs : List V} {k : Kd} {s : List UInt8} (hg : h.get i = some (.cells cs k)) (hl : len ≠ 0 → o + len ≤ cs.length) (hs : len ≠ 0 → bytesOfVs ((cs.drop o).take len) = some s) (h0 : len = 0 → s = []) (K : V → Option R) :
    cvBS (.sl (some (i, o)) len m es x) h K = K (.str s) := by
  show ((h.cells i).bind fun cs => bif Nat.beq len 0 then K (.str []) else bif Nat.ble (o + len) cs.length then (bytesOfVs ((cs.drop o).take len)).bind fun s => K (.str s) else none) = _
  rw [cells_of hg, Option.bind_some]
  by_cases h : len = 0
  · rw [T.beq_true h, h0 h]; rfl
  · rw [T.beq_false h, cond_false, Nat.ble_eq_true_of_le (hl h), cond_true, hs h]; rfl
def bytesV (s : List UInt8) : List V := s.map fun b => .int .u8 b.toNat
theorem bytesOfVs_map : ∀ s : List UInt8, bytesOfVs (bytesV s) = some s
  | [] => rfl
  | b :: s => by
    show ((byteOfV (.int .u8 b.toNat)).bind fun b => (bytesOfVs (bytesV s)).map fun r => b :: r) = _
    rw [bytesOfVs_map s]
    show some (UInt8.ofNat (b.toNat : Int).toNat :: s) = _
    simp
theorem copies_one (z : V) : ∀ n, copies [z] n = List.replicate n z
  | 0 => rfl
  | n + 1 => by rw [copies, copies_one z n]; rfl

theorem dStr_add {a b : List UInt8} (h : a.length + b.length ≤ 1073741824) : dStr .add a b = some (.str (a ++ b)) := by
  show (bif Nat.ble (a.length + b.length) 1073741824 then some (V.str (a ++ b)) else none) = _
  rw [Nat.ble_eq_true_of_le h]; rfl
theorem strK_add {R : Type} {a b : List UInt8} (h : a.length + b.length ≤ 1073741824) (K : V → Option R) : strK .add (.str a) (.str b) K = K (.str (a ++ b)) := by rw [strK_s, dStr_add h]; rfl
theorem dStr_eql (a b : List UInt8) : dStr .eql a b = some (.bool (decide (a = b))) := by show some (V.bool (beqBytes a b)) = _; rw [beqBytes_iff]; by_cases h : a = b <;> simp [h]
theorem dStr_neq (a b : List UInt8) : dStr .neq a b = some (.bool (!decide (a = b))) := by show some (V.bool (!beqBytes a b)) = _; rw [beqBytes_iff]; by_cases h : a = b <;> simp [h]
theorem bytesV_zeros (n : Nat) : bytesV (List.replicate n 0) = List.replicate n (.int .u8 0) := by simp [bytesV]
theorem bytesV_length (s : List UInt8) : (bytesV s).length = s.length := by simp [bytesV]
theorem slS_ss {s : List UInt8} {k k' : IntKind} {a b : Nat} (h1 : a ≤ b) (h2 : b ≤ s.length) (K : V → Option R) : slS (.str s) (some (.int k (a : Int))) (some (.int k' (b : Int))) K = K (.str ((s.drop a).take (b - a))) := by
  show ((bif Nat.ble b s.length then some b else none).bind fun b => (bif Nat.ble a b then some a else none).bind fun a => K (.str ((s.drop a).take (b - a)))) = _
  rw [Nat.ble_eq_true_of_le h2, cond_true, Option.bind_some, Nat.ble_eq_true_of_le h1]; rfl
theorem slS_sn {s : List UInt8} {k : IntKind} {a : Nat} (h1 : a ≤ s.length) (K : V → Option R) : slS (.str s) (some (.int k (a : Int))) none K = K (.str (s.drop a)) := by
  show ((some s.length).bind fun b => (bif Nat.ble a b then some a else none).bind fun a => K (.str ((s.drop a).take (b - a)))) = _
  rw [Option.bind_some, Nat.ble_eq_true_of_le h1, cond_true, Option.bind_some]
  congr 2
  rw [List.take_of_length_le]; simp
theorem slS_ns {s : List UInt8} {k : IntKind} {b : Nat} (h2 : b ≤ s.length) (K : V → Option R) : slS (.str s) none (some (.int k (b : Int))) K = K (.str (s.take b)) := by
  show ((bif Nat.ble b s.length then some b else none).bind fun b => (some 0).bind fun a => K (.str ((s.drop a).take (b - a)))) = _
  rw [Nat.ble_eq_true_of_le h2, cond_true, Option.bind_some, Option.bind_some]; rfl

/-- What was there is there as it was. -/
structure Gr (h h' : Heap) : Prop where
  next : h.next ≤ h'.next
  get : ∀ i, i < h.next → h'.get i = h.get i
/-- Nothing lies beyond the next number. -/
def Hok (h : Heap) : Prop := ∀ i, h.next ≤ i → h.get i = none
theorem Gr.refl (h : Heap) : Gr h h := ⟨Nat.le_refl _, fun _ _ => rfl⟩
theorem Gr.trans {a b c : Heap} (x : Gr a b) (y : Gr b c) : Gr a c := ⟨Nat.le_trans x.next y.next, fun i hi => (y.get i (Nat.lt_of_lt_of_le hi x.next)).trans (x.get i hi)⟩
theorem Gr.new (h : Heap) (o : Ob) : Gr h (h.new o) := ⟨Nat.le_succ _, fun i hi => by rw [Heap.get_new, if_neg (by omega)]⟩
theorem Hok.new {h : Heap} (H : Hok h) (o : Ob) : Hok (h.new o) := fun i hi => by
  have hi' : h.next + 1 ≤ i := hi
  rw [Heap.get_new, if_neg (by omega)]; exact H i (by omega)
theorem Hok.set {h : Heap} (H : Hok h) {i : Nat} (hi : i < h.next) (o : Ob) : Hok (h.set i o) := fun j hj => by
  have hj' : h.next ≤ j := hj
  rw [Heap.get_set, if_neg (by omega)]; exact H j hj'
theorem Hok.lt {h : Heap} (H : Hok h) {i : Nat} {o : Ob} (hg : h.get i = some o) : i < h.next := by
  rcases Nat.lt_or_ge i h.next with h1 | h1
  · exact h1
  · rw [H i h1] at hg; cases hg
theorem Heap.get_new_self (h : Heap) (o : Ob) : (h.new o).get h.next = some o := by rw [Heap.get_new, if_pos rfl]
theorem Heap.next_new (h : Heap) (o : Ob) : (h.new o).next = h.next + 1 := rfl
theorem Heap.next_set (h : Heap) (i : Nat) (o : Ob) : (h.set i o).next = h.next := rfl

theorem io_shl (k k' : IntKind) (a b : Nat) (hb : b ≤ k.bits) : intOp .shl k (a : Int) k' (b : Int) = some (.int k (k.wrap (a * 2 ^ b : Nat))) := by
  simp only [intOp]
  rw [if_neg (by omega), Int.toNat_natCast, Nat.min_eq_left hb]
  norm_cast

theorem wrap_i64 {x : Int} (h1 : -9223372036854775808 ≤ x) (h2 : x < 9223372036854775808) : IntKind.i64.wrap x = x := by
  unfold IntKind.wrap
  simp [IntKind.bits, IntKind.signed]
  omega
end
end Go.Zs
