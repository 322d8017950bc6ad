/- The statements on texts that are too long, on what is held. -/
import Derived.Test.YtkgglkoooldodaaWl9
import Derived.Test.YtkgglkoooldodaaZsI6
set_option linter.unusedVariables false
set_option linter.unusedSimpArgs false
set_option linter.deprecated false
namespace Go.Zs
open Go Go.Proofs

section
variable {h h' : Heap} {d sy m w : Nat} {D D' : DiskM} {X : WalM} {B R : Blk} {lf : Nat}

theorem numB_head (x : Nat) : (putB x []).head? = some 70 := rfl
/-- Where nothing but zeros stands there is no frame. -/
theorem getB_zeros (x : Nat) (s : List UInt8) : getB (zeroB64 ++ s) x = none := by
  unfold getB
  have hz : sizeH (zeroB64 ++ s) = 0 := by
    unfold sizeH
    rw [List.getD_eq_getElem?_getD, List.getD_eq_getElem?_getD, List.getElem?_append_left (by simp [zeroB64]), List.getElem?_append_left (by simp [zeroB64])]
    simp [zeroB64]
  have hm : manyB (zeroB64 ++ s) = 64 := by unfold manyB; rw [hz]; rfl
  rw [if_neg (by rw [List.length_append]; show ¬ 64 + s.length < 12; omega), hm, hz, if_neg (by rw [List.length_append]; show ¬ (64 = 0 ∨ 64 + s.length < 64); omega), if_neg]
  intro e
  have := congrArg List.head? e
  rw [List.take_zero, numB_head] at this
  cases this
theorem getB_rest_zero {n : Nat} (hn : ∀ i, i < n → D.at i = zeroB64) (hD : D.n = n) (p x : Nat) : ∀ k, getB (D.restB p (k + 1)) x = none := by
  intro k
  have hs : D.restB p (k + 1) = [] ∨ ∃ s, D.restB p (k + 1) = zeroB64 ++ s := by
    induction k with
    | zero =>
      simp only [DiskM.restB, Nat.add_zero, List.nil_append]
      split
      · rename_i h; exact .inr ⟨[], by rw [hn p (by omega), List.append_nil]⟩
      · exact .inl rfl
    | succ k ih =>
      rw [DiskM.restB]
      split
      · rename_i h
        rcases ih with e | ⟨s, e⟩
        · rw [e]; exact .inr ⟨[], by rw [hn _ (by omega), List.append_nil]; rfl⟩
        · rw [e]; exact .inr ⟨s ++ D.at (p + (k + 1)), by rw [List.append_assoc]⟩
      · exact ih
  rcases hs with e | ⟨s, e⟩
  · rw [e]; exact getB_nil x (by simp)
  · rw [e]; exact getB_zeros x s
theorem zero_all (n : Nat) : (DiskM.zero n).all = ([], 0, 0) := by
  unfold DiskM.all
  rw [DiskM.zero_n, DiskM.scan, getB_rest_zero (D := DiskM.zero n) (n := n) (fun i hi => DiskM.zero_at hi) (DiskM.zero_n n) 0 0 128]
/-- A log in an empty disk. -/
structure Fresh (n : Nat) (X : WalM) : Prop where
  n : X.D.n = n
  pos : X.pos = 0
  next : X.next = 0
  held : X.held = 0
theorem zero_opened (n : Nat) : Fresh n (DiskM.zero n).opened := by
  unfold DiskM.opened WalM.clean
  rw [zero_all]
  exact ⟨by show DiskM.n (DiskM.sync _) = n; rw [DiskM.sync_n, DiskM.cleanN_n, DiskM.zero_n], rfl, rfl, rfl⟩

theorem Own.start : Own ⟨0, .leaf⟩ [] := Own.nil fun _ _ => rfl

/-- A law's beginning: a new disk, its log. -/
theorem start_ok (hlf : 1000000 ≤ lf) {n : Nat} (h1 : 1 ≤ n) (hn : n ≤ 1024) {h : Heap} {R : Blk} (O : Own h R) {k : Nat} (hk : 6 ≤ k) :
    ∃ d h1 w sv h2 W X A, run ee lf k false n_disk_New [.int .i64 n] h = some (.tup [.ptr (some (d, 0)), .int .i64 0], h1) ∧
      run ee lf k false n_wal_Open [.ptr (some (d, 0))] h1 = some (.tup [.ptr (some (w, 0)), sv, .int .i64 0], h2) ∧ IsWal d w X W ∧ Fresh n X ∧ IsSl 1 sv 0 [] A ∧ Own h2 (W ++ (A ++ R)) := by
  obtain ⟨v, h1', B1, e1, O1, d, rfl, b1⟩ := dNew hlf h1 hn k R h (by omega) O
  obtain ⟨v, h2, B2, e2, O2, w, sv, W, A, rfl, rfl, b2, b3⟩ := wOpen hlf b1 k R h1' (by omega) O1
  rw [zero_all] at b3
  exact ⟨d, h1', w, sv, h2, W, _, A, e1, e2, b2, zero_opened n, b3, O2.perm (perm_c fun a => by simp only [List.count_append, List.count_cons, List.count_nil]; ac_rfl)⟩

theorem binV_bool {T : Type} (t : Nat) (ht : ee.P.underlying t = some .bool) (a b : Bool) (h : Heap) (K : V → Option T) : binV ee .eql t (.bool a) (.bool b) h K = K (.bool (a == b)) := by
  have : dBin ee .eql t (.bool a) (.bool b) h = some (.bool (a == b)) := by
    show (dEqual ee 100 t (.bool a) (.bool b) h).map V.bool = _
    unfold dEqual
    rw [ht]; rfl
  show (bif isAggV (.bool a) && _ then none else (dBin ee .eql t (.bool a) (.bool b) h).bind K) = _
  rw [this]; rfl
theorem tbool : ee.P.underlying t_bool = some .bool := by kernel_rfl

/-- A text of zeros. -/
theorem zeros_ok {T : Type} {h : Heap} {R : Blk} (O : Own h R) {k : IntKind} {n : Nat} (hn : n ≤ 100000) : ∃ u h1, Own h1 R ∧ ∀ K : V → V → Heap → Option T, (mkS 1 1 [V.int .u8 0] (.int k n) (.int k n) h fun v h => cvBS v h fun w => K v w h) = K u (.str (List.replicate n 0)) h1 := by
  have hz : (copies [V.int .u8 0] n) = bytesV (List.replicate n 0) := by rw [copies_one, bytesV_zeros]
  refine ⟨.sl (some (h.next, 0)) n n 1 true, h.new (.cells (copies [V.int .u8 0] n) .own), (O.new _).tail, fun K => ?_⟩
  rw [mkS_i 1 1 _ _ _ _ _ _ _ (Nat.le_refl _) (by omega) (by omega)]
  rw [cvBS_c (s := List.replicate n 0) (Heap.get_new_self _ _) (fun _ => by rw [hz, bytesV_length]; simp) (fun _ => by
    rw [hz, List.drop_zero, List.take_of_length_le (by rw [bytesV_length]; simp)]
    exact bytesOfVs_map _) (fun h0 => by rw [h0]; rfl)]

theorem num_run {k : Nat} (hk : 1 ≤ k) (v : V) (h : Heap) : run ee lf k false n_furlonglaw0_Num [v] h = some (v, h) := by
  obtain ⟨k, rfl⟩ : ∃ j, k = j + 1 := ⟨k - 1, by omega⟩
  exact furlonglaw0_Num_run rfl
theorem awake_at {k : Nat} (hk : 1 ≤ k) (h : Heap) : run ee lf k false n_furlonglaw10_awake [] h = some (.bool true, h) := by
  obtain ⟨k, rfl⟩ : ∃ j, k = j + 1 := ⟨k - 1, by omega⟩
  exact awake_run h

theorem WalM.app_n (X : WalM) (s : List UInt8) : (X.app s).D.n = X.D.n := by
  unfold WalM.app
  split
  · exact DiskM.puts_n _ _ _ _
  · rfl
theorem WalM.use_n (X : WalM) (s : List UInt8) : (X.use s).D.n = X.D.n := by
  unfold WalM.use
  split
  · exact DiskM.puts_n _ _ _ _
  · rfl

theorem walForms_run (hlf : 1000000 ≤ lf) (a0 a1 : Int) (ha : a1 < 9223372036854775808) {k : Nat} (hk : 10 ≤ k) : ∃ hp, furlonglaw10_WalForms lf (run ee lf k) (.int .i64 a0) (.int .i64 a1) ⟨0, .leaf⟩ = some (.bool true, hp) := by
  obtain ⟨d, h1, w, sv, h2, W, X, A, e1, e2, b1, fr, b2, O1⟩ := start_ok hlf (n := 1024) (by omega) (by omega) Own.start (show 6 ≤ k by omega)
  obtain ⟨r, hr, e⟩ := and_mask a0 7 (by decide)
  have e3 : intOp .and .i64 a0 .i64 (7 : Int) = some (.int .i64 (r : Nat)) := e
  unfold furlonglaw10_WalForms
  have x1 : (V.int .i64 1024) = .int .i64 ((1024 : Nat) : Int) := rfl
  rw [x1]
  have hn := fr.n
  have hp := fr.pos
  have hx := fr.next
  have hh := fr.held
  -- the first text
  obtain ⟨_, h3, O3, e4⟩ := zeros_ok (T := V × Heap) O1 (k := .i64) (n := 8190 + r) (by omega)
  obtain ⟨v, h4, W4, e5, O4, rfl, b4⟩ := wAppend hlf b1 (List.replicate (8190 + r) 0) k _ h3 (by omega) O3
  have e6 := wNext (lf := lf) b4 O4 k (by omega)
  obtain ⟨v, h5, W5, e7, O5, rfl, b5⟩ := wUse hlf b4 [120] (by decide) k _ h4 (by omega) O4
  obtain ⟨v, h6, W6, e8, O6, rfl, b6⟩ := wFree (lf := lf) b5 a1 ha k _ h5 (by omega) O5
  obtain ⟨v, h7, W7, e9, O7, rfl, b7⟩ := wHold (lf := lf) b6 3 k _ h6 (by omega) O6
  obtain ⟨_, h8, O8, e10⟩ := zeros_ok (T := V × Heap) O7 (k := .i64) (n := 50 + r) (by omega)
  obtain ⟨v, h9, W9, e11, O9, rfl, b9⟩ := wUse hlf b7 (List.replicate (50 + r) 0) (by simp; omega) k _ h8 (by omega) O8
  obtain ⟨v, h10, W10, e12, O10, rfl, b10⟩ := wFree (lf := lf) b9 4 (by omega) k _ h9 (by omega) O9
  obtain ⟨v, h11, W11, e13, O11, rfl, b11⟩ := wFree (lf := lf) b10 (-1) (by omega) k _ h10 (by omega) O10
  have c1 : (8190 : Int) + (r : Nat) = ((8190 + r : Nat) : Int) := by omega
  have c2 : (50 : Int) + (r : Nat) = ((50 + r : Nat) : Int) := by omega
  have w1 := wrap_i64 (x := ((8190 + r : Nat) : Int)) (by omega) (by omega)
  have w2 := wrap_i64 (x := ((50 + r : Nat) : Int)) (by omega) (by omega)
  have w3 := wrap_i64 (x := ((50 + r : Nat) : Int) + 12) (by omega) (by omega)
  -- what each answers
  have hsec : 8190 + r ≤ 8192 → sectorsN (8190 + r) = 129 := by unfold sectorsN; omega
  have q1 : X.appC (List.replicate (8190 + r) 0) = if r ≤ 2 then 0 else 1000 := by
    unfold WalM.appC WalM.room
    rw [List.length_replicate]
    by_cases hr2 : r ≤ 2
    · rw [if_neg (by omega), if_neg (by have := hsec (by omega); omega), if_pos hr2]
    · rw [if_pos (by omega), if_neg hr2]
  have q2 : (X.app (List.replicate (8190 + r) 0)).held = 0 ∧ (X.app (List.replicate (8190 + r) 0)).next = (if r ≤ 2 then 1 else 0) ∧ (X.app (List.replicate (8190 + r) 0)).pos ≤ 129 := by
    unfold WalM.app
    rw [q1]
    by_cases hr2 : r ≤ 2
    · rw [if_pos hr2, if_pos hr2]
      refine ⟨hh, by show X.next + 1 = 1; omega, ?_⟩
      show X.pos + sectorsN (List.replicate (8190 + r) (0 : UInt8)).length ≤ 129
      rw [List.length_replicate, hsec (by omega)]; omega
    · rw [if_neg hr2, if_neg hr2, if_neg (by decide)]
      exact ⟨hh, hx, by omega⟩
  have hn1 : (X.app (List.replicate (8190 + r) 0)).D.n = 1024 := (X.app_n _).trans hn
  generalize X.app (List.replicate (8190 + r) 0) = X1 at *
  have q3 : X1.useB [120] = false := by unfold WalM.useB; simp [q2.1]
  have q4 : X1.use [120] = X1 := by unfold WalM.use; rw [q3]; rfl
  rw [q3] at e7
  rw [q4] at e8 e9 e11 e12 e13
  have q5 : X1.freeB a1 = decide (a1 = 0) := by
    unfold WalM.freeB
    rw [q2.1]
    by_cases h0 : a1 = 0
    · subst h0; rfl
    · rw [decide_eq_false h0]; simp; omega
  have q6 : X1.free a1 = X1 := by
    unfold WalM.free
    split
    · rename_i hf
      rw [q5] at hf
      have : a1 = 0 := by simpa using hf
      subst this
      rfl
    · rfl
  rw [q5] at e8
  rw [q6] at e9 e11 e12 e13
  have q7 : X1.holdB 3 = true := by
    unfold WalM.holdB WalM.room
    rw [hn1, q2.1]
    simp; omega
  have q8 : X1.hold 3 = { X1 with held := 3 } := by unfold WalM.hold; rw [q7, if_pos rfl, q2.1]; rfl
  rw [q7] at e9
  rw [q8] at e11 e12 e13
  generalize hX2 : ({ X1 with held := 3 } : WalM) = X2 at *
  have q9 : X2.useB (List.replicate (50 + r) 0) = decide (r ≤ 2) := by
    unfold WalM.useB
    rw [← hX2, List.length_replicate]
    by_cases hr2 : r ≤ 2
    · simp [hr2]; omega
    · simp [hr2]; omega
  have q10 : (X2.use (List.replicate (50 + r) 0)).held ≤ 3 := by
    unfold WalM.use
    split
    · show X2.held - 1 ≤ 3
      rw [← hX2]; simp
    · rw [← hX2]; exact Nat.le_refl 3
  rw [q9] at e11
  generalize X2.use (List.replicate (50 + r) 0) = X3 at *
  have q11 : X3.freeB 4 = false := by unfold WalM.freeB; simp; omega
  have q12 : X3.free 4 = X3 := by unfold WalM.free; rw [q11]; rfl
  have q13 : X3.freeB (-1) = false := by unfold WalM.freeB; simp
  rw [q11] at e12
  rw [q12, q13] at e13
  rw [q1] at e5
  rw [q2.2.1] at e6
  simp only [intK_i, io_lss, io_leq, io_gtr, io_geq, io_eql, io_neq, obind_s, gdP_b, gdE_b, pkK_b, cndV_b, decide_eq_true_eq, decide_eq_false_iff_not, lenS_s, lenL_l, bindVH_s, exK_t, nilV_p, faK_p, refK_s, eqPtr_nn, eqPtr_sn, List.getElem?_cons_zero, List.getElem?_cons_succ, Bool.not_eq_true', bne_false', if_true, if_false, Bool.false_eq_true, cvI_i, Nat.zero_add, Nat.add_zero, awake_at (lf := lf) (show 1 ≤ k by omega), e1, e2, num_run (lf := lf) (show 1 ≤ k by omega), unK, dUn, Bool.not_true, ne_eq, not_true, decide_false, e3, io_add, c1, w1, e4, e5, e6, e7, e8, e9, c2, w2, e10, e11, e12, e13, w3]
  by_cases hr2 : r ≤ 2 <;> by_cases h0 : a1 = 0 <;>
  simp only [intK_i, io_lss, io_leq, io_gtr, io_geq, io_eql, io_neq, obind_s, gdP_b, gdE_b, pkK_b, cndV_b, decide_eq_true_eq, decide_eq_false_iff_not, lenS_s, lenL_l, bindVH_s, exK_t, nilV_p, faK_p, refK_s, eqPtr_nn, eqPtr_sn, List.getElem?_cons_zero, List.getElem?_cons_succ, Bool.not_eq_true', bne_false', if_true, if_false, Bool.false_eq_true, cvI_i, Nat.zero_add, Nat.add_zero, gdP_u, gdE_u, Int.reduceEq, Int.reduceLT, Int.reduceLE, Int.natCast_one, Int.natCast_zero, Int.cast_ofNat_Int, decide_false, decide_true, beq_self_eq_true, Bool.true_beq, Bool.false_beq, Bool.not_true, Bool.not_false, Bool.true_eq_false, Bool.false_eq_true, ne_eq, not_true_eq_false, not_false_eq_true, eq_self, hr2, h0, binV_bool t_bool tbool, show (((50 + r : Nat) : Int) + 12 ≤ 64) = (r ≤ 2) from propext (by omega), show (((8190 + r : Nat) : Int) ≤ 8192) = (r ≤ 2) from propext (by omega)] <;>
  exact ⟨_, rfl⟩
end
end Go.Zs
/- What stands on a disk: frames, one behind the other, then zeros. -/
namespace Go.Zs
open Go Go.Proofs

section
variable {D : DiskM}

def s64 (D : DiskM) : Prop := ∀ i, i < D.n → (D.at i).length = 64
/-- Frames of texts from a sector on; behind them nothing. -/
def DiskM.lay (D : DiskM) : Nat → Nat → List (List UInt8) → Prop
  | p, _, [] => p ≤ D.n ∧ ∀ i, p ≤ i → i < D.n → D.at i = zeroB64
  | p, x, t :: ts => t.length ≤ 8192 ∧ p + sectorsN t.length ≤ D.n ∧ (∀ j, j < sectorsN t.length → D.at (p + j) = ((putB x t).drop (64 * j)).take 64) ∧ D.lay (p + sectorsN t.length) (x + 1) ts
def endN : Nat → List (List UInt8) → Nat
  | p, [] => p
  | p, t :: ts => endN (p + sectorsN t.length) ts
theorem endN_append (t : List UInt8) : ∀ (ts : List (List UInt8)) (p : Nat), endN p (ts ++ [t]) = endN p ts + sectorsN t.length
  | [], _ => rfl
  | u :: ts, p => endN_append t ts _
theorem endN_ge : ∀ (ts : List (List UInt8)) (p : Nat), p + ts.length ≤ endN p ts
  | [], p => by simp [endN]
  | u :: ts, p => by
    have := endN_ge ts (p + sectorsN u.length)
    have := sectorsN_pos u.length
    simp only [endN, List.length_cons]; omega
theorem DiskM.lay_le : ∀ {ts : List (List UInt8)} {p x : Nat}, D.lay p x ts → endN p ts ≤ D.n
  | [], _, _, h => h.1
  | t :: ts, p, _, h => DiskM.lay_le (ts := ts) (p := p + sectorsN t.length) h.2.2.2

/-- A text that is written sector for sector is read. -/
theorem restB_pre {s : List UInt8} {p : Nat} : ∀ (k : Nat), s.length = 64 * k → (∀ j, j < k → p + j < D.n ∧ D.at (p + j) = (s.drop (64 * j)).take 64) → ∀ i, i ≤ k → D.restB p i = s.take (64 * i)
  | k, hs, h, 0, _ => by simp [DiskM.restB]
  | k, hs, h, i + 1, hi => by
    obtain ⟨h1, h2⟩ := h i (by omega)
    rw [DiskM.restB, if_pos h1, restB_pre k hs h i (by omega), h2, show 64 * (i + 1) = 64 * i + 64 by omega, List.take_add]
theorem restB_more (p : Nat) (k : Nat) : ∀ m, ∃ r, D.restB p (k + m) = D.restB p k ++ r
  | 0 => ⟨[], by simp⟩
  | m + 1 => by
    obtain ⟨r, hr⟩ := restB_more p k m
    show ∃ r, (if p + (k + m) < D.n then D.restB p (k + m) ++ D.at (p + (k + m)) else D.restB p (k + m)) = _
    split
    · exact ⟨r ++ D.at (p + (k + m)), by rw [hr, List.append_assoc]⟩
    · exact ⟨r, hr⟩

theorem putB_get6 (x : Nat) (t : List UInt8) (r : List UInt8) : sizeH (putB x t ++ r) = ((UInt8.ofNat (t.length / 256)).toNat * 256) ||| (UInt8.ofNat t.length).toNat := by
  have h1 : (putB x t ++ r).getD 6 0 = UInt8.ofNat (t.length / 256) := by
    simp [putB, headB, numB]
  have h2 : (putB x t ++ r).getD 7 0 = UInt8.ofNat t.length := by
    simp [putB, headB, numB]
  unfold sizeH
  rw [h1, h2]
theorem putB_size (x : Nat) (t r : List UInt8) (ht : t.length ≤ 8192) : sizeH (putB x t ++ r) = t.length := by
  rw [putB_get6]
  have h1 : (UInt8.ofNat (t.length / 256)).toNat = t.length / 256 := by
    rw [UInt8.toNat_ofNat']
    exact Nat.mod_eq_of_lt (by omega)
  have h2 : (UInt8.ofNat t.length).toNat = t.length % 256 := by
    rw [UInt8.toNat_ofNat']
  rw [h1, h2]
  have h3 := Nat.shiftLeft_add_eq_or_of_lt (i := 8) (b := t.length % 256) (Nat.mod_lt _ (by decide)) (t.length / 256)
  rw [Nat.shiftLeft_eq] at h3
  rw [← h3]
  omega
theorem putB_data (x : Nat) (t r : List UInt8) : ((putB x t ++ r).drop 12).take t.length = t := by
  have e : putB x t ++ r = ([70, 82] ++ headB x t.length ++ numB 4 (crcSum (headB x t.length ++ t))) ++ (t ++ (List.replicate (sectorsN t.length * 64 - (12 + t.length)) 0 ++ r)) := by
    simp [putB]
  have h12 : ([70, 82] ++ headB x t.length ++ numB 4 (crcSum (headB x t.length ++ t)) : List UInt8).length = 12 := by
    simp [headB_length, numB_length]
  rw [e, List.drop_append, h12, List.drop_eq_nil_of_le (by omega), List.nil_append, Nat.sub_self, List.drop_zero, List.take_left']
  rfl
theorem getB_put (x : Nat) (t r : List UInt8) (ht : t.length ≤ 8192) : getB (putB x t ++ r) x = some t := by
  have hl := putB_length x t
  have hs := putB_size x t r ht
  have hm : manyB (putB x t ++ r) = sectorsN t.length * 64 := by
    unfold manyB
    rw [hs, if_neg (by omega)]
  have h1 : 12 + t.length ≤ sectorsN t.length * 64 := by unfold sectorsN; omega
  unfold getB
  rw [if_neg (by rw [List.length_append, hl]; omega), hm, if_neg (by rw [List.length_append, hl]; omega), hs, putB_data, if_pos]
  rw [← hl, List.take_left]

theorem lay_scan (h64 : s64 D) : ∀ {ts : List (List UInt8)} {p x n : Nat}, D.lay p x ts → D.n < p + n → D.scan n p x = (ts, endN p ts, x + ts.length)
  | [], p, x, n, h, hn => by
    have : D.scan n p x = ([], p, x) := by
      cases n with
      | zero => rfl
      | succ n =>
        have hz : getB (D.restB p 129) x = none := by
          have hg : ∀ k, D.restB p k = [] ∨ ∃ s, D.restB p k = zeroB64 ++ s := by
            intro k
            induction k with
            | zero => exact .inl rfl
            | succ k ih =>
              rw [DiskM.restB]
              split
              · rename_i hlt
                rw [h.2 (p + k) (by omega) hlt]
                rcases ih with e | ⟨s, e⟩
                · rw [e]; exact .inr ⟨[], by simp⟩
                · rw [e]; exact .inr ⟨s ++ zeroB64, by rw [List.append_assoc]⟩
              · exact ih
          rcases hg 129 with e | ⟨s, e⟩
          · rw [e]; exact getB_nil x (by simp)
          · rw [e]; exact getB_zeros x s
        simp only [DiskM.scan, hz]
    rw [this]; rfl
  | t :: ts, p, x, n, h, hn => by
    obtain ⟨h1, h2, h3, h4⟩ := h
    have hsp := sectorsN_pos t.length
    have hs129 : sectorsN t.length ≤ 129 := by unfold sectorsN; omega
    cases n with
    | zero => omega
    | succ n =>
      have hpre : D.restB p (sectorsN t.length) = putB x t := by
        rw [restB_pre (s := putB x t) (sectorsN t.length) (by rw [putB_length, Nat.mul_comm]) (fun j hj => ⟨by omega, h3 j hj⟩) _ (Nat.le_refl _), List.take_of_length_le (by rw [putB_length, Nat.mul_comm]; exact Nat.le_refl _)]
      obtain ⟨r, hr⟩ := restB_more (D := D) p (sectorsN t.length) (129 - sectorsN t.length)
      rw [show sectorsN t.length + (129 - sectorsN t.length) = 129 by omega, hpre] at hr
      have hg : getB (D.restB p 129) x = some t := by rw [hr]; exact getB_put x t r h1
      have ih := lay_scan h64 (n := n) h4 (by omega)
      simp only [DiskM.scan, hg, ih, endN, List.length_cons]
      congr 2; omega

theorem lay_congr {D D' : DiskM} (hn : D'.n = D.n) : ∀ {ts : List (List UInt8)} {p x : Nat}, (∀ i, p ≤ i → i < D.n → D'.at i = D.at i) → D.lay p x ts → D'.lay p x ts
  | [], p, x, h, hl => ⟨by rw [hn]; exact hl.1, fun i h1 h2 => by rw [hn] at h2; rw [h i h1 h2]; exact hl.2 i h1 h2⟩
  | t :: ts, p, x, h, hl => by
    obtain ⟨h1, h2, h3, h4⟩ := hl
    refine ⟨h1, by rw [hn]; exact h2, fun j hj => by rw [h (p + j) (by omega) (by omega)]; exact h3 j hj, lay_congr hn (fun i hi hi' => h i (by omega) hi') h4⟩

theorem write_at (D : DiskM) (p : Nat) (s : List UInt8) (i : Nat) : (D.write p s).at i = if i = p then s else D.at i := by
  unfold DiskM.at DiskM.write
  simp only [upd_lookup]
  split <;> rfl
theorem puts_at : ∀ (k p : Nat) (D : DiskM) (s : List UInt8) (i : Nat), (D.puts p k s).at i = if p ≤ i ∧ i < p + k then (s.drop (64 * (i - p))).take 64 else D.at i
  | 0, p, D, s, i => by rw [if_neg (by omega)]; rfl
  | k + 1, p, D, s, i => by
    rw [DiskM.puts, puts_at k, write_at]
    by_cases h : i = p
    · subst h
      rw [if_neg (by omega), if_pos rfl, if_pos (by omega), Nat.sub_self, Nat.mul_zero, List.drop_zero]
    · by_cases h2 : p + 1 ≤ i ∧ i < p + 1 + k
      · rw [if_pos h2, if_pos (by omega), List.drop_drop, show 64 + 64 * (i - (p + 1)) = 64 * (i - p) by omega]
      · rw [if_neg h2, if_neg h, if_neg (by omega)]

/-- A text more. -/
theorem lay_put {t : List UInt8} (ht : t.length ≤ 8192) : ∀ {ts : List (List UInt8)} {p x : Nat} {D : DiskM}, D.lay p x ts → endN p ts + sectorsN t.length ≤ D.n →
    (D.puts (endN p ts) (sectorsN t.length) (putB (x + ts.length) t)).lay p x (ts ++ [t])
  | [], p, x, D, h, hf => by
    have hf' : p + sectorsN t.length ≤ D.n := hf
    refine ⟨ht, by rw [DiskM.puts_n]; exact hf', fun j hj => ?_, by rw [DiskM.puts_n]; exact hf', fun i h1 h2 => ?_⟩
    · show (D.puts p (sectorsN t.length) (putB (x + 0) t)).at (p + j) = _
      rw [puts_at, if_pos (by omega), Nat.add_zero, Nat.add_sub_cancel_left]
    · rw [DiskM.puts_n] at h2
      show (D.puts p (sectorsN t.length) (putB (x + 0) t)).at i = _
      rw [puts_at, if_neg (by omega)]
      exact h.2 i (by omega) h2
  | u :: ts, p, x, D, h, hf => by
    obtain ⟨h1, h2, h3, h4⟩ := h
    have ih := lay_put ht h4 hf
    have hge := endN_ge ts (p + sectorsN u.length)
    refine ⟨h1, by rw [DiskM.puts_n]; exact h2, fun j hj => ?_, ?_⟩
    · rw [puts_at, if_neg (by show ¬ (endN (p + sectorsN u.length) ts ≤ p + j ∧ _); omega)]
      exact h3 j hj
    · have e : x + (u :: ts).length = x + 1 + ts.length := by simp only [List.length_cons]; omega
      rw [e]; exact ih

theorem cleanN_at : ∀ (k p : Nat) (D : DiskM), p + k = D.n → (∀ i, p ≤ i → i < D.n → D.at i = zeroB64) → D.cleanN p k = D
  | 0, _, _, _, _ => rfl
  | k + 1, p, D, hk, h => by
    rw [DiskM.cleanN, if_pos (h p (Nat.le_refl _) (by omega))]
    exact cleanN_at k (p + 1) D (by omega) fun i hi => h i (by omega)
theorem lay_zeros : ∀ {ts : List (List UInt8)} {p x : Nat}, D.lay p x ts → ∀ i, endN p ts ≤ i → i < D.n → D.at i = zeroB64
  | [], _, _, h => h.2
  | t :: ts, p, _, h => lay_zeros (ts := ts) (p := p + sectorsN t.length) h.2.2.2

/-- What Open makes of it. -/
theorem lay_opened (h64 : s64 D) {ts : List (List UInt8)} (h : D.lay 0 0 ts) : D.all = (ts, endN 0 ts, ts.length) ∧ D.opened.D.n = D.n ∧ D.opened.pos = endN 0 ts ∧ D.opened.next = ts.length ∧ D.opened.held = 0 ∧ D.opened.D.lay 0 0 ts := by
  have ha : D.all = (ts, endN 0 ts, ts.length) := by
    have := lay_scan h64 (n := D.n + 1) h (by omega)
    rw [Nat.zero_add] at this
    exact this
  have hc : D.cleanN (endN 0 ts) (D.n - endN 0 ts) = D := cleanN_at _ _ D (by have := DiskM.lay_le h; omega) (lay_zeros h)
  have hd : D.opened.D = D.sync := by
    unfold DiskM.opened WalM.clean
    rw [ha]
    show (D.cleanN (endN 0 ts) (D.n - endN 0 ts)).sync = _
    rw [hc]
  refine ⟨ha, by rw [hd, DiskM.sync_n], ?_, ?_, rfl, ?_⟩
  · unfold DiskM.opened WalM.clean; rw [ha]
  · unfold DiskM.opened WalM.clean; rw [ha]
  · rw [hd]
    exact lay_congr (DiskM.sync_n D) (fun i _ hi => DiskM.sync_at D hi) h
theorem zero_lay (n : Nat) : (DiskM.zero n).lay 0 0 [] := ⟨Nat.zero_le _, fun i _ hi => DiskM.zero_at (by rw [DiskM.zero_n] at hi; exact hi)⟩
end
end Go.Zs
/- The statement on what is opened and gone on with. -/
namespace Go.Zs
open Go Go.Proofs

/-- A slice of one-cell elements that can be read. -/
def RdSl (h : Heap) (v : V) (n : Nat) (ys : List V) : Prop :=
  ys.length = n ∧ ((∃ e, v = .sl none 0 0 e true ∧ n = 0) ∨ ∃ i lo ex cs kd, v = .sl (some (i, 0)) n lo 1 ex ∧ h.get i = some (.cells cs kd) ∧ cs.take n = ys)
section
variable {h : Heap} {v u : V} {n m : Nat} {ys xs : List V} {A R L : Blk} {lf : Nat} {T : Type}

theorem RdSl.len (H : RdSl h v n ys) (K : V → Option T) : lenL v K = K (.int .i64 n) := by
  rcases H.2 with ⟨e, rfl, rfl⟩ | ⟨i, lo, ex, cs, kd, rfl, _⟩ <;> rfl
theorem ArgSl.len (H : ArgSl R v n ys) (K : V → Option T) : lenL v K = K (.int .i64 n) := by
  rcases H.2 with ⟨e, rfl, rfl⟩ | ⟨i, lo, ex, rfl, _⟩ <;> rfl
theorem IsSl.rd (H : IsSl 1 v n ys A) (O : Own h (A ++ R)) : RdSl h v n ys := by
  obtain ⟨h1, h2⟩ := H
  rw [Nat.mul_one] at h1
  refine ⟨h1, ?_⟩
  rcases h2 with ⟨e, rfl, rfl, _⟩ | ⟨i, lo, ex, zs, rfl, rfl, _⟩
  · exact .inl ⟨e, rfl, rfl⟩
  · exact .inr ⟨i, lo, ex, ys ++ zs, .own, rfl, O.get 0 rfl, by rw [← h1, List.take_left]⟩
theorem RdSl.at' (H : RdSl h v n ys) {i : Nat} {y : V} (hy : ys[i]? = some y) : ∃ a, (∀ (T : Type) (k : IntKind) (K : V → Option T), iaS 1 v (.int k (i : Nat)) K = K (.ptr (some (a, i)))) ∧ ∀ (T : Type) (K : V → Option T), ld1 (.ptr (some (a, i))) h K = K y := by
  obtain ⟨h1, h2⟩ := H
  have hi : i < n := by rw [← h1]; exact (List.getElem?_eq_some_iff.1 hy).1
  rcases h2 with ⟨e, rfl, rfl⟩ | ⟨a, lo, ex, cs, kd, rfl, hg, ht⟩
  · omega
  · refine ⟨a, fun T k K => ?_, fun T K => ?_⟩
    · rw [iaS_i, intIn_nat, if_pos hi, Option.bind_some, Nat.mul_one, Nat.zero_add]
    · rw [ld1_c hg]
      have : cs[i]? = some y := by
        rw [← ht, List.getElem?_take, if_pos hi] at hy
        exact hy
      rw [this]; rfl

theorem ArgSl.at' (H : ArgSl R v n ys) {i : Nat} {y : V} (hy : ys[i]? = some y) : ∃ a, (∀ (T : Type) (k : IntKind) (K : V → Option T), iaS 1 v (.int k (i : Nat)) K = K (.ptr (some (a, i)))) ∧ ∀ (h : Heap) (L : Blk), Own h (L ++ R) → ∀ (T : Type) (K : V → Option T), ld1 (.ptr (some (a, i))) h K = K y := by
  obtain ⟨h1, h2⟩ := H
  have hi : i < n := by rw [← h1]; exact (List.getElem?_eq_some_iff.1 hy).1
  rcases h2 with ⟨e, rfl, rfl⟩ | ⟨a, lo, ex, rfl, hm⟩
  · omega
  · refine ⟨a, fun T k K => ?_, fun h L O T K => ?_⟩
    · rw [iaS_i, intIn_nat, if_pos hi, Option.bind_some, Nat.mul_one, Nat.zero_add]
    · rw [ld1_c (O.getM (List.mem_append_right _ (hm (by omega)))), hy]; rfl

theorem sameTexts_ok (hlf : 1000000 ≤ lf) {ts us : List (List UInt8)} (H0 : RdSl h v n (ts.map .str)) (H1 : RdSl h u m (us.map .str)) (hn : n ≤ 100000) : Cm ee lf n_furlonglaw0_SameTexts 1 [v, u] h (.bool (decide (ts = us))) := by
  refine cm_of (d := 0) (G := fun call => furlonglaw0_SameTexts lf call _ _ h) (fun k r => furlonglaw0_SameTexts_run) fun k hk => ?_
  unfold furlonglaw0_SameTexts
  have l0 : ts.length = n := by have := H0.1; simpa using this
  have l1 : us.length = m := by have := H1.1; simpa using this
  simp only [intK_i, io_lss, io_leq, io_gtr, io_geq, io_eql, io_neq, obind_s, gdP_b, gdE_b, pkK_b, cndV_b, decide_eq_true_eq, decide_eq_false_iff_not, lenS_s, lenL_l, bindVH_s, exK_t, nilV_p, faK_p, refK_s, eqPtr_nn, eqPtr_sn, List.getElem?_cons_zero, List.getElem?_cons_succ, Bool.not_eq_true', bne_false', if_true, if_false, Bool.false_eq_true, cvI_i, Nat.zero_add, Nat.add_zero, H0.len, H1.len]
  by_cases hnm : n = m
  · subst hnm
    simp only [gdP_u, gdE_u, Int.reduceEq, Int.reduceLT, Int.reduceLE, Int.natCast_one, Int.natCast_zero, Int.cast_ofNat_Int, decide_false, decide_true, beq_self_eq_true, Bool.true_beq, Bool.false_beq, Bool.not_true, Bool.not_false, Bool.true_eq_false, Bool.false_eq_true, ne_eq, not_true_eq_false, not_false_eq_true, eq_self, if_true, if_false]
    generalize hF : updL _ _ _ = F
    obtain ⟨o, f', h', e2, _, q⟩ := iterK_rule (R := V × Heap) (B := furlonglaw0_SameTexts_l1 lf (run ee lf k)) (I := fun r f h1 => h1 = h ∧ f 0 = v ∧ f 1 = u ∧ ∃ i : Nat, r + i = n ∧ f 5 = .int .i64 i ∧ ts.take i = us.take i)
      (Q := fun o f h1 => h1 = h ∧ ((o = .exit 0 ∧ ts = us) ∨ (o = .ret ∧ f 4 = .bool false ∧ ts ≠ us))) (fun r f h1 I K => by
        obtain ⟨rfl, f0, f1, i, hi, f5, ht⟩ := I
        unfold furlonglaw0_SameTexts_l1
        simp only [intK_i, io_lss, io_leq, io_gtr, io_geq, io_eql, io_neq, obind_s, gdP_b, gdE_b, pkK_b, cndV_b, decide_eq_true_eq, decide_eq_false_iff_not, lenS_s, lenL_l, bindVH_s, exK_t, nilV_p, faK_p, refK_s, eqPtr_nn, eqPtr_sn, List.getElem?_cons_zero, List.getElem?_cons_succ, Bool.not_eq_true', bne_false', if_true, if_false, Bool.false_eq_true, cvI_i, Nat.zero_add, Nat.add_zero, f0, f1, f5, H0.len]
        by_cases hlt : i < n
        · obtain ⟨a, a1, a2⟩ := H0.at' (i := i) (y := .str ts[i]) (by simp [List.getElem?_map, List.getElem?_eq_getElem (show i < ts.length by omega)])
          obtain ⟨b, b1, b2⟩ := H1.at' (i := i) (y := .str (us[i]'(by omega))) (by simp [List.getElem?_map, List.getElem?_eq_getElem (show i < us.length by omega)])
          have hstep : ∀ {xs : List (List UInt8)} (hx : i < xs.length), xs.take (i + 1) = xs.take i ++ [xs[i]] := fun hx => by rw [List.take_add_one, List.getElem?_eq_getElem hx]; rfl
          simp only [show ((i : Int) < n) by omega, if_true, a1, a2, b1, b2, strK_s, dStr_neq, Option.bind_some, cndV_b, Bool.not_eq_true', decide_eq_false_iff_not]
          by_cases he : ts[i] = us[i]'(by omega)
          · right
            simp only [he, not_true, if_false, intK_i, io_add, wrap_i64 (x := (i : Int) + 1) (by omega) (by omega), Option.bind_some]
            refine ⟨r - 1, _, _, rfl, by omega, rfl, f0, f1, i + 1, by omega, rfl, ?_⟩
            rw [hstep (by omega), hstep (by omega), ht, he]
          · left
            simp only [he, not_false_eq_true, if_true]
            refine ⟨_, _, _, rfl, (fun e => by cases e), rfl, .inr ⟨rfl, rfl, fun e => he ?_⟩⟩
            simp only [e]
        · left
          simp only [show ¬ ((i : Int) < n) by omega, if_false]
          refine ⟨_, _, _, rfl, (fun e => by cases e), rfl, .inl ⟨rfl, ?_⟩⟩
          rw [List.take_of_length_le (by omega), List.take_of_length_le (by omega)] at ht
          exact ht) lf n F h
      (fun o f h => blkK 0 o (some (tupV [V.bool true], h)) (seqK o (furlonglaw0_SameTexts_j1 lf (run ee lf k) f h) (kRet ee [.tmp 4] o f h))) (by omega)
      ⟨rfl, by rw [← hF]; rfl, by rw [← hF]; rfl, 0, by omega, by rw [← hF]; rfl, rfl⟩
    rw [e2]
    obtain ⟨rfl, ⟨rfl, e⟩ | ⟨rfl, e3, e⟩⟩ := q
    · rw [blkK_e, if_pos rfl, decide_eq_true e]; rfl
    · rw [blkK_r, seqK_r, decide_eq_false e]
      show some (f' 4, h') = _
      rw [e3]
  · have hne : ts ≠ us := fun e => hnm (by rw [← l0, ← l1, e])
    simp only [gdP_u, gdE_u, Int.reduceEq, Int.reduceLT, Int.reduceLE, Int.natCast_one, Int.natCast_zero, Int.cast_ofNat_Int, decide_false, decide_true, beq_self_eq_true, Bool.true_beq, Bool.false_beq, Bool.not_true, Bool.not_false, Bool.true_eq_false, Bool.false_eq_true, ne_eq, not_true_eq_false, not_false_eq_true, eq_self, show ¬ ((n : Int) = m) by omega, if_true]
    rw [decide_eq_false hne]; rfl
end

section
variable {h : Heap} {d : Nat} {R : Blk} {lf : Nat} {T : Type}

/-- What the loops keep: the arguments, the disk, what was appended. -/
structure GoS (d : Nat) (fv tv : V) (kk : Nat) (f : Fs) : Prop where
  f0 : f 0 = fv
  f1 : f 1 = tv
  f5 : f 5 = .ptr (some (d, 0))
  f8 : f 8 = .int .i64 kk
structure GoI (d w : Nat) (fv tv xv : V) (R : Blk) (kk n : Nat) (f : Fs) (h : Heap) : Prop where
  sl : GoS d fv tv kk f
  f9 : f 9 = .ptr (some (w, 0))
  f12 : f 12 = xv
  ex : ∃ i X W all av A, n + i = 9 ∧ f 13 = .int .i64 (i : Nat) ∧ f 7 = av ∧ IsWal d w X W ∧ X.D.lay 0 0 all ∧ X.pos = endN 0 all ∧ X.next = all.length ∧ X.held = 0 ∧ X.D.n = 1024 ∧
    IsSl 1 av all.length (all.map .str) A ∧ Own h (W ++ (A ++ R))
structure GoQ (d w : Nat) (fv tv : V) (R : Blk) (kk : Nat) (o : Out) (f : Fs) (h : Heap) : Prop where
  out : o = .exit 2
  sl : GoS d fv tv kk f
  ex : ∃ X W all av A, f 7 = av ∧ IsWal d w X W ∧ X.D.lay 0 0 all ∧ X.D.n = 1024 ∧ IsSl 1 av all.length (all.map .str) A ∧ Own h (W ++ (A ++ R))

theorem goes_l2 (hlf : 1000000 ≤ lf) {w k kk nx : Nat} {fv tv xv : V} {xs : List (List UInt8)} (hk : 6 ≤ k) (hx : ArgSl R xv nx (xs.map .str)) (n : Nat) (f : Fs) (h : Heap) (I : GoI d w fv tv xv R kk n f h) (K : Out → Fs → Heap → Option T) :
    (∃ o f' h', furlonglaw10_WalGoes_l2 lf (run ee lf k) K f h = K o f' h' ∧ o ≠ .normal ∧ GoQ d w fv tv R kk o f' h') ∨ (∃ m f' h', furlonglaw10_WalGoes_l2 lf (run ee lf k) K f h = K .normal f' h' ∧ m < n ∧ GoI d w fv tv xv R kk m f' h') := by
  obtain ⟨⟨f0, f1, f5, f8⟩, f9, f12, i, X, W, all, av, A, hn, f13, f7, hW, hl, hp, hxn, hh, hD, hA, O⟩ := I
  unfold furlonglaw10_WalGoes_l2 furlonglaw10_WalGoes_j2
  simp only [intK_i, io_lss, io_leq, io_gtr, io_geq, io_eql, io_neq, obind_s, gdP_b, gdE_b, pkK_b, cndV_b, decide_eq_true_eq, decide_eq_false_iff_not, lenS_s, lenL_l, bindVH_s, exK_t, nilV_p, faK_p, refK_s, eqPtr_nn, eqPtr_sn, List.getElem?_cons_zero, List.getElem?_cons_succ, Bool.not_eq_true', bne_false', if_true, if_false, Bool.false_eq_true, cvI_i, Nat.zero_add, Nat.add_zero, f12, f13, hx.len]
  by_cases h1 : i < nx
  · by_cases h2 : i < 9
    · right
      have hxl : xs.length = nx := by have := hx.1; simpa using this
      obtain ⟨a, a1, a2'⟩ := hx.at' (i := i) (y := .str (xs[i]'(by omega))) (by simp [List.getElem?_map, List.getElem?_eq_getElem (show i < xs.length by omega)])
      have a2 := a2' h (W ++ A) (by rw [List.append_assoc]; exact O)
      obtain ⟨v, h', W', e1, O1, rfl, b1⟩ := wAppend hlf hW (xs[i]'(by omega)) k _ h (by omega) O
      have a4 := a2' h' (W' ++ A) (by rw [List.append_assoc]; exact O1)
      simp only [show ((i : Int) < nx) by omega, show ((i : Int) < 9) by omega, intK_i, io_lss, io_leq, io_gtr, io_geq, io_eql, io_neq, obind_s, gdP_b, gdE_b, pkK_b, cndV_b, decide_eq_true_eq, decide_eq_false_iff_not, lenS_s, lenL_l, bindVH_s, exK_t, nilV_p, faK_p, refK_s, eqPtr_nn, eqPtr_sn, List.getElem?_cons_zero, List.getElem?_cons_succ, Bool.not_eq_true', bne_false', if_true, if_false, Bool.false_eq_true, cvI_i, Nat.zero_add, Nat.add_zero, gdP_u, gdE_u, Int.reduceEq, Int.reduceLT, Int.reduceLE, Int.natCast_one, Int.natCast_zero, Int.cast_ofNat_Int, decide_false, decide_true, beq_self_eq_true, Bool.true_beq, Bool.false_beq, Bool.not_true, Bool.not_false, Bool.true_eq_false, Bool.false_eq_true, ne_eq, not_true_eq_false, not_false_eq_true, eq_self, a1, a2, f9, e1, num_run (lf := lf) (show 1 ≤ k by omega)]
      by_cases hc : X.appC (xs[i]'(by omega)) = 0
      · have hX : X.app (xs[i]'(by omega)) = X.write (xs[i]'(by omega)) := by unfold WalM.app; rw [hc, if_pos rfl]
        have hlen : (xs[i]'(by omega)).length ≤ 8192 ∧ endN 0 all + sectorsN (xs[i]'(by omega)).length ≤ X.D.n := by
          unfold WalM.appC at hc
          split at hc
          · cases hc
          · split at hc
            · cases hc
            · unfold WalM.room at *
              have := hW
              obtain ⟨_, _, _, hw⟩ := this
              have := hw.le
              omega
        have hal : all.length ≤ 1024 := by
          have := endN_ge all 0
          omega
        rw [hX] at b1
        have O2 := O1.new (.cells [.str (xs[i]'(by omega))] .own)
        have O3 : Own _ (A ++ (W' ++ ((h'.next, .cells [.str (xs[i]'(by omega))] .own) :: R))) := O2.perm (perm_c fun a => by simp only [List.count_append, List.count_cons, List.count_nil]; ac_rfl)
        obtain ⟨v', h3, A', e3, O4, hA'⟩ := appL_ok (T0 := T) hA (by omega) (x := .sl (some (h'.next, 0)) 1 1 1 true) (n := 1) (new := [.str (xs[i]'(by omega))]) rfl (dFirst_sl (Heap.get_new_self _ _) (Nat.le_refl _) (by simp)) rfl rfl (by omega) O3
        have O5 : Own h3 (W' ++ (A' ++ R)) := (O4.perm (L' := (h'.next, .cells [.str (xs[i]'(by omega))] .own) :: (W' ++ (A' ++ R))) (perm_c fun a => by simp only [List.count_append, List.count_cons, List.count_nil]; ac_rfl)).tail
        simp only [hc, gdP_u, gdE_u, Int.reduceEq, Int.reduceLT, Int.reduceLE, Int.natCast_one, Int.natCast_zero, Int.cast_ofNat_Int, decide_false, decide_true, beq_self_eq_true, Bool.true_beq, Bool.false_beq, Bool.not_true, Bool.not_false, Bool.true_eq_false, Bool.false_eq_true, ne_eq, not_true_eq_false, not_false_eq_true, eq_self, if_true, a1, a4, eq_self, fil1_i, one_ptr, one_int, one_str, one_bool, one_sl, one_map, one_fn, List.length_cons, List.length_nil, Nat.reduceAdd, Nat.reduceLT, List.set_cons_zero, List.set_cons_succ, boxA_a, box1_s, newC_s, newS_s, newM_s, f7, e3, intK_i, io_lss, io_leq, io_gtr, io_geq, io_eql, io_neq, obind_s, gdP_b, gdE_b, pkK_b, cndV_b, decide_eq_true_eq, decide_eq_false_iff_not, lenS_s, lenL_l, bindVH_s, exK_t, nilV_p, faK_p, refK_s, eqPtr_nn, eqPtr_sn, List.getElem?_cons_zero, List.getElem?_cons_succ, Bool.not_eq_true', bne_false', if_true, if_false, Bool.false_eq_true, cvI_i, Nat.zero_add, Nat.add_zero, io_add, wrap_i64 (x := (i : Int) + 1) (by omega) (by omega)]
        refine ⟨n - 1, _, _, rfl, by omega, ⟨f0, f1, f5, f8⟩, f9, f12, i + 1, X.write (xs[i]'(by omega)), W', all ++ [xs[i]'(by omega)], v', A', by omega, rfl, rfl, b1, ?_, ?_, ?_, hh, ?_, ?_, O5⟩
        · show (X.D.puts X.pos (sectorsN (xs[i]'(by omega)).length) (putB X.next (xs[i]'(by omega)))).lay 0 0 _
          have := lay_put hlen.1 hl hlen.2
          rw [hp, hxn]
          rw [Nat.zero_add] at this
          exact this
        · show X.pos + sectorsN (xs[i]'(by omega)).length = _
          rw [endN_append, hp]
        · show X.next + 1 = _
          rw [hxn]; simp
        · show DiskM.n (DiskM.puts _ _ _ _) = 1024
          rw [DiskM.puts_n]; exact hD
        · simpa using hA'
      · have hX : X.app (xs[i]'(by omega)) = X := by unfold WalM.app; rw [if_neg hc]
        rw [hX] at b1
        simp only [hc, gdP_u, gdE_u, Int.reduceEq, Int.reduceLT, Int.reduceLE, Int.natCast_one, Int.natCast_zero, Int.cast_ofNat_Int, decide_false, decide_true, beq_self_eq_true, Bool.true_beq, Bool.false_beq, Bool.not_true, Bool.not_false, Bool.true_eq_false, Bool.false_eq_true, ne_eq, not_true_eq_false, not_false_eq_true, eq_self, if_false, intK_i, io_lss, io_leq, io_gtr, io_geq, io_eql, io_neq, obind_s, gdP_b, gdE_b, pkK_b, cndV_b, decide_eq_true_eq, decide_eq_false_iff_not, lenS_s, lenL_l, bindVH_s, exK_t, nilV_p, faK_p, refK_s, eqPtr_nn, eqPtr_sn, List.getElem?_cons_zero, List.getElem?_cons_succ, Bool.not_eq_true', bne_false', if_true, if_false, Bool.false_eq_true, cvI_i, Nat.zero_add, Nat.add_zero, io_add, wrap_i64 (x := (i : Int) + 1) (by omega) (by omega)]
        exact ⟨n - 1, _, _, rfl, by omega, ⟨f0, f1, f5, f8⟩, f9, f12, i + 1, X, W', all, av, A, by omega, rfl, f7, b1, hl, hp, hxn, hh, hD, hA, O1⟩
    · left
      simp only [show ((i : Int) < nx) by omega, show ¬ ((i : Int) < 9) by omega, intK_i, io_lss, io_leq, io_gtr, io_geq, io_eql, io_neq, obind_s, gdP_b, gdE_b, pkK_b, cndV_b, decide_eq_true_eq, decide_eq_false_iff_not, lenS_s, lenL_l, bindVH_s, exK_t, nilV_p, faK_p, refK_s, eqPtr_nn, eqPtr_sn, List.getElem?_cons_zero, List.getElem?_cons_succ, Bool.not_eq_true', bne_false', if_true, if_false, Bool.false_eq_true, cvI_i, Nat.zero_add, Nat.add_zero, gdP_u, gdE_u, Int.reduceEq, Int.reduceLT, Int.reduceLE, Int.natCast_one, Int.natCast_zero, Int.cast_ofNat_Int, decide_false, decide_true, beq_self_eq_true, Bool.true_beq, Bool.false_beq, Bool.not_true, Bool.not_false, Bool.true_eq_false, Bool.false_eq_true, ne_eq, not_true_eq_false, not_false_eq_true, eq_self]
      exact ⟨_, _, _, rfl, (fun e => by cases e), rfl, ⟨f0, f1, f5, f8⟩, X, W, all, av, A, f7, hW, hl, hD, hA, O⟩
  · left
    simp only [show ¬ ((i : Int) < nx) by omega, intK_i, io_lss, io_leq, io_gtr, io_geq, io_eql, io_neq, obind_s, gdP_b, gdE_b, pkK_b, cndV_b, decide_eq_true_eq, decide_eq_false_iff_not, lenS_s, lenL_l, bindVH_s, exK_t, nilV_p, faK_p, refK_s, eqPtr_nn, eqPtr_sn, List.getElem?_cons_zero, List.getElem?_cons_succ, Bool.not_eq_true', bne_false', if_true, if_false, Bool.false_eq_true, cvI_i, Nat.zero_add, Nat.add_zero, gdP_u, gdE_u, Int.reduceEq, Int.reduceLT, Int.reduceLE, Int.natCast_one, Int.natCast_zero, Int.cast_ofNat_Int, decide_false, decide_true, beq_self_eq_true, Bool.true_beq, Bool.false_beq, Bool.not_true, Bool.not_false, Bool.true_eq_false, Bool.false_eq_true, ne_eq, not_true_eq_false, not_false_eq_true, eq_self]
    exact ⟨_, _, _, rfl, (fun e => by cases e), rfl, ⟨f0, f1, f5, f8⟩, X, W, all, av, A, f7, hW, hl, hD, hA, O⟩

structure LoI (d : Nat) (fv tv : V) (R : Blk) (n : Nat) (f : Fs) (h : Heap) : Prop where
  ex : ∃ kk D BD all av A, n + kk = 2 ∧ GoS d fv tv kk f ∧ f 7 = av ∧ IsDisk d D BD ∧ D.lay 0 0 all ∧ D.n = 1024 ∧ IsSl 1 av all.length (all.map .str) A ∧ Own h (BD ++ (A ++ R))
structure LoQ (d : Nat) (R : Blk) (o : Out) (f : Fs) (h : Heap) : Prop where
  out : o = .exit 0
  f5 : f 5 = .ptr (some (d, 0))
  ex : ∃ D BD all av A, f 7 = av ∧ IsDisk d D BD ∧ D.lay 0 0 all ∧ D.n = 1024 ∧ IsSl 1 av all.length (all.map .str) A ∧ Own h (BD ++ (A ++ R))

theorem goes_open (hlf : 1000000 ≤ lf) {k : Nat} (hk : 8 ≤ k) {D : DiskM} {BD A : Blk} {all : List (List UInt8)} {av : V} (hD : IsDisk d D BD) (hl : D.lay 0 0 all) (hn : D.n = 1024) (hA : IsSl 1 av all.length (all.map .str) A) (O : Own h (BD ++ (A ++ R))) :
    ∃ w sv h' W X, run ee lf k false n_wal_Open [.ptr (some (d, 0))] h = some (.tup [.ptr (some (w, 0)), sv, .int .i64 0], h') ∧ IsWal d w X W ∧ X.D.lay 0 0 all ∧ X.pos = endN 0 all ∧ X.next = all.length ∧ X.held = 0 ∧ X.D.n = 1024 ∧
      run ee lf k false n_furlonglaw0_SameTexts [sv, av] h' = some (.bool true, h') ∧ Own h' (W ++ (A ++ R)) := by
  obtain ⟨v, h', B', e1, O1, w, sv, W, A', rfl, rfl, b1, b2⟩ := wOpen hlf hD k _ h (by omega) O
  obtain ⟨q1, q2, q3, q4, q5, q6⟩ := lay_opened (hD.len O) hl
  rw [q1] at b2
  have hal : all.length ≤ 1024 := by
    have := endN_ge all 0
    have := DiskM.lay_le hl
    omega
  have r1 := b2.rd (h := h') (R := W ++ (A ++ R)) (O1.perm (perm_c fun a => by simp only [List.count_append, List.count_cons, List.count_nil]; ac_rfl))
  have r2 := hA.rd (h := h') (R := W ++ (A' ++ R)) (O1.perm (perm_c fun a => by simp only [List.count_append, List.count_cons, List.count_nil]; ac_rfl))
  have e2 := sameTexts_ok (lf := lf) hlf r1 r2 (by show all.length ≤ _; omega) k (by omega)
  rw [decide_eq_true rfl] at e2
  refine ⟨w, sv, h', W, _, e1, b1, q6, q3, q4, q5, q2.trans hn, e2, (O1.perm (L' := A' ++ (W ++ (A ++ R))) (perm_c fun a => by simp only [List.count_append, List.count_cons, List.count_nil]; ac_rfl)).right⟩

theorem goes_l1 (hlf : 1000000 ≤ lf) {k nf nt : Nat} {fv tv : V} {fs ts : List (List UInt8)} (hk : 8 ≤ k) (hf : ArgSl R fv nf (fs.map .str)) (ht : ArgSl R tv nt (ts.map .str)) (n : Nat) (f : Fs) (h : Heap) (I : LoI d fv tv R n f h) (K : Out → Fs → Heap → Option T) :
    (∃ o f' h', furlonglaw10_WalGoes_l1 lf (run ee lf k) K f h = K o f' h' ∧ o ≠ .normal ∧ LoQ d R o f' h') ∨ (∃ m f' h', furlonglaw10_WalGoes_l1 lf (run ee lf k) K f h = K .normal f' h' ∧ m < n ∧ LoI d fv tv R m f' h') := by
  obtain ⟨kk, D, BD, all, av, A, hn, ⟨f0, f1, f5, f8⟩, f7, hD, hl, hDn, hA, O⟩ := I
  unfold furlonglaw10_WalGoes_l1
  cases n with
  | zero =>
    left
    obtain rfl : kk = 2 := by omega
    simp only [intK_i, io_lss, io_leq, io_gtr, io_geq, io_eql, io_neq, obind_s, gdP_b, gdE_b, pkK_b, cndV_b, decide_eq_true_eq, decide_eq_false_iff_not, lenS_s, lenL_l, bindVH_s, exK_t, nilV_p, faK_p, refK_s, eqPtr_nn, eqPtr_sn, List.getElem?_cons_zero, List.getElem?_cons_succ, Bool.not_eq_true', bne_false', if_true, if_false, Bool.false_eq_true, cvI_i, Nat.zero_add, Nat.add_zero, f8, show ¬ (((2 : Nat) : Int) < 2) by omega]
    exact ⟨_, _, _, rfl, (fun e => by cases e), rfl, f5, D, BD, all, av, A, f7, hD, hl, hDn, hA, O⟩
  | succ n =>
    right
    obtain ⟨w, sv, h1, W, X, e1, b1, q1, q2, q3, q4, q5, e2, O1⟩ := goes_open hlf hk hD hl hDn hA O
    have e3 := wNext (lf := lf) b1 O1 k (by omega)
    rw [q3] at e3
    have nr := fun v h => num_run (lf := lf) (show 1 ≤ k by omega) v h
    simp only [intK_i, io_lss, io_leq, io_gtr, io_geq, io_eql, io_neq, obind_s, gdP_b, gdE_b, pkK_b, cndV_b, decide_eq_true_eq, decide_eq_false_iff_not, lenS_s, lenL_l, bindVH_s, exK_t, nilV_p, faK_p, refK_s, eqPtr_nn, eqPtr_sn, List.getElem?_cons_zero, List.getElem?_cons_succ, Bool.not_eq_true', bne_false', if_true, if_false, Bool.false_eq_true, cvI_i, Nat.zero_add, Nat.add_zero, f8, f5, show ((kk : Int) < 2) by omega, e1]
    simp only [intK_i, io_lss, io_leq, io_gtr, io_geq, io_eql, io_neq, obind_s, gdP_b, gdE_b, pkK_b, cndV_b, decide_eq_true_eq, decide_eq_false_iff_not, lenS_s, lenL_l, bindVH_s, exK_t, nilV_p, faK_p, refK_s, eqPtr_nn, eqPtr_sn, List.getElem?_cons_zero, List.getElem?_cons_succ, Bool.not_eq_true', bne_false', if_true, if_false, Bool.false_eq_true, cvI_i, Nat.zero_add, Nat.add_zero, nr, gdP_u, gdE_u, Int.reduceEq, Int.reduceLT, Int.reduceLE, Int.natCast_one, Int.natCast_zero, Int.cast_ofNat_Int, decide_false, decide_true, beq_self_eq_true, Bool.true_beq, Bool.false_beq, Bool.not_true, Bool.not_false, Bool.true_eq_false, Bool.false_eq_true, ne_eq, not_true_eq_false, not_false_eq_true, eq_self]
    simp only [gdP_u, gdE_u, Int.reduceEq, Int.reduceLT, Int.reduceLE, Int.natCast_one, Int.natCast_zero, Int.cast_ofNat_Int, decide_false, decide_true, beq_self_eq_true, Bool.true_beq, Bool.false_beq, Bool.not_true, Bool.not_false, Bool.true_eq_false, Bool.false_eq_true, ne_eq, not_true_eq_false, not_false_eq_true, eq_self, intK_i, io_lss, io_leq, io_gtr, io_geq, io_eql, io_neq, obind_s, gdP_b, gdE_b, pkK_b, cndV_b, decide_eq_true_eq, decide_eq_false_iff_not, lenS_s, lenL_l, bindVH_s, exK_t, nilV_p, faK_p, refK_s, eqPtr_nn, eqPtr_sn, List.getElem?_cons_zero, List.getElem?_cons_succ, Bool.not_eq_true', bne_false', if_true, if_false, Bool.false_eq_true, cvI_i, Nat.zero_add, Nat.add_zero, f7, e2, unK, dUn]
    simp only [gdP_u, gdE_u, Int.reduceEq, Int.reduceLT, Int.reduceLE, Int.natCast_one, Int.natCast_zero, Int.cast_ofNat_Int, decide_false, decide_true, beq_self_eq_true, Bool.true_beq, Bool.false_beq, Bool.not_true, Bool.not_false, Bool.true_eq_false, Bool.false_eq_true, ne_eq, not_true_eq_false, not_false_eq_true, eq_self, intK_i, io_lss, io_leq, io_gtr, io_geq, io_eql, io_neq, obind_s, gdP_b, gdE_b, pkK_b, cndV_b, decide_eq_true_eq, decide_eq_false_iff_not, lenS_s, lenL_l, bindVH_s, exK_t, nilV_p, faK_p, refK_s, eqPtr_nn, eqPtr_sn, List.getElem?_cons_zero, List.getElem?_cons_succ, Bool.not_eq_true', bne_false', if_true, if_false, Bool.false_eq_true, cvI_i, Nat.zero_add, Nat.add_zero, e3, hA.len']
    unfold furlonglaw10_WalGoes_j1
    -- the inner loop, whichever texts it takes
    have inner : ∀ (xv : V) (nx : Nat) (xs : List (List UInt8)) (F : Fs), ArgSl R xv nx (xs.map .str) → GoS d fv tv kk F → F 9 = .ptr (some (w, 0)) → F 12 = xv → F 7 = av → F 13 = .int .i64 0 →
        ∃ f' h', iterK true (furlonglaw10_WalGoes_l2 lf (run ee lf k)) (fun o f h => blkK 2 o (furlonglaw10_WalGoes_j3 lf (run ee lf k) K f (f 8) h) (blkK 1 o (furlonglaw10_WalGoes_j3 lf (run ee lf k) K f (f 8) h) (seqK o (furlonglaw10_WalGoes_j3 lf (run ee lf k) K f (f 8) h) (K o f h)))) lf F h1 = K .normal f' h' ∧ LoI d fv tv R n f' h' := by
      intro xv nx xs F hx hs g9 g12 g7 g13
      obtain ⟨o, f', h2, e4, _, rfl, ⟨s0, s1, s5, s8⟩, X2, W2, all2, av2, A2, s7, ⟨BD2, rfl, hD2, _⟩, p1, p2, p3, O2⟩ := iterK_rule (fun n f h I K => goes_l2 (T := T) (lf := lf) (d := d) (w := w) (kk := kk) (fv := fv) (tv := tv) (R := R) hlf (show 6 ≤ k by omega) hx n f h I K) lf 9 F h1
        (fun o f h => blkK 2 o (furlonglaw10_WalGoes_j3 lf (run ee lf k) K f (f 8) h) (blkK 1 o (furlonglaw10_WalGoes_j3 lf (run ee lf k) K f (f 8) h) (seqK o (furlonglaw10_WalGoes_j3 lf (run ee lf k) K f (f 8) h) (K o f h)))) (by omega)
        ⟨hs, g9, g12, 0, X, W, all, av, A, rfl, g13, g7, b1, q1, q2, q3, q4, q5, hA, O1⟩
      rw [e4, blkK_e, if_pos rfl, s8]
      unfold furlonglaw10_WalGoes_j3
      simp only [intK_i, io_lss, io_leq, io_gtr, io_geq, io_eql, io_neq, obind_s, gdP_b, gdE_b, pkK_b, cndV_b, decide_eq_true_eq, decide_eq_false_iff_not, lenS_s, lenL_l, bindVH_s, exK_t, nilV_p, faK_p, refK_s, eqPtr_nn, eqPtr_sn, List.getElem?_cons_zero, List.getElem?_cons_succ, Bool.not_eq_true', bne_false', if_true, if_false, Bool.false_eq_true, cvI_i, Nat.zero_add, Nat.add_zero, io_add, wrap_i64 (x := (kk : Int) + 1) (by omega) (by omega)]
      exact ⟨_, _, rfl, kk + 1, X2.D, BD2, all2, av2, A2, by omega, ⟨s0, s1, s5, rfl⟩, s7, hD2, p1, p2, p3, O2.tail⟩
    by_cases hk1 : kk = 1
    · subst hk1
      simp only [Int.natCast_one, gdP_u, gdE_u, Int.reduceEq, Int.reduceLT, Int.reduceLE, Int.natCast_one, Int.natCast_zero, Int.cast_ofNat_Int, decide_false, decide_true, beq_self_eq_true, Bool.true_beq, Bool.false_beq, Bool.not_true, Bool.not_false, Bool.true_eq_false, Bool.false_eq_true, ne_eq, not_true_eq_false, not_false_eq_true, eq_self, if_true]
      generalize hF : updL 98 (updL _ _ _) _ = F
      obtain ⟨f', h', e4, e5⟩ := inner (f 1) nt ts F (by rw [f1]; exact ht) ⟨by rw [← hF]; exact f0, by rw [← hF]; exact f1, by rw [← hF]; exact f5, by rw [← hF]; exact f8⟩ (by rw [← hF]; rfl) (by rw [← hF]; rfl) (by rw [← hF]; exact f7) (by rw [← hF]; rfl)
      exact ⟨n, f', h', e4, by omega, e5⟩
    · simp only [show ¬ ((kk : Int) = 1) by omega, gdP_u, gdE_u, Int.reduceEq, Int.reduceLT, Int.reduceLE, Int.natCast_one, Int.natCast_zero, Int.cast_ofNat_Int, decide_false, decide_true, beq_self_eq_true, Bool.true_beq, Bool.false_beq, Bool.not_true, Bool.not_false, Bool.true_eq_false, Bool.false_eq_true, ne_eq, not_true_eq_false, not_false_eq_true, eq_self, if_false]
      generalize hF : updL 98 (updL _ _ _) _ = F
      obtain ⟨f', h', e4, e5⟩ := inner (f 0) nf fs F (by rw [f0]; exact hf) ⟨by rw [← hF]; exact f0, by rw [← hF]; exact f1, by rw [← hF]; exact f5, by rw [← hF]; exact f8⟩ (by rw [← hF]; rfl) (by rw [← hF]; rfl) (by rw [← hF]; exact f7) (by rw [← hF]; rfl)
      exact ⟨n, f', h', e4, by omega, e5⟩

theorem walGoes_run (hlf : 1000000 ≤ lf) {fv tv : V} {nf nt : Nat} {fs ts : List (List UInt8)} (hf : ArgSl R fv nf (fs.map .str)) (ht : ArgSl R tv nt (ts.map .str)) {h : Heap} (O : Own h R) {k : Nat} (hk : 10 ≤ k) :
    ∃ hp, furlonglaw10_WalGoes lf (run ee lf k) fv tv h = some (.bool true, hp) := by
  obtain ⟨v, h1, B1, e1, O1, d, rfl, b1⟩ := dNew (lf := lf) hlf (n := 1024) (by omega) (by omega) k R h (by omega) O
  unfold furlonglaw10_WalGoes
  have x1 : (V.int .i64 1024) = .int .i64 ((1024 : Nat) : Int) := rfl
  rw [x1]
  simp only [intK_i, io_lss, io_leq, io_gtr, io_geq, io_eql, io_neq, obind_s, gdP_b, gdE_b, pkK_b, cndV_b, decide_eq_true_eq, decide_eq_false_iff_not, lenS_s, lenL_l, bindVH_s, exK_t, nilV_p, faK_p, refK_s, eqPtr_nn, eqPtr_sn, List.getElem?_cons_zero, List.getElem?_cons_succ, Bool.not_eq_true', bne_false', if_true, if_false, Bool.false_eq_true, cvI_i, Nat.zero_add, Nat.add_zero, awake_at (lf := lf) (show 1 ≤ k by omega), unK, dUn, Bool.not_true, e1]
  generalize hF : updL _ _ _ = F
  obtain ⟨o, f', h2, e2, _, rfl, q5, D, BD, all, av, A, q7, hD, hl, hDn, hA, O2⟩ := iterK_rule (fun n f h I K => goes_l1 (T := V × Heap) (lf := lf) (d := d) (R := R) hlf (show 8 ≤ k by omega) hf ht n f h I K) lf 2 F h1
    (fun o f h => blkK 0 o (furlonglaw10_WalGoes_j4 lf (run ee lf k) f (f 5) (f 7) h) (seqK o (furlonglaw10_WalGoes_j4 lf (run ee lf k) f (f 5) (f 7) h) (kRet ee [.tmp 4] o f h))) (by omega)
    ⟨0, DiskM.zero 1024, B1, [], .sl none 0 0 0 true, [], rfl, ⟨by rw [← hF]; rfl, by rw [← hF]; rfl, by rw [← hF]; rfl, by rw [← hF]; rfl⟩, by rw [← hF]; rfl, b1, zero_lay 1024, DiskM.zero_n 1024, IsSl.nil 1 0, O1⟩
  rw [e2, blkK_e, if_pos rfl, q5, q7]
  unfold furlonglaw10_WalGoes_j4
  obtain ⟨w, sv, h3, W, X, e3, b3, p1, p2, p3, p4, p5, e4, O3⟩ := goes_open hlf (show 8 ≤ k by omega) hD hl hDn hA O2
  have nr := fun v h => num_run (lf := lf) (show 1 ≤ k by omega) v h
  simp only [intK_i, io_lss, io_leq, io_gtr, io_geq, io_eql, io_neq, obind_s, gdP_b, gdE_b, pkK_b, cndV_b, decide_eq_true_eq, decide_eq_false_iff_not, lenS_s, lenL_l, bindVH_s, exK_t, nilV_p, faK_p, refK_s, eqPtr_nn, eqPtr_sn, List.getElem?_cons_zero, List.getElem?_cons_succ, Bool.not_eq_true', bne_false', if_true, if_false, Bool.false_eq_true, cvI_i, Nat.zero_add, Nat.add_zero, e3]
  simp only [intK_i, io_lss, io_leq, io_gtr, io_geq, io_eql, io_neq, obind_s, gdP_b, gdE_b, pkK_b, cndV_b, decide_eq_true_eq, decide_eq_false_iff_not, lenS_s, lenL_l, bindVH_s, exK_t, nilV_p, faK_p, refK_s, eqPtr_nn, eqPtr_sn, List.getElem?_cons_zero, List.getElem?_cons_succ, Bool.not_eq_true', bne_false', if_true, if_false, Bool.false_eq_true, cvI_i, Nat.zero_add, Nat.add_zero, nr, gdP_u, gdE_u, Int.reduceEq, Int.reduceLT, Int.reduceLE, Int.natCast_one, Int.natCast_zero, Int.cast_ofNat_Int, decide_false, decide_true, beq_self_eq_true, Bool.true_beq, Bool.false_beq, Bool.not_true, Bool.not_false, Bool.true_eq_false, Bool.false_eq_true, ne_eq, not_true_eq_false, not_false_eq_true, eq_self]
  simp only [gdP_u, gdE_u, Int.reduceEq, Int.reduceLT, Int.reduceLE, Int.natCast_one, Int.natCast_zero, Int.cast_ofNat_Int, decide_false, decide_true, beq_self_eq_true, Bool.true_beq, Bool.false_beq, Bool.not_true, Bool.not_false, Bool.true_eq_false, Bool.false_eq_true, ne_eq, not_true_eq_false, not_false_eq_true, eq_self, intK_i, io_lss, io_leq, io_gtr, io_geq, io_eql, io_neq, obind_s, gdP_b, gdE_b, pkK_b, cndV_b, decide_eq_true_eq, decide_eq_false_iff_not, lenS_s, lenL_l, bindVH_s, exK_t, nilV_p, faK_p, refK_s, eqPtr_nn, eqPtr_sn, List.getElem?_cons_zero, List.getElem?_cons_succ, Bool.not_eq_true', bne_false', if_true, if_false, Bool.false_eq_true, cvI_i, Nat.zero_add, Nat.add_zero, e4]
  exact ⟨_, rfl⟩
end
end Go.Zs
