/- The statements on texts that are too long, on what is held. -/
import Derived.Test.YtkgglkoooldodaaWl9
import Derived.Test.YtkgglkoooldodaaZsI6
set_option linter.unusedVariables false
set_option linter.unusedSimpArgs false
set_option linter.deprecated false
namespace Go.Zs
open Go Go.Proofs

section
variable {h h' : Heap} {d sy m w : Nat} {D D' : DiskM} {X : WalM} {B R : Blk} {lf : Nat}

theorem numB_head (x : Nat) : (putB x []).head? = some 70 := rfl
/-- Where nothing but zeros stands there is no frame. -/
theorem getB_zeros (x : Nat) (s : List UInt8) : getB (zeroB64 ++ s) x = none := by
  unfold getB
  have hz : sizeH (zeroB64 ++ s) = 0 := by
    unfold sizeH
    rw [List.getD_eq_getElem?_getD, List.getD_eq_getElem?_getD, List.getElem?_append_left (by simp [zeroB64]), List.getElem?_append_left (by simp [zeroB64])]
    simp [zeroB64]
  have hm : manyB (zeroB64 ++ s) = 64 := by unfold manyB; rw [hz]; rfl
  rw [if_neg (by rw [List.length_append]; show ¬ 64 + s.length < 12; omega), hm, hz, if_neg (by rw [List.length_append]; show ¬ (64 = 0 ∨ 64 + s.length < 64); omega), if_neg]
  intro e
  have := congrArg List.head? e
  rw [List.take_zero, numB_head] at this
  cases this
theorem getB_rest_zero {n : Nat} (hn : ∀ i, i < n → D.at i = zeroB64) (hD : D.n = n) (p x : Nat) : ∀ k, getB (D.restB p (k + 1)) x = none := by
  intro k
  have hs : D.restB p (k + 1) = [] ∨ ∃ s, D.restB p (k + 1) = zeroB64 ++ s := by
    induction k with
    | zero =>
      simp only [DiskM.restB, Nat.add_zero, List.nil_append]
      split
      · rename_i h; exact .inr ⟨[], by rw [hn p (by omega), List.append_nil]⟩
      · exact .inl rfl
    | succ k ih =>
      rw [DiskM.restB]
      split
      · rename_i h
        rcases ih with e | ⟨s, e⟩
        · rw [e]; exact .inr ⟨[], by rw [hn _ (by omega), List.append_nil]; rfl⟩
        · rw [e]; exact .inr ⟨s ++ D.at (p + (k + 1)), by rw [List.append_assoc]⟩
      · exact ih
  rcases hs with e | ⟨s, e⟩
  · rw [e]; exact getB_nil x (by simp)
  · rw [e]; exact getB_zeros x s
theorem zero_all (n : Nat) : (DiskM.zero n).all = ([], 0, 0) := by
  unfold DiskM.all
  rw [DiskM.zero_n, DiskM.scan, getB_rest_zero (D := DiskM.zero n) (n := n) (fun i hi => DiskM.zero_at hi) (DiskM.zero_n n) 0 0 128]
/-- A log in an empty disk. -/
structure Fresh (n : Nat) (X : WalM) : Prop where
  n : X.D.n = n
  pos : X.pos = 0
  next : X.next = 0
  held : X.held = 0
theorem zero_opened (n : Nat) : Fresh n (DiskM.zero n).opened := by
  unfold DiskM.opened WalM.clean
  rw [zero_all]
  exact ⟨by show DiskM.n (DiskM.sync _) = n; rw [DiskM.sync_n, DiskM.cleanN_n, DiskM.zero_n], rfl, rfl, rfl⟩

theorem Own.start : Own ⟨0, .leaf⟩ [] := Own.nil fun _ _ => rfl

/-- A law's beginning: a new disk, its log. -/
theorem start_ok (hlf : 1000000 ≤ lf) {n : Nat} (h1 : 1 ≤ n) (hn : n ≤ 1024) {h : Heap} {R : Blk} (O : Own h R) {k : Nat} (hk : 6 ≤ k) :
    ∃ d h1 w sv h2 W X A, run ee lf k false n_disk_New [.int .i64 n] h = some (.tup [.ptr (some (d, 0)), .int .i64 0], h1) ∧
      run ee lf k false n_wal_Open [.ptr (some (d, 0))] h1 = some (.tup [.ptr (some (w, 0)), sv, .int .i64 0], h2) ∧ IsWal w X W ∧ Fresh n X ∧ IsSl 1 sv 0 [] A ∧ Own h2 (W ++ (A ++ R)) := by
  obtain ⟨v, h1', B1, e1, O1, d, rfl, b1⟩ := dNew hlf h1 hn k R h (by omega) O
  obtain ⟨v, h2, B2, e2, O2, w, sv, W, A, rfl, rfl, b2, b3⟩ := wOpen hlf b1 k R h1' (by omega) O1
  rw [zero_all] at b3
  exact ⟨d, h1', w, sv, h2, W, _, A, e1, e2, b2, zero_opened n, b3, O2.perm (perm_c fun a => by simp only [List.count_append, List.count_cons, List.count_nil]; ac_rfl)⟩

theorem binV_bool {T : Type} (t : Nat) (ht : ee.P.underlying t = some .bool) (a b : Bool) (h : Heap) (K : V → Option T) : binV ee .eql t (.bool a) (.bool b) h K = K (.bool (a == b)) := by
  have : dBin ee .eql t (.bool a) (.bool b) h = some (.bool (a == b)) := by
    show (dEqual ee 100 t (.bool a) (.bool b) h).map V.bool = _
    unfold dEqual
    rw [ht]; rfl
  show (bif isAggV (.bool a) && _ then none else (dBin ee .eql t (.bool a) (.bool b) h).bind K) = _
  rw [this]; rfl
theorem tbool : ee.P.underlying t_bool = some .bool := by kernel_rfl

/-- A text of zeros. -/
theorem zeros_ok {T : Type} {h : Heap} {R : Blk} (O : Own h R) {k : IntKind} {n : Nat} (hn : n ≤ 100000) : ∃ u h1, Own h1 R ∧ ∀ K : V → V → Heap → Option T, (mkS 1 1 [V.int .u8 0] (.int k n) (.int k n) h fun v h => cvBS v h fun w => K v w h) = K u (.str (List.replicate n 0)) h1 := by
  have hz : (copies [V.int .u8 0] n) = bytesV (List.replicate n 0) := by rw [copies_one, bytesV_zeros]
  refine ⟨.sl (some (h.next, 0)) n n 1 true, h.new (.cells (copies [V.int .u8 0] n) .own), (O.new _).tail, fun K => ?_⟩
  rw [mkS_i 1 1 _ _ _ _ _ _ _ (Nat.le_refl _) (by omega) (by omega)]
  rw [cvBS_c (s := List.replicate n 0) (Heap.get_new_self _ _) (fun _ => by rw [hz, bytesV_length]; simp) (fun _ => by
    rw [hz, List.drop_zero, List.take_of_length_le (by rw [bytesV_length]; simp)]
    exact bytesOfVs_map _) (fun h0 => by rw [h0]; rfl)]

theorem num_run {k : Nat} (hk : 1 ≤ k) (v : V) (h : Heap) : run ee lf k false n_furlonglaw0_Num [v] h = some (v, h) := by
  obtain ⟨k, rfl⟩ : ∃ j, k = j + 1 := ⟨k - 1, by omega⟩
  exact furlonglaw0_Num_run rfl
theorem awake_at {k : Nat} (hk : 1 ≤ k) (h : Heap) : run ee lf k false n_furlonglaw10_awake [] h = some (.bool true, h) := by
  obtain ⟨k, rfl⟩ : ∃ j, k = j + 1 := ⟨k - 1, by omega⟩
  exact awake_run h

theorem WalM.app_n (X : WalM) (s : List UInt8) : (X.app s).D.n = X.D.n := by
  unfold WalM.app
  split
  · exact DiskM.puts_n _ _ _ _
  · rfl
theorem WalM.use_n (X : WalM) (s : List UInt8) : (X.use s).D.n = X.D.n := by
  unfold WalM.use
  split
  · exact DiskM.puts_n _ _ _ _
  · rfl

theorem walForms_run (hlf : 1000000 ≤ lf) (a0 a1 : Int) (ha : a1 < 9223372036854775808) {k : Nat} (hk : 10 ≤ k) : ∃ hp, furlonglaw10_WalForms lf (run ee lf k) (.int .i64 a0) (.int .i64 a1) ⟨0, .leaf⟩ = some (.bool true, hp) := by
  obtain ⟨d, h1, w, sv, h2, W, X, A, e1, e2, b1, fr, b2, O1⟩ := start_ok hlf (n := 1024) (by omega) (by omega) Own.start (show 6 ≤ k by omega)
  obtain ⟨r, hr, e⟩ := and_mask a0 7 (by decide)
  have e3 : intOp .and .i64 a0 .i64 (7 : Int) = some (.int .i64 (r : Nat)) := e
  unfold furlonglaw10_WalForms
  have x1 : (V.int .i64 1024) = .int .i64 ((1024 : Nat) : Int) := rfl
  rw [x1]
  have hn := fr.n
  have hp := fr.pos
  have hx := fr.next
  have hh := fr.held
  -- the first text
  obtain ⟨_, h3, O3, e4⟩ := zeros_ok (T := V × Heap) O1 (k := .i64) (n := 8190 + r) (by omega)
  obtain ⟨v, h4, W4, e5, O4, rfl, b4⟩ := wAppend hlf b1 (List.replicate (8190 + r) 0) k _ h3 (by omega) O3
  have e6 := wNext (lf := lf) b4 O4 k (by omega)
  obtain ⟨v, h5, W5, e7, O5, rfl, b5⟩ := wUse hlf b4 [120] (by decide) k _ h4 (by omega) O4
  obtain ⟨v, h6, W6, e8, O6, rfl, b6⟩ := wFree (lf := lf) b5 a1 ha k _ h5 (by omega) O5
  obtain ⟨v, h7, W7, e9, O7, rfl, b7⟩ := wHold (lf := lf) b6 3 k _ h6 (by omega) O6
  obtain ⟨_, h8, O8, e10⟩ := zeros_ok (T := V × Heap) O7 (k := .i64) (n := 50 + r) (by omega)
  obtain ⟨v, h9, W9, e11, O9, rfl, b9⟩ := wUse hlf b7 (List.replicate (50 + r) 0) (by simp; omega) k _ h8 (by omega) O8
  obtain ⟨v, h10, W10, e12, O10, rfl, b10⟩ := wFree (lf := lf) b9 4 (by omega) k _ h9 (by omega) O9
  obtain ⟨v, h11, W11, e13, O11, rfl, b11⟩ := wFree (lf := lf) b10 (-1) (by omega) k _ h10 (by omega) O10
  have c1 : (8190 : Int) + (r : Nat) = ((8190 + r : Nat) : Int) := by omega
  have c2 : (50 : Int) + (r : Nat) = ((50 + r : Nat) : Int) := by omega
  have w1 := wrap_i64 (x := ((8190 + r : Nat) : Int)) (by omega) (by omega)
  have w2 := wrap_i64 (x := ((50 + r : Nat) : Int)) (by omega) (by omega)
  have w3 := wrap_i64 (x := ((50 + r : Nat) : Int) + 12) (by omega) (by omega)
  -- what each answers
  have hsec : 8190 + r ≤ 8192 → sectorsN (8190 + r) = 129 := by unfold sectorsN; omega
  have q1 : X.appC (List.replicate (8190 + r) 0) = if r ≤ 2 then 0 else 1000 := by
    unfold WalM.appC WalM.room
    rw [List.length_replicate]
    by_cases hr2 : r ≤ 2
    · rw [if_neg (by omega), if_neg (by have := hsec (by omega); omega), if_pos hr2]
    · rw [if_pos (by omega), if_neg hr2]
  have q2 : (X.app (List.replicate (8190 + r) 0)).held = 0 ∧ (X.app (List.replicate (8190 + r) 0)).next = (if r ≤ 2 then 1 else 0) ∧ (X.app (List.replicate (8190 + r) 0)).pos ≤ 129 := by
    unfold WalM.app
    rw [q1]
    by_cases hr2 : r ≤ 2
    · rw [if_pos hr2, if_pos hr2]
      refine ⟨hh, by show X.next + 1 = 1; omega, ?_⟩
      show X.pos + sectorsN (List.replicate (8190 + r) (0 : UInt8)).length ≤ 129
      rw [List.length_replicate, hsec (by omega)]; omega
    · rw [if_neg hr2, if_neg hr2, if_neg (by decide)]
      exact ⟨hh, hx, by omega⟩
  have hn1 : (X.app (List.replicate (8190 + r) 0)).D.n = 1024 := (X.app_n _).trans hn
  generalize X.app (List.replicate (8190 + r) 0) = X1 at *
  have q3 : X1.useB [120] = false := by unfold WalM.useB; simp [q2.1]
  have q4 : X1.use [120] = X1 := by unfold WalM.use; rw [q3]; rfl
  rw [q3] at e7
  rw [q4] at e8 e9 e11 e12 e13
  have q5 : X1.freeB a1 = decide (a1 = 0) := by
    unfold WalM.freeB
    rw [q2.1]
    by_cases h0 : a1 = 0
    · subst h0; rfl
    · rw [decide_eq_false h0]; simp; omega
  have q6 : X1.free a1 = X1 := by
    unfold WalM.free
    split
    · rename_i hf
      rw [q5] at hf
      have : a1 = 0 := by simpa using hf
      subst this
      rfl
    · rfl
  rw [q5] at e8
  rw [q6] at e9 e11 e12 e13
  have q7 : X1.holdB 3 = true := by
    unfold WalM.holdB WalM.room
    rw [hn1, q2.1]
    simp; omega
  have q8 : X1.hold 3 = { X1 with held := 3 } := by unfold WalM.hold; rw [q7, if_pos rfl, q2.1]; rfl
  rw [q7] at e9
  rw [q8] at e11 e12 e13
  generalize hX2 : ({ X1 with held := 3 } : WalM) = X2 at *
  have q9 : X2.useB (List.replicate (50 + r) 0) = decide (r ≤ 2) := by
    unfold WalM.useB
    rw [← hX2, List.length_replicate]
    by_cases hr2 : r ≤ 2
    · simp [hr2]; omega
    · simp [hr2]; omega
  have q10 : (X2.use (List.replicate (50 + r) 0)).held ≤ 3 := by
    unfold WalM.use
    split
    · show X2.held - 1 ≤ 3
      rw [← hX2]; simp
    · rw [← hX2]; exact Nat.le_refl 3
  rw [q9] at e11
  generalize X2.use (List.replicate (50 + r) 0) = X3 at *
  have q11 : X3.freeB 4 = false := by unfold WalM.freeB; simp; omega
  have q12 : X3.free 4 = X3 := by unfold WalM.free; rw [q11]; rfl
  have q13 : X3.freeB (-1) = false := by unfold WalM.freeB; simp
  rw [q11] at e12
  rw [q12, q13] at e13
  rw [q1] at e5
  rw [q2.2.1] at e6
  simp only [intK_i, io_lss, io_leq, io_gtr, io_geq, io_eql, io_neq, Option.bind_some, gdP_b, gdE_b, pkK_b, cndV_b, decide_eq_true_eq, decide_eq_false_iff_not, lenS_s, lenL_l, bindVH_s, exK_t, nilV_p, faK_p, refK_s, eqPtr_nn, eqPtr_sn, List.getElem?_cons_zero, List.getElem?_cons_succ, Bool.not_eq_true', bne_false', if_true, if_false, Bool.false_eq_true, cvI_i, Nat.zero_add, Nat.add_zero, awake_at (lf := lf) (show 1 ≤ k by omega), e1, e2, num_run (lf := lf) (show 1 ≤ k by omega), unK, dUn, Bool.not_true, ne_eq, not_true, decide_false, e3, io_add, c1, w1, e4, e5, e6, e7, e8, e9, c2, w2, e10, e11, e12, e13, w3]
  by_cases hr2 : r ≤ 2 <;> by_cases h0 : a1 = 0 <;>
  simp only [intK_i, io_lss, io_leq, io_gtr, io_geq, io_eql, io_neq, Option.bind_some, gdP_b, gdE_b, pkK_b, cndV_b, decide_eq_true_eq, decide_eq_false_iff_not, lenS_s, lenL_l, bindVH_s, exK_t, nilV_p, faK_p, refK_s, eqPtr_nn, eqPtr_sn, List.getElem?_cons_zero, List.getElem?_cons_succ, Bool.not_eq_true', bne_false', if_true, if_false, Bool.false_eq_true, cvI_i, Nat.zero_add, Nat.add_zero, gdP_u, gdE_u, Int.reduceEq, Int.reduceLT, Int.reduceLE, Int.natCast_one, Int.natCast_zero, Int.cast_ofNat_Int, decide_false, decide_true, beq_self_eq_true, Bool.true_beq, Bool.false_beq, Bool.not_true, Bool.not_false, Bool.true_eq_false, Bool.false_eq_true, ne_eq, not_true_eq_false, not_false_eq_true, eq_self, hr2, h0, binV_bool t_bool tbool, show (((50 + r : Nat) : Int) + 12 ≤ 64) = (r ≤ 2) from propext (by omega), show (((8190 + r : Nat) : Int) ≤ 8192) = (r ≤ 2) from propext (by omega)] <;>
  exact ⟨_, rfl⟩
end
end Go.Zs
/- The statement on what is held: the rest may be filled. -/
namespace Go.Zs
open Go Go.Proofs

section
variable {h h' : Heap} {d sy m w : Nat} {D D' : DiskM} {X : WalM} {B R : Blk} {lf : Nat}

theorem binV_bool_n {T : Type} (t : Nat) (ht : ee.P.underlying t = some .bool) (a b : Bool) (h : Heap) (K : V → Option T) : binV ee .neq t (.bool a) (.bool b) h K = K (.bool (!(a == b))) := by
  have : dBin ee .neq t (.bool a) (.bool b) h = some (.bool (!(a == b))) := by
    show (dEqual ee 100 t (.bool a) (.bool b) h).map (fun r => V.bool !r) = _
    unfold dEqual
    rw [ht]; rfl
  show (bif isAggV (.bool a) && _ then none else (dBin ee .neq t (.bool a) (.bool b) h).bind K) = _
  rw [this]; rfl

theorem hold_no {X : WalM} {k : Int} (h : X.holdB k = false) : X.hold k = X := by unfold WalM.hold; rw [h]; rfl

structure HdS (w : Nat) (s : List UInt8) (kk hh each : Nat) (f : Fs) : Prop where
  f7 : f 7 = .int .i64 kk
  f10 : f 10 = .ptr (some (w, 0))
  f13 : f 13 = .int .i64 hh
  f15 : f 15 = .str s
  f16 : f 16 = .int .i64 each
structure HdI (w : Nat) (s : List UInt8) (R : Blk) (kk hh each : Nat) (n : Nat) (f : Fs) (h : Heap) : Prop where
  sl : HdS w s kk hh each f
  ex : ∃ i X W, n + i = 20 ∧ f 17 = .int .i64 (i : Nat) ∧ f 18 = .int .i64 (i : Nat) ∧ IsWal w X W ∧ Own h (W ++ R) ∧ X.D.n = kk ∧ X.held = hh ∧ X.pos = i * each ∧ X.next = i ∧ i * each + hh ≤ kk
structure HdQ (w : Nat) (s : List UInt8) (R : Blk) (kk hh each : Nat) (o : Out) (f : Fs) (h : Heap) : Prop where
  out : o = .exit 0
  sl : HdS w s kk hh each f
  ex : ∃ i X W, f 17 = .int .i64 (i : Nat) ∧ IsWal w X W ∧ Own h (W ++ R) ∧ X.D.n = kk ∧ X.held = hh ∧ X.pos = i * each ∧ X.next = i ∧ i * each + hh ≤ kk ∧ kk - hh - i * each < each

theorem holds_l1 {T : Type} (hlf : 1000000 ≤ lf) {s : List UInt8} {kk hh each k : Nat} (hk : 6 ≤ k) (hkk : kk ≤ 17) (hs : s.length ≤ 127) (he : each = sectorsN s.length) (n : Nat) (f : Fs) (h : Heap) (I : HdI w s R kk hh each n f h) (K : Out → Fs → Heap → Option T) :
    (∃ o f' h', furlonglaw10_WalHolds_l1 lf (run ee lf k) K f h = K o f' h' ∧ o ≠ .normal ∧ HdQ w s R kk hh each o f' h') ∨ (∃ m f' h', furlonglaw10_WalHolds_l1 lf (run ee lf k) K f h = K .normal f' h' ∧ m < n ∧ HdI w s R kk hh each m f' h') := by
  obtain ⟨⟨h7, h10, h13, h15, h16⟩, i, X, W, hn, h17, h18, hW, O, x1, x2, x3, x4, x5⟩ := I
  have he1 : 1 ≤ each := by rw [he]; exact sectorsN_pos _
  have hi : i ≤ i * each := Nat.le_mul_of_pos_right _ he1
  have hi20 : (i : Int) < 20 := by omega
  obtain ⟨v, h1, W1, e1, O1, rfl, b1⟩ := wAppend hlf hW s k R h (by omega) O
  unfold furlonglaw10_WalHolds_l1
  have hc : X.appC s = if kk - hh - i * each < each then 1001 else 0 := by
    unfold WalM.appC WalM.room
    rw [if_neg (by omega), x1, x2, x3, ← he]
    have : kk - i * each - hh = kk - hh - i * each := by omega
    rw [this]
  rw [hc] at e1
  by_cases hr : kk - hh - i * each < each
  · left
    simp only [intK_i, io_lss, io_leq, io_gtr, io_geq, io_eql, io_neq, Option.bind_some, gdP_b, gdE_b, pkK_b, cndV_b, decide_eq_true_eq, decide_eq_false_iff_not, lenS_s, lenL_l, bindVH_s, exK_t, nilV_p, faK_p, refK_s, eqPtr_nn, eqPtr_sn, List.getElem?_cons_zero, List.getElem?_cons_succ, Bool.not_eq_true', bne_false', if_true, if_false, Bool.false_eq_true, cvI_i, Nat.zero_add, Nat.add_zero, h10, h15, h18, hi20, hr, e1, num_run (lf := lf) (show 1 ≤ k by omega), gdP_u, gdE_u, Int.reduceEq, Int.reduceLT, Int.reduceLE, Int.natCast_one, Int.natCast_zero, Int.cast_ofNat_Int, decide_false, decide_true, beq_self_eq_true, Bool.true_beq, Bool.false_beq, Bool.not_true, Bool.not_false, Bool.true_eq_false, Bool.false_eq_true, ne_eq, not_true_eq_false, not_false_eq_true, eq_self]
    have hX : X.app s = X := by unfold WalM.app; rw [hc, if_pos hr]; rfl
    rw [hX] at b1
    exact ⟨_, _, _, rfl, (fun e => by cases e), rfl, ⟨h7, h10, h13, h15, h16⟩, i, X, W1, h17, b1, O1, x1, x2, x3, x4, x5, hr⟩
  · right
    have hX : X.app s = X.write s := by unfold WalM.app; rw [hc, if_neg hr, if_pos rfl]
    rw [hX] at b1
    simp only [intK_i, io_lss, io_leq, io_gtr, io_geq, io_eql, io_neq, Option.bind_some, gdP_b, gdE_b, pkK_b, cndV_b, decide_eq_true_eq, decide_eq_false_iff_not, lenS_s, lenL_l, bindVH_s, exK_t, nilV_p, faK_p, refK_s, eqPtr_nn, eqPtr_sn, List.getElem?_cons_zero, List.getElem?_cons_succ, Bool.not_eq_true', bne_false', if_true, if_false, Bool.false_eq_true, cvI_i, Nat.zero_add, Nat.add_zero, h10, h15, h17, h18, hi20, hr, e1, num_run (lf := lf) (show 1 ≤ k by omega), gdP_u, gdE_u, Int.reduceEq, Int.reduceLT, Int.reduceLE, Int.natCast_one, Int.natCast_zero, Int.cast_ofNat_Int, decide_false, decide_true, beq_self_eq_true, Bool.true_beq, Bool.false_beq, Bool.not_true, Bool.not_false, Bool.true_eq_false, Bool.false_eq_true, ne_eq, not_true_eq_false, not_false_eq_true, eq_self, io_add, wrap_i64 (x := (i : Int) + 1) (by omega) (by omega)]
    have hm : i * each + each = (i + 1) * each := by rw [Nat.add_mul, Nat.one_mul]
    refine ⟨n - 1, _, _, rfl, by omega, ⟨h7, h10, h13, h15, h16⟩, i + 1, X.write s, W1, by omega, rfl, rfl, b1, O1, ?_, x2, ?_, ?_, ?_⟩
    · show DiskM.n (DiskM.puts _ _ _ _) = kk
      rw [DiskM.puts_n]; exact x1
    · show X.pos + sectorsN s.length = (i + 1) * each
      rw [x3, ← he, hm]
    · show X.next + 1 = i + 1
      rw [x4]
    · omega

structure UsI (w : Nat) (R : Blk) (kk hh many : Nat) (n : Nat) (f : Fs) (h : Heap) : Prop where
  f10 : f 10 = .ptr (some (w, 0))
  f13 : f 13 = .int .i64 hh
  f17 : f 17 = .int .i64 many
  ex : ∃ i X W, n + i = hh ∧ f 20 = .int .i64 (i : Nat) ∧ IsWal w X W ∧ Own h (W ++ R) ∧ X.held = n ∧ X.next = many + i
structure UsQ (w : Nat) (R : Blk) (kk hh many : Nat) (o : Out) (f : Fs) (h : Heap) : Prop where
  out : o = .exit 2
  f10 : f 10 = .ptr (some (w, 0))
  f13 : f 13 = .int .i64 hh
  f17 : f 17 = .int .i64 many
  ex : ∃ X W, IsWal w X W ∧ Own h (W ++ R) ∧ X.held = 0 ∧ X.next = many + hh
theorem holds_l2 {T : Type} (hlf : 1000000 ≤ lf) {kk hh many k : Nat} (hk : 6 ≤ k) (hkk : hh ≤ 17) (n : Nat) (f : Fs) (h : Heap) (I : UsI w R kk hh many n f h) (K : Out → Fs → Heap → Option T) :
    (∃ o f' h', furlonglaw10_WalHolds_l2 lf (run ee lf k) K f h = K o f' h' ∧ o ≠ .normal ∧ UsQ w R kk hh many o f' h') ∨ (∃ m f' h', furlonglaw10_WalHolds_l2 lf (run ee lf k) K f h = K .normal f' h' ∧ m < n ∧ UsI w R kk hh many m f' h') := by
  obtain ⟨h10, h13, h17, i, X, W, hn, h20, hW, O, x1, x2⟩ := I
  unfold furlonglaw10_WalHolds_l2
  cases n with
  | zero =>
    left
    obtain rfl : i = hh := by omega
    simp only [intK_i, io_lss, io_leq, io_gtr, io_geq, io_eql, io_neq, Option.bind_some, gdP_b, gdE_b, pkK_b, cndV_b, decide_eq_true_eq, decide_eq_false_iff_not, lenS_s, lenL_l, bindVH_s, exK_t, nilV_p, faK_p, refK_s, eqPtr_nn, eqPtr_sn, List.getElem?_cons_zero, List.getElem?_cons_succ, Bool.not_eq_true', bne_false', if_true, if_false, Bool.false_eq_true, cvI_i, Nat.zero_add, Nat.add_zero, h13, h20, show ¬ ((i : Int) < i) by omega]
    exact ⟨_, _, _, rfl, (fun e => by cases e), rfl, h10, h13, h17, X, W, hW, O, x1, x2⟩
  | succ n =>
    right
    obtain ⟨v, h1, W1, e1, O1, rfl, b1⟩ := wUse hlf hW [100] (by decide) k R h (by omega) O
    have hu : X.useB [100] = true := by unfold WalM.useB; rw [x1]; rfl
    rw [hu] at e1
    have hX : X.use [100] = WalM.write { X with held := X.held - 1 } [100] := by unfold WalM.use; rw [hu]; rfl
    rw [hX] at b1
    simp only [intK_i, io_lss, io_leq, io_gtr, io_geq, io_eql, io_neq, Option.bind_some, gdP_b, gdE_b, pkK_b, cndV_b, decide_eq_true_eq, decide_eq_false_iff_not, lenS_s, lenL_l, bindVH_s, exK_t, nilV_p, faK_p, refK_s, eqPtr_nn, eqPtr_sn, List.getElem?_cons_zero, List.getElem?_cons_succ, Bool.not_eq_true', bne_false', if_true, if_false, Bool.false_eq_true, cvI_i, Nat.zero_add, Nat.add_zero, h10, h13, h20, show ((i : Int) < hh) by omega, e1, num_run (lf := lf) (show 1 ≤ k by omega), gdP_u, gdE_u, Int.reduceEq, Int.reduceLT, Int.reduceLE, Int.natCast_one, Int.natCast_zero, Int.cast_ofNat_Int, decide_false, decide_true, beq_self_eq_true, Bool.true_beq, Bool.false_beq, Bool.not_true, Bool.not_false, Bool.true_eq_false, Bool.false_eq_true, ne_eq, not_true_eq_false, not_false_eq_true, eq_self, io_add, wrap_i64 (x := (i : Int) + 1) (by omega) (by omega)]
    refine ⟨n, _, _, rfl, by omega, h10, h13, h17, i + 1, _, W1, by omega, rfl, b1, O1, ?_, ?_⟩
    · show X.held - 1 = n
      omega
    · show X.next + 1 = many + (i + 1)
      omega

theorem walHolds_run (hlf : 1000000 ≤ lf) (a0 a1 a2 : Int) {k : Nat} (hk : 10 ≤ k) : ∃ hp, furlonglaw10_WalHolds lf (run ee lf k) (.int .i64 a0) (.int .i64 a1) (.int .i64 a2) ⟨0, .leaf⟩ = some (.bool true, hp) := by
  obtain ⟨r0, hr0, e⟩ := and_mask a0 15 (by decide)
  have e0 : intOp .and .i64 a0 .i64 (15 : Int) = some (.int .i64 (r0 : Nat)) := e
  obtain ⟨hh, hr1, e⟩ := and_mask a1 15 (by decide)
  have e1 : intOp .and .i64 a1 .i64 (15 : Int) = some (.int .i64 (hh : Nat)) := e
  obtain ⟨z, hr2, e⟩ := and_mask a2 127 (by decide)
  have e2 : intOp .and .i64 a2 .i64 (127 : Int) = some (.int .i64 (z : Nat)) := e
  obtain ⟨d, h1, w, sv, h2, W, X, A, e3, e4, b1, fr, b2, O1⟩ := start_ok (lf := lf) hlf (n := 2 + r0) (by omega) (by omega) Own.start (show 6 ≤ k by omega)
  have hn := fr.n
  have hp := fr.pos
  have hx := fr.next
  have hh0 := fr.held
  have c1 : (2 : Int) + (r0 : Nat) = ((2 + r0 : Nat) : Int) := by omega
  have w1 := wrap_i64 (x := ((2 + r0 : Nat) : Int)) (by omega) (by omega)
  obtain ⟨v, h3, W3, e5, O3, rfl, b3⟩ := wHold (lf := lf) b1 hh k _ h2 (by omega) O1
  obtain ⟨v, h4, W4, e6, O4, rfl, b4⟩ := wHold (lf := lf) b3 (-1) k _ h3 (by omega) O3
  have q1 : X.holdB hh = decide (hh ≤ 2 + r0) := by
    unfold WalM.holdB WalM.room
    rw [hn, hp, hh0]
    by_cases hc : hh ≤ 2 + r0
    · simp [hc]; omega
    · simp [hc]; omega
  have q2 : (X.hold hh).holdB (-1) = false := by unfold WalM.holdB; simp
  have q3 : (X.hold hh).hold (-1) = X.hold hh := hold_no q2
  rw [q1] at e5
  rw [q2] at e6
  rw [q3] at b4
  unfold furlonglaw10_WalHolds
  have hb : ((hh : Int) ≤ ((2 + r0 : Nat) : Int)) = (hh ≤ 2 + r0) := propext (by omega)
  have nr := fun v h => num_run (lf := lf) (show 1 ≤ k by omega) v h
  simp only [intK_i, io_lss, io_leq, io_gtr, io_geq, io_eql, io_neq, Option.bind_some, gdP_b, gdE_b, pkK_b, cndV_b, decide_eq_true_eq, decide_eq_false_iff_not, lenS_s, lenL_l, bindVH_s, exK_t, nilV_p, faK_p, refK_s, eqPtr_nn, eqPtr_sn, List.getElem?_cons_zero, List.getElem?_cons_succ, Bool.not_eq_true', bne_false', if_true, if_false, Bool.false_eq_true, cvI_i, Nat.zero_add, Nat.add_zero, awake_at (lf := lf) (show 1 ≤ k by omega), unK, dUn, Bool.not_true, ne_eq, not_true, decide_false, e0, io_add, c1, w1, e3, e4]
  simp only [intK_i, io_lss, io_leq, io_gtr, io_geq, io_eql, io_neq, Option.bind_some, gdP_b, gdE_b, pkK_b, cndV_b, decide_eq_true_eq, decide_eq_false_iff_not, lenS_s, lenL_l, bindVH_s, exK_t, nilV_p, faK_p, refK_s, eqPtr_nn, eqPtr_sn, List.getElem?_cons_zero, List.getElem?_cons_succ, Bool.not_eq_true', bne_false', if_true, if_false, Bool.false_eq_true, cvI_i, Nat.zero_add, Nat.add_zero, nr, gdP_u, gdE_u, Int.reduceEq, Int.reduceLT, Int.reduceLE, Int.natCast_one, Int.natCast_zero, Int.cast_ofNat_Int, decide_false, decide_true, beq_self_eq_true, Bool.true_beq, Bool.false_beq, Bool.not_true, Bool.not_false, Bool.true_eq_false, Bool.false_eq_true, ne_eq, not_true_eq_false, not_false_eq_true, eq_self]
  simp only [intK_i, io_lss, io_leq, io_gtr, io_geq, io_eql, io_neq, Option.bind_some, gdP_b, gdE_b, pkK_b, cndV_b, decide_eq_true_eq, decide_eq_false_iff_not, lenS_s, lenL_l, bindVH_s, exK_t, nilV_p, faK_p, refK_s, eqPtr_nn, eqPtr_sn, List.getElem?_cons_zero, List.getElem?_cons_succ, Bool.not_eq_true', bne_false', if_true, if_false, Bool.false_eq_true, cvI_i, Nat.zero_add, Nat.add_zero, e1, e5, e6, hb, binV_bool_n t_bool tbool, unK, dUn, gdP_u, gdE_u, Int.reduceEq, Int.reduceLT, Int.reduceLE, Int.natCast_one, Int.natCast_zero, Int.cast_ofNat_Int, decide_false, decide_true, beq_self_eq_true, Bool.true_beq, Bool.false_beq, Bool.not_true, Bool.not_false, Bool.true_eq_false, Bool.false_eq_true, ne_eq, not_true_eq_false, not_false_eq_true, eq_self]
  by_cases hc : hh ≤ 2 + r0
  · -- it is held
    have q4 : X.hold hh = { X with held := hh } := by
      unfold WalM.hold; rw [q1, decide_eq_true hc, if_pos rfl, hh0]
      simp
    rw [q4] at b4
    obtain ⟨_, h5, O5, e7⟩ := zeros_ok (T := V × Heap) O4 (k := .i64) (n := z) (by omega)
    have w2 : IntKind.i64.wrap (12 + (z : Int)) = 12 + (z : Int) := wrap_i64 (by omega) (by omega)
    have w3 : IntKind.i64.wrap (12 + (z : Int) + 64) = 12 + (z : Int) + 64 := wrap_i64 (by omega) (by omega)
    have w4 : IntKind.i64.wrap (12 + (z : Int) + 64 - 1) = 12 + (z : Int) + 64 - 1 := wrap_i64 (by omega) (by omega)
    have w5 : IntKind.i64.wrap ((12 + (z : Int) + 64 - 1).tdiv 64) = (sectorsN z : Nat) := by
      have : (12 + (z : Int) + 64 - 1).tdiv 64 = (sectorsN z : Nat) := by
        unfold sectorsN
        rw [Int.tdiv_eq_ediv_of_nonneg (by omega)]
        omega
      rw [this]
      exact wrap_i64 (by omega) (by unfold sectorsN; omega)
    simp only [hc, intK_i, io_lss, io_leq, io_gtr, io_geq, io_eql, io_neq, Option.bind_some, gdP_b, gdE_b, pkK_b, cndV_b, decide_eq_true_eq, decide_eq_false_iff_not, lenS_s, lenL_l, bindVH_s, exK_t, nilV_p, faK_p, refK_s, eqPtr_nn, eqPtr_sn, List.getElem?_cons_zero, List.getElem?_cons_succ, Bool.not_eq_true', bne_false', if_true, if_false, Bool.false_eq_true, cvI_i, Nat.zero_add, Nat.add_zero, gdP_u, gdE_u, Int.reduceEq, Int.reduceLT, Int.reduceLE, Int.natCast_one, Int.natCast_zero, Int.cast_ofNat_Int, decide_false, decide_true, beq_self_eq_true, Bool.true_beq, Bool.false_beq, Bool.not_true, Bool.not_false, Bool.true_eq_false, Bool.false_eq_true, ne_eq, not_true_eq_false, not_false_eq_true, eq_self, e2, e7, List.length_replicate, io_add, w2, w3, io_sub, w4, io_quo, show ¬ ((64 : Int) = 0) by decide, w5]
    generalize hF : updL _ _ _ = F
    obtain ⟨o, f1, h6, e8, _, rfl, ⟨s7, s10, s13, s15, s16⟩, many, X1, W1, s17, b5, O6, x1, x2, x3, x4, x5, x6⟩ := iterK_rule (fun n f h I K => holds_l1 (T := V × Heap) (lf := lf) (w := w) (R := A ++ []) (s := List.replicate z 0) (kk := 2 + r0) (hh := hh) (each := sectorsN z) (k := k) hlf (by omega) (by omega) (by simp; omega) (by simp) n f h I K) lf 20 F h5
      (fun o f h => blkK 0 o (furlonglaw10_WalHolds_j1 lf (run ee lf k) f (f 7) (f 10) (f 13) (f 16) (f 17) h) (seqK o (furlonglaw10_WalHolds_j1 lf (run ee lf k) f (f 7) (f 10) (f 13) (f 16) (f 17) h) (kRet ee [.tmp 6] o f h))) (by omega)
      ⟨⟨by rw [← hF]; rfl, by rw [← hF]; rfl, by rw [← hF]; rfl, by rw [← hF]; rfl, by rw [← hF]; rfl⟩, 0, { X with held := hh }, W4, rfl, by rw [← hF]; rfl, by rw [← hF]; rfl, b4, O5, hn, rfl, by rw [Nat.zero_mul]; exact hp, hx, by omega⟩
    rw [e8, blkK_e, if_pos rfl, s7, s10, s13, s16, s17]
    unfold furlonglaw10_WalHolds_j1
    have he1 := sectorsN_pos z
    have hdiv : (2 + r0 - hh) / sectorsN z = many := by
      refine Nat.div_eq_of_lt_le ?_ ?_
      · omega
      · rw [Nat.succ_mul]; omega
    have hmm : many ≤ many * sectorsN z := Nat.le_mul_of_pos_right _ he1
    have hsz : sectorsN z ≤ 3 := by unfold sectorsN; omega
    have v1 : IntKind.i64.wrap (((2 + r0 : Nat) : Int) - (hh : Nat)) = ((2 + r0 - hh : Nat) : Int) := by rw [wrap_i64 (by omega) (by omega)]; omega
    have v2 : IntKind.i64.wrap (((2 + r0 - hh : Nat) : Int).tdiv (sectorsN z : Nat)) = (many : Nat) := by
      rw [Int.tdiv_eq_ediv_of_nonneg (by omega), ← Int.natCast_ediv, hdiv]
      exact wrap_i64 (by omega) (by omega)
    have v3 : IntKind.i64.wrap ((many : Nat) * (sectorsN z : Nat) : Int) = ((many * sectorsN z : Nat) : Int) := by
      rw [← Int.natCast_mul]
      exact wrap_i64 (by omega) (by omega)
    have v4 : IntKind.i64.wrap (((2 + r0 - hh : Nat) : Int) - ((many * sectorsN z : Nat) : Int)) = ((2 + r0 - hh - many * sectorsN z : Nat) : Int) := by rw [wrap_i64 (by omega) (by omega)]; omega
    have e9 := wRoom (lf := lf) b5 O6 k (by omega)
    have hroom : X1.room = 2 + r0 - hh - many * sectorsN z := by unfold WalM.room; rw [x1, x2, x3]; omega
    rw [hroom] at e9
    simp only [intK_i, io_lss, io_leq, io_gtr, io_geq, io_eql, io_neq, Option.bind_some, gdP_b, gdE_b, pkK_b, cndV_b, decide_eq_true_eq, decide_eq_false_iff_not, lenS_s, lenL_l, bindVH_s, exK_t, nilV_p, faK_p, refK_s, eqPtr_nn, eqPtr_sn, List.getElem?_cons_zero, List.getElem?_cons_succ, Bool.not_eq_true', bne_false', if_true, if_false, Bool.false_eq_true, cvI_i, Nat.zero_add, Nat.add_zero, gdP_u, gdE_u, Int.reduceEq, Int.reduceLT, Int.reduceLE, Int.natCast_one, Int.natCast_zero, Int.cast_ofNat_Int, decide_false, decide_true, beq_self_eq_true, Bool.true_beq, Bool.false_beq, Bool.not_true, Bool.not_false, Bool.true_eq_false, Bool.false_eq_true, ne_eq, not_true_eq_false, not_false_eq_true, eq_self, io_sub, v1, io_quo, show ¬ (((sectorsN z : Nat) : Int) = 0) by omega, v2, io_mul, v3, v4, e9]
    generalize hG : updL _ _ _ = G
    obtain ⟨o, f2, h7, e10, _, rfl, t10, t13, t17, X2, W2, b6, O7, y1, y2⟩ := iterK_rule (fun n f h I K => holds_l2 (T := V × Heap) (lf := lf) (w := w) (R := A ++ []) (kk := 2 + r0) (hh := hh) (many := many) (k := k) hlf (by omega) (by omega) n f h I K) lf hh G h6
      (fun o f h => blkK 2 o (furlonglaw10_WalHolds_j2 lf (run ee lf k) f (f 10) (f 13) (f 17) h) (seqK o (furlonglaw10_WalHolds_j2 lf (run ee lf k) f (f 10) (f 13) (f 17) h) (kRet ee [.tmp 6] o f h))) (by omega)
      ⟨by rw [← hG]; exact s10, by rw [← hG]; exact s13, by rw [← hG]; exact s17, 0, X1, W1, rfl, by rw [← hG]; rfl, b5, O6, x2, x4⟩
    rw [e10, blkK_e, if_pos rfl, t10, t13, t17]
    unfold furlonglaw10_WalHolds_j2
    obtain ⟨v, h8, W8, e11, O8, rfl, b8⟩ := wUse hlf b6 [100] (by decide) k _ h7 (by omega) O7
    have hu : X2.useB [100] = false := by unfold WalM.useB; simp [y1]
    have hX : X2.use [100] = X2 := by unfold WalM.use; rw [hu]; rfl
    rw [hu] at e11
    rw [hX] at b8
    have e12 := wNext (lf := lf) b8 O8 k (by omega)
    rw [y2] at e12
    have v5 : IntKind.i64.wrap ((many : Nat) + (hh : Nat) : Int) = ((many + hh : Nat) : Int) := by
      rw [← Int.natCast_add]
      exact wrap_i64 (by omega) (by omega)
    simp only [intK_i, io_lss, io_leq, io_gtr, io_geq, io_eql, io_neq, Option.bind_some, gdP_b, gdE_b, pkK_b, cndV_b, decide_eq_true_eq, decide_eq_false_iff_not, lenS_s, lenL_l, bindVH_s, exK_t, nilV_p, faK_p, refK_s, eqPtr_nn, eqPtr_sn, List.getElem?_cons_zero, List.getElem?_cons_succ, Bool.not_eq_true', bne_false', if_true, if_false, Bool.false_eq_true, cvI_i, Nat.zero_add, Nat.add_zero, gdP_u, gdE_u, Int.reduceEq, Int.reduceLT, Int.reduceLE, Int.natCast_one, Int.natCast_zero, Int.cast_ofNat_Int, decide_false, decide_true, beq_self_eq_true, Bool.true_beq, Bool.false_beq, Bool.not_true, Bool.not_false, Bool.true_eq_false, Bool.false_eq_true, ne_eq, not_true_eq_false, not_false_eq_true, eq_self, e11, num_run (lf := lf) (show 1 ≤ k by omega), e12, io_add, v5]
    exact ⟨_, rfl⟩
  · -- it is not held
    have q4 : X.hold hh = X := by unfold WalM.hold; rw [q1, decide_eq_false hc]; rfl
    rw [q4] at b4
    have e7 := wRoom (lf := lf) b4 O4 k (by omega)
    have hroom : X.room = 2 + r0 := by unfold WalM.room; rw [hn, hp, hh0]; omega
    rw [hroom] at e7
    simp only [hc, intK_i, io_lss, io_leq, io_gtr, io_geq, io_eql, io_neq, Option.bind_some, gdP_b, gdE_b, pkK_b, cndV_b, decide_eq_true_eq, decide_eq_false_iff_not, lenS_s, lenL_l, bindVH_s, exK_t, nilV_p, faK_p, refK_s, eqPtr_nn, eqPtr_sn, List.getElem?_cons_zero, List.getElem?_cons_succ, Bool.not_eq_true', bne_false', if_true, if_false, Bool.false_eq_true, cvI_i, Nat.zero_add, Nat.add_zero, gdP_u, gdE_u, Int.reduceEq, Int.reduceLT, Int.reduceLE, Int.natCast_one, Int.natCast_zero, Int.cast_ofNat_Int, decide_false, decide_true, beq_self_eq_true, Bool.true_beq, Bool.false_beq, Bool.not_true, Bool.not_false, Bool.true_eq_false, Bool.false_eq_true, ne_eq, not_true_eq_false, not_false_eq_true, eq_self, e7]
    exact ⟨_, rfl⟩
end
end Go.Zs
