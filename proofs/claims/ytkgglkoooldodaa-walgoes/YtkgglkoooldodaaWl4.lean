/- frame: numbers as bytes, frames. -/
import Derived.Test.YtkgglkoooldodaaFnW
import Derived.Test.YtkgglkoooldodaaZsI6
set_option linter.unusedVariables false
set_option linter.unusedSimpArgs false
set_option linter.deprecated false
namespace Go.Zs
open Go

/-- What a function comes to, however deep the calls may go (from a depth on). -/
def Comes (lf : Nat) (f : FuncId) (d : Nat) (args : List V) (h : Heap) (r : V × Heap) : Prop := ∀ k, run ee lf (k + d) false f args h = some r
theorem crc_Sum_ok {lf : Nat} (s : List UInt8) (hs : s.length < 1000000) (h : Heap) : Comes lf n_crc_Sum 1 [.str s] h (.int .i64 (crcSum s), h) := fun k => crcSum_run hs h

def numB : Nat → Nat → List UInt8
  | 0, _ => []
  | n + 1, x => UInt8.ofNat (x / 256 ^ n) :: numB n x
theorem numB_length : ∀ n x, (numB n x).length = n
  | 0, _ => rfl
  | n + 1, x => by simp [numB, numB_length n x]

theorem wrap_u8 (x : Nat) : IntKind.u8.wrap (x : Int) = ((UInt8.ofNat x).toNat : Nat) := by
  unfold IntKind.wrap
  simp [IntKind.bits, IntKind.signed]

section
variable {R : Type} (lf : Nat) (call : CallF) (K : Out → Fs → Heap → Option R)

theorem num_l1 (id size x : Nat) (hsz : size ≤ 8) : ∀ (n i : Nat) (a : List UInt8) (f : Fs) (h : Heap), i + n = size → a.length = i → h.get id = some (.cells (bytesV a ++ List.replicate n (.int .u8 0)) .own) →
    f 0 = .int .i64 x → f 1 = .int .i64 size → f 5 = .sl (some (id, 0)) size size 1 true → f 10 = .int .i64 size → f 11 = .int .i64 i → ∀ k, n < k →
    ∃ f' h', iterK true (frame_Num_l1 lf call) K k f h = K (.exit 0) f' h' ∧ f' 5 = f 5 ∧ h'.next = h.next ∧ h'.get id = some (.cells (bytesV (a ++ numB n x)) .own) ∧ ∀ j, j ≠ id → h'.get j = h.get j
  | n, i, a, f, h, hi, ha, hg, h0, h1, h5, h10, h11, 0, hk => by omega
  | 0, i, a, f, h, hi, ha, hg, h0, h1, h5, h10, h11, k + 1, hk => by
    rw [iterK_succ, frame_Num_l1, h11, h10]
    simp only [intK_i, io_lss, Option.bind_some, cndV_b, decide_eq_true_eq, if_neg (show ¬ (i : Int) < size by omega), seqK_e]
    exact ⟨_, h, rfl, rfl, rfl, by rw [hg]; simp [numB], fun _ _ => rfl⟩
  | n + 1, i, a, f, h, hi, ha, hg, h0, h1, h5, h10, h11, k + 1, hk => by
    rw [iterK_succ, frame_Num_l1, h11, h10, h1, h0, h5]
    have e1 : intOp .sub .i64 (size : Int) .i64 (1 : Int) = some (.int .i64 ((size - 1 : Nat) : Int)) := by
      rw [io_sub, wrap_i64 (by omega) (by omega)]; congr 2; omega
    have e2 : intOp .sub .i64 ((size - 1 : Nat) : Int) .i64 (i : Int) = some (.int .i64 (n : Int)) := by
      rw [io_sub, wrap_i64 (by omega) (by omega)]; congr 2; omega
    have e3 : intOp .mul .i64 (8 : Int) .i64 (n : Int) = some (.int .i64 ((8 * n : Nat) : Int)) := by
      rw [io_mul, wrap_i64 (by omega) (by omega)]; rfl
    have e4 : intOp .shr .i64 (x : Int) .i64 ((8 * n : Nat) : Int) = some (.int .i64 (x / 256 ^ n : Nat)) := by
      rw [io_shr .i64 .i64 x (8 * n) (by show 8 * n ≤ 64; omega), show (2 : Nat) ^ (8 * n) = 256 ^ n by rw [Nat.pow_mul]]
    simp only [intK_i, io_lss, Option.bind_some, cndV_b, decide_eq_true_eq, if_pos (show (i : Int) < size by omega), e1, e2, e3, e4, cvI_i, wrap_u8, iaS_i, intIn_nat, if_pos (show i < size by omega), Nat.mul_one, Nat.zero_add]
    rw [st1_c hg rfl (by simp [bytesV]; omega) rfl, add1 i (by omega)]
    simp only [Option.bind_some, seqK_n]
    generalize hF : updL _ _ _ = F
    have hset : (bytesV a ++ List.replicate (n + 1) (V.int .u8 0)).set i (.int .u8 ((UInt8.ofNat (x / 256 ^ n)).toNat : Nat)) = bytesV (a ++ [UInt8.ofNat (x / 256 ^ n)]) ++ List.replicate n (.int .u8 0) := by
      rw [List.set_append_right _ _ (by simp [bytesV, ha]), List.replicate_succ]
      simp [bytesV, ha]
    rw [hset]
    obtain ⟨f', h', g1, g2, g3, g4, g5⟩ := num_l1 id size x hsz n (i + 1) (a ++ [UInt8.ofNat (x / 256 ^ n)]) F (h.set id (.cells (bytesV (a ++ [UInt8.ofNat (x / 256 ^ n)]) ++ List.replicate n (.int .u8 0)) .own)) (by omega) (by simp [ha]) (by rw [Heap.get_set, if_pos rfl])
      (by rw [← hF]; exact h0) (by rw [← hF]; exact h1) (by rw [← hF]; exact h5) (by rw [← hF]; exact h10) (by rw [← hF]; rfl) k (by omega)
    refine ⟨f', h', g1, by rw [g2, ← hF]; exact h5, g3, by rw [g4, List.append_assoc]; rfl, fun j hj => by rw [g5 j hj, Heap.get_set, if_neg hj]⟩
end

/-- What a function that keeps what was there comes to. -/
def Gives (lf : Nat) (f : FuncId) (d : Nat) (args : List V) (h : Heap) (v : V) : Prop := ∀ k, ∃ h', Gr h h' ∧ Hok h' ∧ run ee lf (k + d) false f args h = some (v, h')

theorem Gives.more {lf f d args h v} (g : Gives lf f d args h v) {d' : Nat} (hd : d ≤ d') : Gives lf f d' args h v := fun k => by
  have := g (k + (d' - d))
  rwa [show k + (d' - d) + d = k + d' by omega] at this
theorem Comes.more {lf f d args h r} (g : Comes lf f d args h r) {d' : Nat} (hd : d ≤ d') : Comes lf f d' args h r := fun k => by
  have := g (k + (d' - d))
  rwa [show k + (d' - d) + d = k + d' by omega] at this

theorem gives_of {lf f d k} {args : List V} {h : Heap} {v : V} {F : Option (V × Heap)} (hr : ∀ r, F = some r → run ee lf (k + d) false f args h = some r) (hF : ∃ h', Gr h h' ∧ Hok h' ∧ F = some (v, h')) : ∃ h', Gr h h' ∧ Hok h' ∧ run ee lf (k + d) false f args h = some (v, h') :=
  let ⟨h', a, b, c⟩ := hF
  ⟨h', a, b, hr _ c⟩

theorem frame_Num_ok {lf : Nat} (hlf : 1000000 ≤ lf) (x size : Nat) (hsz : size ≤ 8) (h : Heap) (H : Hok h) : Gives lf n_frame_Num 1 [.int .i64 x, .int .i64 size] h (.str (numB size x)) := by
  intro k
  refine gives_of (fun r => frame_Num_run) ?_
  unfold frame_Num
  rw [mkS_i 1 1 _ _ _ _ _ _ _ (Nat.le_refl _) (by omega) (by omega)]
  simp only [lenL_l]
  generalize hF : updL _ _ _ = F
  obtain ⟨f', h', g1, g2, g3, g4, g5⟩ := num_l1 lf (run ee lf k) (fun o f h => blkK 0 o (frame_Num_j1 lf (run ee lf k) f (f 5) h) (seqK o (frame_Num_j1 lf (run ee lf k) f (f 5) h) (kRet ee [.tmp 4] o f h))) h.next size x hsz size 0 [] F (h.new (.cells (copies [V.int .u8 0] size) .own)) (by omega) rfl
    (by rw [Heap.get_new_self, copies_one]; rfl) (by rw [← hF]; rfl) (by rw [← hF]; rfl) (by rw [← hF]; rfl) (by rw [← hF]; rfl) (by rw [← hF]; rfl) lf (by omega)
  rw [g1, blkK_e, if_pos rfl, g2, ← hF]
  refine ⟨h', ⟨by rw [g3]; exact Nat.le_succ _, fun i hi => ?_⟩, fun i hi => ?_, ?_⟩
  · rw [g5 i (by omega), Heap.get_new, if_neg (by omega)]
  · rw [g3] at hi
    have hi' : h.next + 1 ≤ i := hi
    rw [g5 i (by omega), Heap.get_new, if_neg (by omega)]
    exact H i (by omega)
  · show frame_Num_j1 lf (run ee lf k) f' (.sl (some (h.next, 0)) size size 1 true) h' = _
    unfold frame_Num_j1
    have hl : (bytesV (numB size x)).length = size := by simp [bytesV, numB_length]
    rw [cvBS_c (s := numB size x) g4 (fun _ => by simp only [List.nil_append]; omega) (fun _ => by
      simp only [List.nil_append, List.drop_zero]
      rw [List.take_of_length_le (by omega)]
      exact bytesOfVs_map _) (fun h0 => by subst h0; rfl)]
    rfl

/-- How many sectors a frame has. -/
def sectorsN (n : Nat) : Nat := (12 + n + 63) / 64
def sectorsI (n : Int) : Int := if n < 0 ∨ 8192 < n then 0 else (sectorsN n.toNat : Int)

theorem frame_Sectors_ok {lf : Nat} (n : Nat) (hn : n ≤ 8192) (h : Heap) : Comes lf n_frame_Sectors 1 [.int .i64 n] h (.int .i64 (sectorsN n), h) := by
  intro k
  refine frame_Sectors_run ?_
  unfold frame_Sectors
  simp only [intK_i, io_lss, io_gtr, Option.bind_some, gdP_b, pkK_b, cndV_b, decide_eq_true_eq, decide_eq_false_iff_not, if_neg (show ¬ (n : Int) < 0 by omega), if_pos (show ¬ (n : Int) < 0 by omega), if_neg (show ¬ (8192 : Int) < n by omega), io_add, io_sub, io_quo]
  have e : (12 + (n : Int) + 64 - 1).tdiv 64 = (sectorsN n : Nat) := by
    unfold sectorsN
    rw [Int.tdiv_eq_ediv_of_nonneg (by omega)]
    omega
  have hs : sectorsN n ≤ 8192 := by unfold sectorsN; omega
  simp (disch := omega) only [wrap_i64, e, Option.bind_some]
  rfl

def headB (lsn len : Nat) : List UInt8 := numB 4 lsn ++ numB 2 len
/-- A frame. -/
def putB (lsn : Nat) (data : List UInt8) : List UInt8 :=
  ([70, 82] ++ headB lsn data.length ++ numB 4 (crcSum (headB lsn data.length ++ data)) ++ data) ++ List.replicate (sectorsN data.length * 64 - (12 + data.length)) 0
theorem headB_length (lsn len : Nat) : (headB lsn len).length = 6 := by simp [headB, numB_length]
theorem putB_length (lsn : Nat) (data : List UInt8) : (putB lsn data).length = sectorsN data.length * 64 := by
  simp only [putB, List.length_append, headB_length, numB_length, List.length_replicate, List.length_cons, List.length_nil, sectorsN]
  omega

theorem Gives.of_comes {lf f d} {args : List V} {h : Heap} {v : V} (H : Hok h) (g : Comes lf f d args h (v, h)) : Gives lf f d args h v := fun k => ⟨h, Gr.refl h, H, g k⟩

theorem frame_Put_ok {lf : Nat} (hlf : 1000000 ≤ lf) (lsn : Nat) (hl : lsn ≤ 4294967295) (data : List UInt8) (hd : data.length ≤ 8192) (h : Heap) (H : Hok h) : Gives lf n_frame_Put 3 [.int .i64 lsn, .str data] h (.tup [.str (putB lsn data), .int .i64 0]) := by
  intro k
  refine gives_of (fun r => frame_Put_run (k := k + 2)) ?_
  unfold frame_Put
  obtain ⟨h1, G1, H1, e1⟩ := (frame_Num_ok hlf lsn 4 (by omega) h H).more (d' := 2) (by omega) k
  obtain ⟨h2, G2, H2, e2⟩ := (frame_Num_ok hlf data.length 2 (by omega) h1 H1).more (d' := 2) (by omega) k
  have hh : (numB 4 lsn ++ numB 2 data.length).length = 6 := headB_length lsn data.length
  have e3 := (crc_Sum_ok (lf := lf) (numB 4 lsn ++ numB 2 data.length ++ data) (by rw [List.length_append, hh]; omega) h2).more (d' := 2) (by omega) k
  obtain ⟨h4, G4, H4, e4⟩ := (frame_Num_ok hlf (crcSum (numB 4 lsn ++ numB 2 data.length ++ data)) 4 (by omega) h2 H2).more (d' := 2) (by omega) k
  have e5 := (frame_Sectors_ok (lf := lf) data.length hd h4).more (d' := 2) (by omega) k
  have e1' : run ee lf (k + 2) false n_frame_Num [V.int .i64 lsn, V.int .i64 4] h = _ := e1
  have e2' : run ee lf (k + 2) false n_frame_Num [V.int .i64 data.length, V.int .i64 2] h1 = _ := e2
  have e4' : run ee lf (k + 2) false n_frame_Num [V.int .i64 (crcSum (numB 4 lsn ++ numB 2 data.length ++ data)), V.int .i64 4] h2 = _ := e4
  have hp : ([70, 82] ++ (numB 4 lsn ++ numB 2 data.length) : List UInt8).length = 8 := by rw [List.length_append, hh]; rfl
  have hq : ([70, 82] ++ (numB 4 lsn ++ numB 2 data.length) ++ numB 4 (crcSum (numB 4 lsn ++ numB 2 data.length ++ data))).length = 12 := by rw [List.length_append, hp, numB_length]
  have hr : ([70, 82] ++ (numB 4 lsn ++ numB 2 data.length) ++ numB 4 (crcSum (numB 4 lsn ++ numB 2 data.length ++ data)) ++ data).length = 12 + data.length := by rw [List.length_append, hq]
  have hs : 12 + data.length ≤ sectorsN data.length * 64 ∧ sectorsN data.length * 64 ≤ 12 + data.length + 63 := by unfold sectorsN; omega
  simp only [intK_i, io_lss, io_gtr, Option.bind_some, gdP_b, pkK_b, cndV_b, lenS_s, decide_eq_true_eq, decide_eq_false_iff_not, if_neg (show ¬ (lsn : Int) < 0 by omega), if_pos (show ¬ (lsn : Int) < 0 by omega), if_neg (show ¬ (4294967295 : Int) < lsn by omega), if_pos (show ¬ (4294967295 : Int) < lsn by omega),
    if_neg (show ¬ (8192 : Int) < data.length by omega), e1', e2', bindVH_s]
  rw [strK_add (by rw [numB_length, numB_length]; omega), strK_add (by rw [hh]; decide), strK_add (by rw [hh]; omega)]
  simp only [e3, bindVH_s, e4']
  rw [strK_add (by rw [hp, numB_length]; omega), strK_add (by rw [hq]; omega)]
  simp only [Option.bind_some, e5, bindVH_s, intK_i, io_mul, hr, io_sub, lenS_s]
  rw [wrap_i64 (x := (sectorsN data.length : Int) * 64) (by omega) (by omega), wrap_i64 (by omega) (by omega)]
  have e6 : ((sectorsN data.length : Nat) : Int) * 64 - ((12 + data.length : Nat) : Int) = ((sectorsN data.length * 64 - (12 + data.length) : Nat) : Int) := by omega
  rw [e6, mkS_i 1 1 _ _ _ _ _ _ _ (Nat.le_refl _) (by omega) (by omega)]
  have hz : (copies [V.int .u8 0] (sectorsN data.length * 64 - (12 + data.length))) = bytesV (List.replicate (sectorsN data.length * 64 - (12 + data.length)) 0) := by rw [copies_one, bytesV_zeros]
  rw [cvBS_c (s := List.replicate (sectorsN data.length * 64 - (12 + data.length)) 0) (Heap.get_new_self _ _) (fun _ => by rw [hz, bytesV_length]; simp) (fun _ => by
    rw [hz, List.drop_zero, List.take_of_length_le (by rw [bytesV_length]; simp)]
    exact bytesOfVs_map _) (fun h0 => by rw [h0]; rfl)]
  rw [strK_add (by rw [hr]; simp; omega)]
  exact ⟨_, (G1.trans (G2.trans G4)).trans (Gr.new _ _), H4.new _, rfl⟩

theorem frame_Sectors_big {lf : Nat} (n : Nat) (hn : 8192 < n) (hn' : n < 9223372036854775808) (h : Heap) : Comes lf n_frame_Sectors 1 [.int .i64 n] h (.int .i64 (0 : Nat), h) := by
  intro k
  refine frame_Sectors_run ?_
  unfold frame_Sectors
  simp only [intK_i, io_lss, io_gtr, Option.bind_some, gdP_b, pkK_b, cndV_b, decide_eq_true_eq, decide_eq_false_iff_not, if_neg (show ¬ (n : Int) < 0 by omega), if_pos (show ¬ (n : Int) < 0 by omega), if_pos (show (8192 : Int) < n by omega)]
  rfl

/-- What a frame's head tells of its size. -/
def sizeH (s : List UInt8) : Nat := ((s.getD 6 0).toNat * 256) ||| (s.getD 7 0).toNat
def manyB (s : List UInt8) : Nat := if 8192 < sizeH s then 0 else sectorsN (sizeH s) * 64
def getB (s : List UInt8) (lsn : Nat) : Option (List UInt8) :=
  if s.length < 12 then none else if manyB s = 0 ∨ s.length < manyB s then none else
  if putB lsn ((s.drop 12).take (sizeH s)) = s.take (manyB s) then some ((s.drop 12).take (sizeH s)) else none
def getV (s : List UInt8) (lsn : Nat) : V := match getB s lsn with
  | some d => .tup [.str d, .int .i64 (sectorsN d.length * 64 : Nat), .bool true]
  | none => .tup [.str [], .int .i64 0, .bool false]

theorem frame_Get_ok {lf : Nat} (hlf : 1000000 ≤ lf) (s : List UInt8) (hs : s.length < 9223372036854775808) (lsn : Nat) (hl : lsn ≤ 4294967295) (h : Heap) (H : Hok h) : Gives lf n_frame_Get 4 [.str s, .int .i64 lsn] h (getV s lsn) := by
  intro k
  refine gives_of (fun r => frame_Get_run (k := k + 3)) ?_
  unfold frame_Get
  simp only [lenS_s, intK_i, io_lss, Option.bind_some, cndV_b, decide_eq_true_eq]
  by_cases h12 : s.length < 12
  · rw [if_pos (by omega)]
    refine ⟨h, Gr.refl h, H, ?_⟩
    unfold getV getB
    rw [if_pos h12]; rfl
  · rw [if_neg (by omega)]
    have g6 : s[6]? = some (s.getD 6 0) := by rw [List.getD_eq_getElem?_getD, List.getElem?_eq_getElem (by omega)]; rfl
    have g7 : s[7]? = some (s.getD 7 0) := by rw [List.getD_eq_getElem?_getD, List.getElem?_eq_getElem (by omega)]; rfl
    have b6 := byte_lt (s.getD 6 0)
    have b7 := byte_lt (s.getD 7 0)
    have i6 : intIn (6 : Int) s.length = some 6 := by have := intIn_nat 6 s.length; rw [if_pos (by omega)] at this; exact this
    have i7 : intIn (7 : Int) s.length = some 7 := by have := intIn_nat 7 s.length; rw [if_pos (by omega)] at this; exact this
    have e67 : intOp .add .i64 (6 : Int) .i64 (1 : Int) = some (.int .i64 7) := rfl
    have esh : intOp .shl .i64 ((s.getD 6 0).toNat : Int) .u64 (8 : Int) = some (.int .i64 (((s.getD 6 0).toNat * 256 : Nat) : Int)) := by
      have := io_shl .i64 .u64 (s.getD 6 0).toNat 8 (by decide)
      rw [wrap_i64 (by omega) (by omega)] at this
      exact this
    have eor : intOp .or .i64 (((s.getD 6 0).toNat * 256 : Nat) : Int) .i64 ((s.getD 7 0).toNat : Int) = some (.int .i64 (sizeH s)) := io_or .i64 _ _ (by show _ < 9223372036854775808; omega) (by show _ < 9223372036854775808; omega)
    have hsz : sizeH s < 65536 := Nat.or_lt_two_pow (n := 16) (by omega) (by omega)
    simp (disch := omega) only [ixS_i, i6, i7, g6, g7, Option.bind_some, cvI_i, wrap_i64, intK_i, esh, e67, eor]
    have eS : run ee lf (k + 3) false n_frame_Sectors [V.int .i64 (sizeH s)] h = some (.int .i64 ((if 8192 < sizeH s then 0 else sectorsN (sizeH s) : Nat) : Int), h) := by
      by_cases hb : 8192 < sizeH s
      · rw [if_pos hb]; exact (frame_Sectors_big (sizeH s) hb (by omega) h).more (d' := 3) (by omega) k
      · rw [if_neg hb]; exact (frame_Sectors_ok (sizeH s) (by omega) h).more (d' := 3) (by omega) k
    have hm : ((if 8192 < sizeH s then 0 else sectorsN (sizeH s) : Nat) : Int) * 64 = (manyB s : Nat) := by
      unfold manyB
      split <;> simp
    have hmb : manyB s ≤ 8192 + 75 := by
      unfold manyB
      split
      · omega
      · unfold sectorsN; omega
    rw [eS]
    simp only [intK_i, io_lss, io_leq, io_gtr, io_geq, io_eql, io_neq, obind_s, gdP_b, gdE_b, pkK_b, cndV_b, decide_eq_true_eq, decide_eq_false_iff_not, lenS_s, lenL_l, bindVH_s, exK_t, nilV_p, faK_p, refK_s, eqPtr_nn, eqPtr_sn, List.getElem?_cons_zero, List.getElem?_cons_succ, Bool.not_eq_true', bne_false', if_true, if_false, Bool.false_eq_true, cvI_i, Nat.zero_add, Nat.add_zero, io_mul, hm]
    rw [wrap_i64 (by omega) (by omega)]
    by_cases h0 : manyB s = 0
    · have h0' : ((manyB s : Nat) : Int) = 0 := by omega
      simp only [h0', not_true, if_true, if_false]
      refine ⟨h, Gr.refl h, H, ?_⟩
      unfold getV getB
      rw [if_neg h12, if_pos (.inl h0)]; rfl
    · have h0' : ¬ ((manyB s : Nat) : Int) = 0 := by omega
      simp only [h0', not_false_eq_true, if_true, if_false, Option.bind_some, lenS_s, io_gtr, intK_i, cndV_b, decide_eq_true_eq]
      by_cases hlen : s.length < manyB s
      · rw [if_pos (by omega)]
        refine ⟨h, Gr.refl h, H, ?_⟩
        unfold getV getB
        rw [if_neg h12, if_pos (.inr hlen)]; rfl
      · rw [if_neg (by omega)]
        have hle : sizeH s ≤ 8192 := by
          rcases Nat.lt_or_ge 8192 (sizeH s) with hx | hx
          · exfalso; apply h0; unfold manyB; rw [if_pos hx]
          · exact hx
        have hmm : manyB s = sectorsN (sizeH s) * 64 := by unfold manyB; rw [if_neg (by omega)]
        have hfit : 12 + sizeH s ≤ s.length := by
          have : 12 + sizeH s ≤ sectorsN (sizeH s) * 64 := by unfold sectorsN; omega
          omega
        rw [io_add, wrap_i64 (x := 12 + (sizeH s : Int)) (by omega) (by omega)]
        simp only [Option.bind_some]
        have e12 : (12 : Int) + (sizeH s : Nat) = ((12 + sizeH s : Nat) : Int) := rfl
        rw [e12, show (V.int .i64 12) = .int .i64 ((12 : Nat) : Int) from rfl, slS_ss (by omega) hfit]
        have hdl : ((s.drop 12).take (12 + sizeH s - 12)).length = sizeH s := by simp; omega
        obtain ⟨h1, G1, H1, e1⟩ := (frame_Put_ok hlf lsn hl ((s.drop 12).take (12 + sizeH s - 12)) (by omega) h H) k
        rw [e1]
        have htk : (12 + sizeH s - 12) = sizeH s := by omega
        simp only [bindVH_s, exK_t, List.getElem?_cons_zero, List.getElem?_cons_succ, Option.bind_some, intK_i, io_neq, ne_eq, not_true, decide_false, gdP_b, if_true, slS_ns (Nat.le_of_not_lt hlen), strK_s, dStr_neq, pkK_b, Bool.false_eq_true, if_false, cndV_b, Bool.not_eq_true', decide_eq_false_iff_not]
        rw [htk]
        by_cases hq : putB lsn ((s.drop 12).take (sizeH s)) = s.take (manyB s)
        · rw [if_neg (by simp [hq])]
          refine ⟨h1, G1, H1, ?_⟩
          unfold getV getB
          rw [if_neg h12, if_neg (by omega), if_pos hq]
          rw [htk] at hdl
          show some (V.tup [_, _, _], h1) = some (V.tup [_, _, _], h1)
          rw [hdl, ← hmm]
        · rw [if_pos (by simp [hq])]
          refine ⟨h1, G1, H1, ?_⟩
          unfold getV getB
          rw [if_neg h12, if_neg (by omega), if_neg hq]; rfl
end Go.Zs
/- disk: what a disk holds, what its functions come to. -/
namespace Go.Zs
open Go Go.Proofs

/-- A disk: what is synced; what is not, by its place. -/
structure DiskM where
  synced : List (List UInt8)
  fresh : List (Nat × List UInt8)
def DiskM.n (D : DiskM) : Nat := D.synced.length
def DiskM.at (D : DiskM) (i : Nat) : List UInt8 := (D.fresh.lookup i).getD (D.synced.getD i [])

/-- A disk in memory: the struct, the synced sectors, the map of the others. -/
structure DiskAt (h : Heap) (d sy m : Nat) (D : DiskM) : Prop where
  od : h.get d = some (.cells [.sl (some (sy, 0)) D.n D.n 1 true, .map (some m), .int .i64 D.fresh.length] .own)
  os : h.get sy = some (.cells (D.synced.map .str) .own)
  om : ∃ bs cl, h.get m = some (.map (encM .str D.fresh) bs cl) ∧ bs.length = D.fresh.length ∧ (∀ b, b ∈ bs → b < cl) ∧ bs.Nodup
  nd : (D.fresh.map (·.1)).Nodup
  lt : ∀ p, p ∈ D.fresh.map (·.1) → p < D.n
  ne : d ≠ sy ∧ d ≠ m ∧ sy ≠ m
  le : D.n ≤ 1024
  s64 : ∀ s, s ∈ D.synced → s.length = 64
  f64 : ∀ p, p ∈ D.fresh → p.2.length = 64

theorem tmap : ee.P.underlying t_map_int_string = some (.map 3 9) := by kernel_rfl
theorem tint : ee.P.underlying 3 = some (.int .i64) := by kernel_rfl
theorem zstr : zeroB ee 9 = some (.str []) := by kernel_rfl

section
variable {h : Heap} {d sy m : Nat} {D : DiskM} {R : Type}

theorem DiskAt.keep (H : DiskAt h d sy m D) {h' : Heap} (e1 : h'.get d = h.get d) (e2 : h'.get sy = h.get sy) (e3 : h'.get m = h.get m) : DiskAt h' d sy m D :=
  ⟨e1.trans H.od, e2.trans H.os, let ⟨bs, cl, a, b⟩ := H.om; ⟨bs, cl, e3.trans a, b⟩, H.nd, H.lt, H.ne, H.le, H.s64, H.f64⟩

theorem DiskAt.gr (H : DiskAt h d sy m D) (Hk : Hok h) {h' : Heap} (g : Gr h h') : DiskAt h' d sy m D := by
  obtain ⟨bs, cl, a, _⟩ := H.om
  exact H.keep (g.get _ (Hk.lt H.od)) (g.get _ (Hk.lt H.os)) (g.get _ (Hk.lt a))

theorem DiskAt.l0 (H : DiskAt h d sy m D) (K : V → Option R) : ld1 (.ptr (some (d, 0))) h K = K (.sl (some (sy, 0)) D.n D.n 1 true) := by rw [ld1_c H.od]; rfl
theorem DiskAt.l1 (H : DiskAt h d sy m D) (K : V → Option R) : ld1 (.ptr (some (d, 1))) h K = K (.map (some m)) := by rw [ld1_c H.od]; rfl
theorem DiskAt.l2 (H : DiskAt h d sy m D) (K : V → Option R) : ld1 (.ptr (some (d, 2))) h K = K (.int .i64 D.fresh.length) := by rw [ld1_c H.od]; rfl
theorem DiskAt.ls (H : DiskAt h d sy m D) {i : Nat} (hi : i < D.n) (K : V → Option R) : ld1 (.ptr (some (sy, i))) h K = K (.str (D.synced.getD i [])) := by
  rw [ld1_c H.os]
  have : i < D.synced.length := hi
  simp [List.getD_eq_getElem?_getD, List.getElem?_eq_getElem this]
theorem DiskAt.lm (H : DiskAt h d sy m D) (n : Nat) (ok : Bool) : dLookup ee t_map_int_string (.map (some m)) (.int .i64 n) ok h = some (match D.fresh.lookup n with
      | some v => bif ok then .tup [.str v, .bool true] else .str v
      | none => bif ok then .tup [.str [], .bool false] else .str []) := by
  obtain ⟨bs, cl, a, _⟩ := H.om
  rw [lookup_int .str tmap tint zstr a n ok]
  cases D.fresh.lookup n <;> rfl

theorem DiskM.at_length (H : DiskAt h d sy m D) {i : Nat} (hi : i < D.n) : (D.at i).length = 64 := by
  unfold DiskM.at
  cases hl : D.fresh.lookup i with
  | some s =>
    have : (i, s) ∈ D.fresh := by
      clear H hi
      revert hl
      generalize D.fresh = es
      induction es with
      | nil => intro h; cases h
      | cons p es ih =>
        obtain ⟨a, b⟩ := p
        intro h
        rw [List.lookup_cons] at h
        split at h
        · rename_i he
          cases h
          have : i = a := by simpa using he
          subst this
          exact List.mem_cons_self ..
        · exact List.mem_cons_of_mem _ (ih h)
    exact H.f64 _ this
  | none =>
    have : i < D.synced.length := hi
    simp only [Option.getD_none, List.getD_eq_getElem?_getD, List.getElem?_eq_getElem this, Option.getD_some]
    exact H.s64 _ (List.getElem_mem this)

def DiskM.readV (D : DiskM) (n : Int) : V := if n < 0 ∨ (D.n : Int) ≤ n then .tup [.str [], .int .i64 800] else .tup [.str (D.at n.toNat), .int .i64 0]

theorem disk_Sectors_ok {lf : Nat} (H : DiskAt h d sy m D) : Comes lf n_disk_Disk_Sectors 1 [.ptr (some (d, 0))] h (.int .i64 D.n, h) := by
  intro k
  refine disk_Disk_Sectors_run ?_
  unfold disk_Disk_Sectors
  simp only [intK_i, io_lss, io_leq, io_gtr, io_geq, io_eql, io_neq, obind_s, gdP_b, gdE_b, pkK_b, cndV_b, decide_eq_true_eq, decide_eq_false_iff_not, lenS_s, lenL_l, bindVH_s, exK_t, nilV_p, faK_p, refK_s, eqPtr_nn, eqPtr_sn, List.getElem?_cons_zero, List.getElem?_cons_succ, Bool.not_eq_true', bne_false', if_true, if_false, Bool.false_eq_true, cvI_i, Nat.zero_add, Nat.add_zero, H.l0]
  rfl

theorem disk_Read_ok {lf : Nat} (H : DiskAt h d sy m D) (n : Int) : Comes lf n_disk_Disk_Read 1 [.ptr (some (d, 0)), .int .i64 n] h (D.readV n, h) := by
  intro k
  refine disk_Disk_Read_run ?_
  unfold disk_Disk_Read DiskM.readV
  simp only [intK_i, io_lss, io_leq, io_gtr, io_geq, io_eql, io_neq, obind_s, gdP_b, gdE_b, pkK_b, cndV_b, decide_eq_true_eq, decide_eq_false_iff_not, lenS_s, lenL_l, bindVH_s, exK_t, nilV_p, faK_p, refK_s, eqPtr_nn, eqPtr_sn, List.getElem?_cons_zero, List.getElem?_cons_succ, Bool.not_eq_true', bne_false', if_true, if_false, Bool.false_eq_true, cvI_i, Nat.zero_add, Nat.add_zero, H.l0, H.l1]
  by_cases h0 : n < 0
  · simp only [intK_i, io_lss, io_leq, io_gtr, io_geq, io_eql, io_neq, obind_s, gdP_b, gdE_b, pkK_b, cndV_b, decide_eq_true_eq, decide_eq_false_iff_not, lenS_s, lenL_l, bindVH_s, exK_t, nilV_p, faK_p, refK_s, eqPtr_nn, eqPtr_sn, List.getElem?_cons_zero, List.getElem?_cons_succ, Bool.not_eq_true', bne_false', if_true, if_false, Bool.false_eq_true, cvI_i, Nat.zero_add, Nat.add_zero, h0, true_or, decide_true]
    rfl
  · simp only [intK_i, io_lss, io_leq, io_gtr, io_geq, io_eql, io_neq, obind_s, gdP_b, gdE_b, pkK_b, cndV_b, decide_eq_true_eq, decide_eq_false_iff_not, lenS_s, lenL_l, bindVH_s, exK_t, nilV_p, faK_p, refK_s, eqPtr_nn, eqPtr_sn, List.getElem?_cons_zero, List.getElem?_cons_succ, Bool.not_eq_true', bne_false', if_true, if_false, Bool.false_eq_true, cvI_i, Nat.zero_add, Nat.add_zero, h0, false_or, decide_false, not_false_eq_true]
    by_cases h1 : (D.n : Int) ≤ n
    · simp only [h1, if_true]; rfl
    · simp only [h1, if_false]
      obtain ⟨i, rfl⟩ : ∃ i : Nat, n = i := ⟨n.toNat, by omega⟩
      have hi : i < D.n := by omega
      rw [H.lm]
      unfold DiskM.at
      rw [Int.toNat_natCast]
      cases D.fresh.lookup i with
      | some v => simp only [intK_i, io_lss, io_leq, io_gtr, io_geq, io_eql, io_neq, obind_s, gdP_b, gdE_b, pkK_b, cndV_b, decide_eq_true_eq, decide_eq_false_iff_not, lenS_s, lenL_l, bindVH_s, exK_t, nilV_p, faK_p, refK_s, eqPtr_nn, eqPtr_sn, List.getElem?_cons_zero, List.getElem?_cons_succ, Bool.not_eq_true', bne_false', if_true, if_false, Bool.false_eq_true, cvI_i, Nat.zero_add, Nat.add_zero, cond_true]; rfl
      | none => simp only [intK_i, io_lss, io_leq, io_gtr, io_geq, io_eql, io_neq, obind_s, gdP_b, gdE_b, pkK_b, cndV_b, decide_eq_true_eq, decide_eq_false_iff_not, lenS_s, lenL_l, bindVH_s, exK_t, nilV_p, faK_p, refK_s, eqPtr_nn, eqPtr_sn, List.getElem?_cons_zero, List.getElem?_cons_succ, Bool.not_eq_true', bne_false', if_true, if_false, Bool.false_eq_true, cvI_i, Nat.zero_add, Nat.add_zero, cond_true, iaS_i, intIn_nat, if_pos hi, Nat.mul_one, H.ls hi]; rfl

/-- Of what was there all but some objects is there as it was. -/
structure Tch (S : List Nat) (h h' : Heap) : Prop where
  next : h.next ≤ h'.next
  get : ∀ j, j < h.next → j ∉ S → h'.get j = h.get j
theorem Gr.tch {h h' : Heap} (g : Gr h h') (S : List Nat) : Tch S h h' := ⟨g.next, fun j hj _ => g.get j hj⟩
theorem Tch.refl (S : List Nat) (h : Heap) : Tch S h h := ⟨Nat.le_refl _, fun _ _ _ => rfl⟩
theorem Tch.trans {S : List Nat} {a b c : Heap} (x : Tch S a b) (y : Tch S b c) : Tch S a c := ⟨Nat.le_trans x.next y.next, fun j hj hs => (y.get j (Nat.lt_of_lt_of_le hj x.next) hs).trans (x.get j hj hs)⟩
theorem Tch.set {S : List Nat} (h : Heap) {i : Nat} (hi : i ∈ S) (o : Ob) : Tch S h (h.set i o) := ⟨Nat.le_refl _, fun j _ hs => by rw [Heap.get_set, if_neg (fun e => hs (by rw [e]; exact hi))]⟩
theorem Tch.mono {S T : List Nat} {h h' : Heap} (x : Tch S h h') (hs : ∀ i, i ∈ S → i ∈ T) : Tch T h h' := ⟨x.next, fun j hj ht => x.get j hj fun e => ht (hs j e)⟩

theorem atomic_Load_ok {lf : Nat} {i o : Nat} {cs : List V} {kd : Kd} {n : Int} (hg : h.get i = some (.cells cs kd)) (hc : cs[o]? = some (.int .i64 n)) : Comes lf n_sync_atomic_Int64_Load 1 [.ptr (some (i, o))] h (.int .i64 n, h) := by
  intro k
  refine sync_atomic_Int64_Load_run ?_
  unfold sync_atomic_Int64_Load
  simp only [intK_i, io_lss, io_leq, io_gtr, io_geq, io_eql, io_neq, obind_s, gdP_b, gdE_b, pkK_b, cndV_b, decide_eq_true_eq, decide_eq_false_iff_not, lenS_s, lenL_l, bindVH_s, exK_t, nilV_p, faK_p, refK_s, eqPtr_nn, eqPtr_sn, List.getElem?_cons_zero, List.getElem?_cons_succ, Bool.not_eq_true', bne_false', if_true, if_false, Bool.false_eq_true, cvI_i, Nat.zero_add, Nat.add_zero, dExt, cells_of hg, hc]
  rfl
theorem storeCells_one {i o : Nat} {cs : List V} {kd : Kd} {v : V} (hg : h.get i = some (.cells cs kd)) (hk : kd.wr = true) (ho : o < cs.length) (hv : v.one = true) : dStoreCells i o [v] h = some (h.set i (.cells (cs.set o v) kd)) := by
  unfold dStoreCells
  rw [hg]
  simp only [hk, List.length_singleton, Nat.ble_eq_true_of_le (show o + 1 ≤ cs.length from ho), List.all_cons, hv, List.all_nil, Bool.and_self, cond_true, splice_one ho]
theorem atomic_Add_ok {lf : Nat} {i o : Nat} {cs : List V} {kd : Kd} {n e : Int} (hg : h.get i = some (.cells cs kd)) (hk : kd.wr = true) (hc : cs[o]? = some (.int .i64 n)) (h1 : -9223372036854775808 ≤ n + e) (h2 : n + e < 9223372036854775808) :
    Comes lf n_sync_atomic_Int64_Add 1 [.ptr (some (i, o)), .int .i64 e] h (.int .i64 (n + e), h.set i (.cells (cs.set o (.int .i64 (n + e))) kd)) := by
  intro k
  refine sync_atomic_Int64_Add_run ?_
  unfold sync_atomic_Int64_Add
  have ho := (List.getElem?_eq_some_iff.1 hc).1
  simp only [intK_i, io_lss, io_leq, io_gtr, io_geq, io_eql, io_neq, obind_s, gdP_b, gdE_b, pkK_b, cndV_b, decide_eq_true_eq, decide_eq_false_iff_not, lenS_s, lenL_l, bindVH_s, exK_t, nilV_p, faK_p, refK_s, eqPtr_nn, eqPtr_sn, List.getElem?_cons_zero, List.getElem?_cons_succ, Bool.not_eq_true', bne_false', if_true, if_false, Bool.false_eq_true, cvI_i, Nat.zero_add, Nat.add_zero, dExt, cells_of hg, hc, wrap_i64 h1 h2, storeCells_one hg hk ho (v := .int .i64 (n + e)) rfl, Option.map_some]
  rfl
theorem atomic_Store_ok {lf : Nat} {i o : Nat} {cs : List V} {kd : Kd} {e : Int} (hg : h.get i = some (.cells cs kd)) (hk : kd.wr = true) (ho : o < cs.length) :
    Comes lf n_sync_atomic_Int64_Store 1 [.ptr (some (i, o)), .int .i64 e] h (.tup [], h.set i (.cells (cs.set o (.int .i64 e)) kd)) := by
  intro k
  refine sync_atomic_Int64_Store_run ?_
  unfold sync_atomic_Int64_Store
  simp only [intK_i, io_lss, io_leq, io_gtr, io_geq, io_eql, io_neq, obind_s, gdP_b, gdE_b, pkK_b, cndV_b, decide_eq_true_eq, decide_eq_false_iff_not, lenS_s, lenL_l, bindVH_s, exK_t, nilV_p, faK_p, refK_s, eqPtr_nn, eqPtr_sn, List.getElem?_cons_zero, List.getElem?_cons_succ, Bool.not_eq_true', bne_false', if_true, if_false, Bool.false_eq_true, cvI_i, Nat.zero_add, Nat.add_zero, dExt, storeCells_one hg hk ho (v := .int .i64 e) rfl, Option.map_some]
  rfl

def DiskM.write (D : DiskM) (i : Nat) (s : List UInt8) : DiskM := { D with fresh := upd i s D.fresh }

theorem upd_mem {α : Type} (n : Nat) (v : α) : ∀ (es : List (Nat × α)) (p : Nat × α), p ∈ upd n v es → p = (n, v) ∨ p ∈ es
  | [], p, h => by simp [upd] at h; exact .inl h
  | (a, c) :: es, p, h => by
    simp only [upd] at h
    split at h
    · rcases List.mem_cons.1 h with h | h
      · exact .inl h
      · exact .inr (List.mem_cons_of_mem _ h)
    · rcases List.mem_cons.1 h with h | h
      · exact .inr (h ▸ List.mem_cons_self ..)
      · rcases upd_mem n v es p h with h | h
        · exact .inl h
        · exact .inr (List.mem_cons_of_mem _ h)

theorem lookup_none {α : Type} (es : List (Nat × α)) (n : Nat) : es.lookup n = none ↔ n ∉ es.map (·.1) := by
  rw [← fnd_lookup es n 0, Option.map_eq_none_iff, fnd_none_iff]

/-- The map behind a write. -/
theorem DiskAt.upds (H : DiskAt h d sy m D) {i : Nat} (hi : i < D.n) {s : List UInt8} (hs : s.length = 64) {h1 : Heap} (q1 : h1.get d = some (.cells [.sl (some (sy, 0)) D.n D.n 1 true, .map (some m), .int .i64 (D.write i s).fresh.length] .own))
    (q2 : h1.get sy = h.get sy) (q3 : h1.get m = h.get m) : ∃ o, dMapUpdate ee t_map_int_string (.map (some m)) (.int .i64 i) (.str s) h1 = some (h1.set m o) ∧ DiskAt (h1.set m o) d sy m (D.write i s) := by
  obtain ⟨bs, cl, a, b1, b2, b3⟩ := H.om
  obtain ⟨n1, n2, n3⟩ := H.ne
  refine ⟨_, mapUpdate_int .str tmap tint (q3.trans a) i s, ?_⟩
  refine ⟨?_, ?_, ?_, ?_, ?_, H.ne, H.le, H.s64, ?_⟩
  · rw [Heap.get_set, if_neg n2, q1]; rfl
  · rw [Heap.get_set, if_neg n3, q2, H.os]; rfl
  · rw [Heap.get_set, if_pos rfl]
    have hk := upd_keys i s D.fresh
    by_cases hin : i ∈ D.fresh.map (·.1)
    · rw [if_pos hin]
      refine ⟨bs, cl, rfl, ?_, b2, b3⟩
      rw [if_pos hin] at hk
      have := congrArg List.length hk
      simp only [List.length_map] at this
      rw [b1]; exact this.symm
    · rw [if_neg hin]
      refine ⟨bs ++ [cl], cl + 1, rfl, ?_, ?_, ?_⟩
      · rw [if_neg hin] at hk
        have := congrArg List.length hk
        simp only [List.length_map, List.length_append, List.length_singleton] at this
        rw [List.length_append, b1]; exact this.symm
      · intro b hb
        rcases List.mem_append.1 hb with h1 | h1
        · have := b2 b h1; omega
        · rw [List.mem_singleton.1 h1]; omega
      · rw [List.nodup_append]
        refine ⟨b3, by simp, ?_⟩
        intro x hx y hy
        rw [List.mem_singleton.1 hy]
        have := b2 x hx
        omega
  · show ((upd i s D.fresh).map (·.1)).Nodup
    rw [upd_keys]
    split
    · exact H.nd
    · rename_i hin
      rw [List.nodup_append]
      refine ⟨H.nd, by simp, ?_⟩
      intro x hx y hy
      rw [List.mem_singleton.1 hy]
      exact fun e => hin (e ▸ hx)
  · intro p hp
    have hp' : p ∈ (upd i s D.fresh).map (·.1) := hp
    rw [upd_keys] at hp'
    split at hp'
    · exact H.lt p hp'
    · rcases List.mem_append.1 hp' with h1 | h1
      · exact H.lt p h1
      · rw [List.mem_singleton.1 h1]; exact hi
  · intro p hp
    rcases upd_mem i s D.fresh p hp with rfl | h1
    · exact hs
    · exact H.f64 p h1

theorem disk_Write_ok {lf : Nat} (H : DiskAt h d sy m D) (Hk : Hok h) {i : Nat} (hi : i < D.n) {s : List UInt8} (hs : s.length = 64) :
    ∃ h', Comes lf n_disk_Disk_Write 2 [.ptr (some (d, 0)), .int .i64 i, .str s] h (.int .i64 0, h') ∧ DiskAt h' d sy m (D.write i s) ∧ Tch [d, m] h h' ∧ Hok h' ∧ h'.next = h.next := by
  obtain ⟨bs, cl, a, b1, b2, b3⟩ := H.om
  obtain ⟨n1, n2, n3⟩ := H.ne
  have hk := upd_keys i s D.fresh
  have hle : D.fresh.length ≤ 1024 := by
    have : D.fresh.length ≤ D.n := by
      have := List.Nodup.length_le_of_subset H.nd (l₂ := List.range D.n) (fun p hp => List.mem_range.2 (H.lt p hp))
      simpa using this
    have := H.le
    omega
  by_cases hin : i ∈ D.fresh.map (·.1)
  · have hlen : (D.write i s).fresh.length = D.fresh.length := by
      rw [if_pos hin] at hk
      have := congrArg List.length hk
      simp only [List.length_map] at this
      exact this
    obtain ⟨o, e1, e2⟩ := H.upds hi hs (h1 := h) (by rw [hlen]; exact H.od) rfl rfl
    refine ⟨h.set m o, ?_, e2, Tch.set h (by simp) o, Hk.set (Hk.lt a) o, rfl⟩
    intro k
    refine disk_Disk_Write_run (k := k + 1) ?_
    unfold disk_Disk_Write disk_Disk_Write_j1
    obtain ⟨v, hv⟩ : ∃ v, D.fresh.lookup i = some v := by
      cases hl : D.fresh.lookup i with
      | some v => exact ⟨v, rfl⟩
      | none => exact absurd hin ((lookup_none _ _).1 hl)
    simp only [intK_i, io_lss, io_leq, io_gtr, io_geq, io_eql, io_neq, obind_s, gdP_b, gdE_b, pkK_b, cndV_b, decide_eq_true_eq, decide_eq_false_iff_not, lenS_s, lenL_l, bindVH_s, exK_t, nilV_p, faK_p, refK_s, eqPtr_nn, eqPtr_sn, List.getElem?_cons_zero, List.getElem?_cons_succ, Bool.not_eq_true', bne_false', if_true, if_false, Bool.false_eq_true, cvI_i, Nat.zero_add, Nat.add_zero, H.l0, H.l1, show ¬ (i : Int) < 0 by omega, show ¬ (D.n : Int) ≤ i by omega, decide_false, not_false_eq_true, hs, H.lm, hv, cond_true, show ¬ (((64 : Nat) : Int) ≠ 64) by decide, unK, dUn, Bool.not_true, e1]
    rfl
  · have hlen : (D.write i s).fresh.length = D.fresh.length + 1 := by
      rw [if_neg hin] at hk
      have := congrArg List.length hk
      simp only [List.length_map, List.length_append, List.length_singleton] at this
      exact this
    have g1 : (h.set d (.cells [.sl (some (sy, 0)) D.n D.n 1 true, .map (some m), .int .i64 (D.write i s).fresh.length] .own)).get d = some (.cells [.sl (some (sy, 0)) D.n D.n 1 true, .map (some m), .int .i64 (D.write i s).fresh.length] .own) := by rw [Heap.get_set, if_pos rfl]
    obtain ⟨o, e1, e2⟩ := H.upds hi hs g1 (by rw [Heap.get_set, if_neg (Ne.symm n1)]) (by rw [Heap.get_set, if_neg (Ne.symm n2)])
    refine ⟨_, ?_, e2, (Tch.set h (by simp) _).trans (Tch.set _ (by simp) o), (Hk.set (Hk.lt H.od) _).set (Hk.lt a) o, rfl⟩
    intro k
    refine disk_Disk_Write_run (k := k + 1) ?_
    unfold disk_Disk_Write disk_Disk_Write_j1
    have hv : D.fresh.lookup i = none := (lookup_none _ _).2 hin
    have ea := (atomic_Add_ok (lf := lf) (e := 1) H.od rfl (o := 2) rfl (by omega) (by omega)) k
    have e3 : (D.fresh.length : Int) + 1 = ((D.write i s).fresh.length : Nat) := by rw [hlen]; rfl
    rw [e3] at ea
    simp only [intK_i, io_lss, io_leq, io_gtr, io_geq, io_eql, io_neq, obind_s, gdP_b, gdE_b, pkK_b, cndV_b, decide_eq_true_eq, decide_eq_false_iff_not, lenS_s, lenL_l, bindVH_s, exK_t, nilV_p, faK_p, refK_s, eqPtr_nn, eqPtr_sn, List.getElem?_cons_zero, List.getElem?_cons_succ, Bool.not_eq_true', bne_false', if_true, if_false, Bool.false_eq_true, cvI_i, Nat.zero_add, Nat.add_zero, H.l0, H.l1, show ¬ (i : Int) < 0 by omega, show ¬ (D.n : Int) ≤ i by omega, decide_false, not_false_eq_true, hs, H.lm, hv, cond_true, show ¬ (((64 : Nat) : Int) ≠ 64) by decide, unK, dUn, Bool.not_false, ea, List.set_cons_succ, List.set_cons_zero, ld1_c g1]
    rw [e1]
    rfl
end
end Go.Zs
/- disk: what syncs. -/
namespace Go.Zs
open Go Go.Proofs

/-- What a call comes to. -/
def Does (lf : Nat) (f : FuncId) (d : Nat) (args : List V) (h : Heap) (Q : V → Heap → Prop) : Prop := ∀ k, ∃ v h', run ee lf (k + d) false f args h = some (v, h') ∧ Q v h'
theorem Does.more {lf f d args h Q} (g : Does lf f d args h Q) {d' : Nat} (hd : d ≤ d') : Does lf f d' args h Q := fun k => by
  have := g (k + (d' - d))
  rwa [show k + (d' - d) + d = k + d' by omega] at this
theorem does_of {lf f d k} {args : List V} {h : Heap} {Q : V → Heap → Prop} {F : Option (V × Heap)} (hr : ∀ r, F = some r → run ee lf (k + d) false f args h = some r) (hF : ∃ v h', F = some (v, h') ∧ Q v h') : ∃ v h', run ee lf (k + d) false f args h = some (v, h') ∧ Q v h' :=
  let ⟨v, h', a, b⟩ := hF
  ⟨v, h', hr _ a, b⟩

section
variable {h : Heap} {d sy m : Nat} {D : DiskM} {R : Type}

theorem tmap0 : (#[t_map_int_string][0]?).bind ee.P.underlying = some (.map 3 9) := by kernel_rfl

theorem disk_clean_ok {lf : Nat} {a c : V} {es : List (V × V)} {bs : List Nat} {cl : Nat} (hd : h.get d = some (.cells [a, .map (some m), c] .own)) (hm : h.get m = some (.map es bs cl)) (hne : d ≠ m) :
    Comes lf n_disk_Disk_clean 2 [.ptr (some (d, 0))] h (.tup [], (h.set m (.map [] [] cl)).set d (.cells [a, .map (some m), .int .i64 0] .own)) := by
  intro k
  refine disk_Disk_clean_run (k := k + 1) ?_
  unfold disk_Disk_clean
  have hd' : (h.set m (.map [] [] cl)).get d = some (.cells [a, .map (some m), c] .own) := by rw [Heap.get_set, if_neg hne, hd]
  have es := (atomic_Store_ok (lf := lf) (e := 0) hd' rfl (o := 2) (by simp)) k
  have ec : dBuiltin ee .clear #[t_map_int_string] [.map (some m)] h = some (.tup [], h.set m (.map [] [] cl)) := by
    show dClear ee #[t_map_int_string] (.map (some m)) h = _
    unfold dClear
    rw [tmap0]
    simp only [hm]
  simp only [intK_i, io_lss, io_leq, io_gtr, io_geq, io_eql, io_neq, obind_s, gdP_b, gdE_b, pkK_b, cndV_b, decide_eq_true_eq, decide_eq_false_iff_not, lenS_s, lenL_l, bindVH_s, exK_t, nilV_p, faK_p, refK_s, eqPtr_nn, eqPtr_sn, List.getElem?_cons_zero, List.getElem?_cons_succ, Bool.not_eq_true', bne_false', if_true, if_false, Bool.false_eq_true, cvI_i, Nat.zero_add, Nat.add_zero, ld1_c hd, ec, es, List.set_cons_succ, List.set_cons_zero]
  rfl

def DiskM.sync (D : DiskM) : DiskM := { synced := (List.range D.n).map D.at, fresh := [] }
theorem DiskM.sync_n (D : DiskM) : D.sync.n = D.n := by simp [DiskM.sync, DiskM.n]
theorem DiskM.sync_at (D : DiskM) {i : Nat} (hi : i < D.n) : D.sync.at i = D.at i := by
  unfold DiskM.sync DiskM.at
  simp only [List.lookup_nil, Option.getD_none, List.getD_eq_getElem?_getD, List.getElem?_map]
  rw [List.getElem?_range hi]
  simp

/-- What the loop of Sync keeps. -/
structure SyncInv (h0 : Heap) (d sy m : Nat) (D : DiskM) (bs : List Nat) (cl : Nat) (seen : List Nat) (f : Fs) (h : Heap) : Prop where
  f0 : f 0 = .ptr (some (d, 0))
  f11 : f 11 = .ptr (some (h0.next, 0))
  it : ItAt h m h0.next cl cl (encM .str D.fresh) bs seen
  nx : h.next = h0.next + 1
  rest : ∀ i, i ≠ h0.next → i ≠ sy → h.get i = h0.get i
  sy : ∃ S : List (List UInt8), h.get sy = some (.cells (S.map .str) .own) ∧ S.length = D.n ∧ (∀ (i : Nat) (p : Nat × List UInt8) (b : Nat), D.fresh[i]? = some p → bs[i]? = some b → b ∈ seen → S.getD p.1 [] = p.2) ∧
    (∀ q, (∀ (i : Nat) (p : Nat × List UInt8) (b : Nat), D.fresh[i]? = some p → bs[i]? = some b → b ∈ seen → p.1 ≠ q) → S.getD q [] = D.synced.getD q [])


theorem encM_get {α : Type} (enc : α → V) (es : List (Nat × α)) (i : Nat) : (encM enc es)[i]? = (es[i]?).map fun p => (V.int .i64 p.1, enc p.2) := by simp [encM]

theorem sync_l1 {lf : Nat} {call : CallF} (H : DiskAt h d sy m D) (Hk : Hok h) {bs : List Nat} {cl : Nat} (hm : h.get m = some (.map (encM .str D.fresh) bs cl)) (hl : bs.length = D.fresh.length) (hn : bs.Nodup) (seen : List Nat) (f : Fs) (h1 : Heap) (i : Nat) (k v : V) (b : Nat)
    (I : SyncInv h d sy m D bs cl seen f h1) (he : (encM .str D.fresh)[i]? = some (k, v)) (hb : bs[i]? = some b) (hs : b ∉ seen) :
    ∃ f' h', disk_Disk_Sync_l1 lf call (fun o f h => some (o, f, h)) (.tup [.bool true, k, v]) f (h1.set h.next (.iter (some m) cl (seen ++ [b]) cl)) = some (.normal, f', h') ∧ SyncInv h d sy m D bs cl (seen ++ [b]) f' h' ∧ ∀ q, q ∉ [12, 13, 14, 15, 16, 3, 4, 17, 18, 19, 20, 21, 22, 23] → f' q = f q := by
  rw [encM_get] at he
  obtain ⟨p, hp, hkv⟩ := Option.map_eq_some_iff.1 he
  obtain ⟨rfl, rfl⟩ := Prod.mk.inj hkv
  obtain ⟨n1, n2, n3⟩ := H.ne
  have hd' := Hk.lt H.od
  have hsy := Hk.lt H.os
  have hmm := Hk.lt hm
  obtain ⟨S, s1, s2, s3, s4⟩ := I.sy
  have hp1 : p.1 < D.n := H.lt p.1 (List.mem_map_of_mem (List.mem_of_getElem? hp))
  have gj : (h1.set h.next (.iter (some m) cl (seen ++ [b]) cl)).get h.next = some (.iter (some m) cl (seen ++ [b]) cl) := by rw [Heap.get_set, if_pos rfl]
  have gm : (h1.set h.next (.iter (some m) cl (seen ++ [b]) cl)).get m = some (.map (encM .str D.fresh) bs cl) := by rw [Heap.get_set, if_neg (by omega), I.rest m (by omega) (Ne.symm n3), hm]
  have gd : (h1.set h.next (.iter (some m) cl (seen ++ [b]) cl)).get d = some (.cells [.sl (some (sy, 0)) D.n D.n 1 true, .map (some m), .int .i64 D.fresh.length] .own) := by rw [Heap.get_set, if_neg (by omega), I.rest d (by omega) n1, H.od]
  have gs : (h1.set h.next (.iter (some m) cl (seen ++ [b]) cl)).get sy = some (.cells (S.map .str) .own) := by rw [Heap.get_set, if_neg (by omega), s1]
  have ee1 := dEntry_ok gj gm hn (by rw [encM_get, hp]; rfl) hb
  unfold disk_Disk_Sync_l1
  simp only [intK_i, io_lss, io_leq, io_gtr, io_geq, io_eql, io_neq, obind_s, gdP_b, gdE_b, pkK_b, cndV_b, decide_eq_true_eq, decide_eq_false_iff_not, lenS_s, lenL_l, bindVH_s, exK_t, nilV_p, faK_p, refK_s, eqPtr_nn, eqPtr_sn, List.getElem?_cons_zero, List.getElem?_cons_succ, Bool.not_eq_true', bne_false', if_true, if_false, Bool.false_eq_true, cvI_i, Nat.zero_add, Nat.add_zero, I.f11, ee1, I.f0, ld1_c gd, iaS_i, intIn_nat, if_pos hp1, Nat.mul_one]
  rw [st1_c gs rfl (by rw [List.length_map, s2]; exact hp1) rfl]
  refine ⟨_, _, rfl, ⟨I.f0, I.f11, ⟨⟨cl, ?_, Nat.le_refl _⟩, ?_, I.it.lt⟩, I.nx, ?_, S.set p.1 p.2, ?_, by rw [List.length_set, s2], ?_, ?_⟩, fun q hq => updL_ne _ _ _ _ hq⟩
  · rw [Heap.get_set, if_neg (by omega), gj]
  · rw [Heap.get_set, if_neg (Ne.symm n3), gm]
  · intro q h2 h3
    rw [Heap.get_set, if_neg h3, Heap.get_set, if_neg h2, I.rest q h2 h3]
  · rw [Heap.get_set, if_pos rfl, List.map_set]
  · intro i' p' b' e1 e2 e3
    rw [List.getD_eq_getElem?_getD]
    by_cases hpp : p'.1 = p.1
    · -- one key stands once
      have : i' = i := by
        have h1 : (D.fresh.map (·.1))[i']? = some p.1 := by rw [List.getElem?_map, e1]; simp [hpp]
        have h2 : (D.fresh.map (·.1))[i]? = some p.1 := by rw [List.getElem?_map, hp]; rfl
        exact (List.getElem?_inj (by have := (List.getElem?_eq_some_iff.1 h1).1; exact this) H.nd).1 (h1.trans h2.symm)
      subst this
      rw [hp] at e1; cases e1
      rw [List.getElem?_set_self (by rw [s2]; exact hp1)]
      rfl
    · rw [List.getElem?_set_ne (Ne.symm hpp), ← List.getD_eq_getElem?_getD]
      refine s3 i' p' b' e1 e2 ?_
      rcases List.mem_append.1 e3 with h2 | h2
      · exact h2
      · exfalso
        rw [List.mem_singleton.1 h2] at e2
        have : i' = i := (List.getElem?_inj (List.getElem?_eq_some_iff.1 e2).1 hn).1 (e2.trans hb.symm)
        subst this
        rw [hp] at e1; cases e1
        exact hpp rfl
  · intro q hq
    have h1 : p.1 ≠ q := hq i p b hp hb (List.mem_append.2 (.inr (List.mem_singleton.2 rfl)))
    rw [List.getD_eq_getElem?_getD, List.getElem?_set_ne h1, ← List.getD_eq_getElem?_getD]
    exact s4 q fun i' p' b' e1 e2 e3 => hq i' p' b' e1 e2 (List.mem_append.2 (.inl e3))

theorem lookup_of_mem {α : Type} : ∀ {es : List (Nat × α)} {k : Nat} {v : α}, (es.map (·.1)).Nodup → (k, v) ∈ es → es.lookup k = some v
  | [], _, _, _, h => by cases h
  | (a, b) :: es, k, v, hn, h => by
    rw [List.lookup_cons]
    rcases List.mem_cons.1 h with h1 | h1
    · cases h1; simp
    · have hne : k ≠ a := by
        rintro rfl
        exact (List.nodup_cons.1 hn).1 (List.mem_map_of_mem (f := (·.1)) h1)
      have : (k == a) = false := by simp [hne]
      rw [this]
      exact lookup_of_mem (List.nodup_cons.1 hn).2 h1
theorem mem_of_lookup {α : Type} : ∀ {es : List (Nat × α)} {k : Nat} {v : α}, es.lookup k = some v → (k, v) ∈ es
  | [], _, _, h => by cases h
  | (a, b) :: es, k, v, h => by
    rw [List.lookup_cons] at h
    split at h
    · rename_i he
      cases h
      have : k = a := by simpa using he
      subst this
      exact List.mem_cons_self ..
    · exact List.mem_cons_of_mem _ (mem_of_lookup h)

theorem disk_Sync_ok {lf : Nat} (hlf : 1000000 ≤ lf) (H : DiskAt h d sy m D) (Hk : Hok h) :
    Does lf n_disk_Disk_Sync 3 [.ptr (some (d, 0))] h fun v h' => v = .int .i64 0 ∧ DiskAt h' d sy m D.sync ∧ Tch [d, sy, m] h h' ∧ Hok h' := by
  intro k
  obtain ⟨bs, cl, hm, hl, hlt, hn⟩ := H.om
  obtain ⟨n1, n2, n3⟩ := H.ne
  have hd' := Hk.lt H.od
  have hsy := Hk.lt H.os
  have hmm := Hk.lt hm
  refine does_of (fun r => disk_Disk_Sync_run (k := k + 2)) ?_
  unfold disk_Disk_Sync
  have er : dRange ee t_map_int_string (.map (some m)) h = some (.ptr (some (h.next, 0)), h.new (.iter (some m) cl [] cl)) := by
    unfold dRange
    rw [tmap]
    simp only [hm]
  simp only [intK_i, io_lss, io_leq, io_gtr, io_geq, io_eql, io_neq, obind_s, gdP_b, gdE_b, pkK_b, cndV_b, decide_eq_true_eq, decide_eq_false_iff_not, lenS_s, lenL_l, bindVH_s, exK_t, nilV_p, faK_p, refK_s, eqPtr_nn, eqPtr_sn, List.getElem?_cons_zero, List.getElem?_cons_succ, Bool.not_eq_true', bne_false', if_true, if_false, Bool.false_eq_true, cvI_i, Nat.zero_add, Nat.add_zero, H.l1, er]
  generalize hF : updL _ _ _ = F
  have hle : D.fresh.length ≤ 1024 := by
    have : D.fresh.length ≤ D.n := by
      have := List.Nodup.length_le_of_subset H.nd (l₂ := List.range D.n) (fun p hp => List.mem_range.2 (H.lt p hp))
      simpa using this
    have := H.le
    omega
  have I0 : SyncInv h d sy m D bs cl [] F (h.new (.iter (some m) cl [] cl)) := by
    refine ⟨by rw [← hF]; rfl, by rw [← hF]; rfl, ⟨⟨cl, Heap.get_new_self _ _, Nat.le_refl _⟩, ?_, hlt⟩, rfl, fun i h1 h2 => by rw [Heap.get_new, if_neg h1], D.synced, ?_, rfl, fun _ _ _ _ _ hh => absurd hh (List.not_mem_nil), fun _ _ => rfl⟩
    · rw [Heap.get_new, if_neg (by omega), hm]
    · rw [Heap.get_new, if_neg (by omega), H.os]
  have hlen : (encM V.str D.fresh).length = bs.length := by simp [encM, hl]
  obtain ⟨f', h', e1, e2, e3, e4⟩ := mapR_rule (n := 26) (ds := [12, 13, 14, 15, 16, 3, 4, 17, 18, 19, 20, 21, 22, 23]) (x := fun f => f 11) (bod := fun v f h => disk_Disk_Sync_l1 lf (run ee lf (k + 2)) (fun o f h => some (o, f, h)) v f h)
    (m := m) (j := h.next) (since := cl) (cl := cl) (es := encM .str D.fresh) (bs := bs) (Inv := fun seen f h1 => SyncInv h d sy m D bs cl seen f h1 ∧ ∀ k, k < 26 → k ∉ [12, 13, 14, 15, 16, 3, 4, 17, 18, 19, 20, 21, 22, 23] → f k = F k) (o0 := .exit 0) (F0 := F) (N0 := h.next + 1)
    (H0 := fun i => if i = sy then some (.cells (D.sync.synced.map .str) .own) else h.get i) hlen (by intro h; cases h)
    (fun seen f h1 I => ⟨I.1.f11, I.1.it, I.2⟩)
    (fun seen f h1 i kk v b I he hb hs => by
      obtain ⟨f', h', g1, g2, g3⟩ := sync_l1 (lf := lf) (call := run ee lf (k + 2)) H Hk hm hl hn seen f h1 i kk v b I.1 he hb hs
      exact ⟨f', h', g1, g2, fun q hq hd => (g3 q hd).trans (I.2 q hq hd)⟩)
    (fun seen f h1 I hall => by
      unfold disk_Disk_Sync_l1
      simp only [intK_i, io_lss, io_leq, io_gtr, io_geq, io_eql, io_neq, obind_s, gdP_b, gdE_b, pkK_b, cndV_b, decide_eq_true_eq, decide_eq_false_iff_not, lenS_s, lenL_l, bindVH_s, exK_t, nilV_p, faK_p, refK_s, eqPtr_nn, eqPtr_sn, List.getElem?_cons_zero, List.getElem?_cons_succ, Bool.not_eq_true', bne_false', if_true, if_false, Bool.false_eq_true, cvI_i, Nat.zero_add, Nat.add_zero]
      refine ⟨_, _, rfl, fun q hq hd => (updL_ne _ _ _ _ (fun e => hd (by
        have : q = 12 ∨ q = 13 := by simpa using e
        rcases this with rfl | rfl <;> simp))).trans (I.2 q hq hd), I.1.nx, fun i hi => ?_⟩
      by_cases hs : i = sy
      · rw [if_pos hs, hs]
        obtain ⟨S, s1, s2, s3, s4⟩ := I.1.sy
        rw [s1]
        have : S = D.sync.synced := by
          apply List.ext_getElem?
          intro q
          show S[q]? = ((List.range D.n).map D.at)[q]?
          rw [List.getElem?_map]
          by_cases hq : q < D.n
          · rw [List.getElem?_range hq, List.getElem?_eq_getElem (by omega)]
            show some S[q] = some (D.at q)
            have hgd : S[q]'(by omega) = S.getD q [] := by rw [List.getD_eq_getElem?_getD, List.getElem?_eq_getElem (by omega)]; rfl
            rw [hgd]
            unfold DiskM.at
            cases hlk : D.fresh.lookup q with
            | some v =>
              obtain ⟨i', hi'⟩ := List.mem_iff_getElem?.1 (mem_of_lookup hlk)
              have hib : i' < bs.length := by rw [hl]; exact (List.getElem?_eq_some_iff.1 hi').1
              have := s3 i' (q, v) bs[i'] hi' (List.getElem?_eq_getElem hib) (hall _ (List.getElem_mem hib))
              rw [this]; rfl
            | none =>
              have hnk := (lookup_none _ _).1 hlk
              rw [s4 q fun i' p' b' e1 _ _ e3 => hnk (e3 ▸ List.mem_map_of_mem (List.mem_of_getElem? e1))]
              rfl
          · rw [List.getElem?_eq_none (by omega), List.getElem?_eq_none (by simp; omega)]; rfl
        rw [this]
      · rw [if_neg hs]; exact I.1.rest i hi hs)
    lf [] F _ (by have := leftN_le [] bs; omega) ⟨I0, fun _ _ _ => rfl⟩
  have c1 : h'.get d = some (.cells [.sl (some (sy, 0)) D.n D.n 1 true, .map (some m), .int .i64 D.fresh.length] .own) := by rw [e4 d (by omega), if_neg n1, H.od]
  have c2 : h'.get m = some (.map (encM .str D.fresh) bs cl) := by rw [e4 m (by omega), if_neg (Ne.symm n3), hm]
  have e0 : f' 0 = .ptr (some (d, 0)) := (e2 0 (by omega) (by decide)).trans (by rw [← hF]; rfl)
  have ec := (disk_clean_ok (lf := lf) c1 c2 n2) k
  simp only [mapK, e1, Option.bind_some, blkK_e, if_true, disk_Disk_Sync_j1, e0, ec, bindVH_s]
  have hH' : Hok h' := fun i hi => by
    rw [e3] at hi
    rw [e4 i (by omega), if_neg (by omega)]
    exact Hk i (by omega)
  have hd2 : d < h'.next := by omega
  have hm2 : m < h'.next := by omega
  refine ⟨_, _, rfl, rfl, ?_, ⟨?_, fun q hq hs => ?_⟩, (hH'.set hm2 _).set hd2 _⟩
  · refine ⟨?_, ?_, ⟨[], cl, ?_, rfl, (fun b hb => absurd hb List.not_mem_nil), List.nodup_nil⟩, List.nodup_nil, (fun p hp => absurd hp List.not_mem_nil), H.ne, (by rw [DiskM.sync_n]; exact H.le), ?_, (fun p hp => absurd hp List.not_mem_nil)⟩
    · rw [Heap.get_set, if_pos rfl, DiskM.sync_n]; rfl
    · rw [Heap.get_set, if_neg (Ne.symm n1), Heap.get_set, if_neg n3, e4 sy (by omega), if_pos rfl]
    · rw [Heap.get_set, if_neg (Ne.symm n2), Heap.get_set, if_pos rfl]; rfl
    · intro s hs
      obtain ⟨i, hi, rfl⟩ := List.mem_map.1 hs
      exact DiskM.at_length H (List.mem_range.1 hi)
  · show h.next ≤ h'.next
    omega
  · simp only [List.mem_cons, List.not_mem_nil, or_false, not_or] at hs
    rw [Heap.get_set, if_neg hs.1, Heap.get_set, if_neg hs.2.2, e4 q (by omega), if_neg hs.2.1]
end
end Go.Zs
