/- crc: what the program's and the reference's function come to. -/
import Derived.Test.YtkgglkoooldodaaZsI6
import Derived.Test.YtkgglkoooldodaaFnCW
set_option linter.unusedVariables false
set_option linter.unusedSimpArgs false
set_option linter.deprecated false
namespace Go.Zs
open Go

def crcStep (c : Nat) : Nat := if c % 2 = 1 then c / 2 ^^^ 3988292384 else c / 2
def crcBits : Nat → Nat → Nat
  | 0, c => c
  | n + 1, c => crcBits n (crcStep c)
def crcMore : Nat → List UInt8 → Nat
  | c, [] => c
  | c, b :: l => crcMore (crcBits 8 (c ^^^ b.toNat)) l
def crcSum (s : List UInt8) : Nat := crcMore 4294967295 s ^^^ 4294967295

theorem crcStep_lt {c : Nat} (h : c < 4294967296) : crcStep c < 4294967296 := by
  unfold crcStep
  split
  · exact Nat.xor_lt_two_pow (n := 32) (by omega) (by omega)
  · omega
theorem crcBits_lt : ∀ (n : Nat) {c : Nat}, c < 4294967296 → crcBits n c < 4294967296
  | 0, _, h => h
  | n + 1, _, h => crcBits_lt n (crcStep_lt h)
theorem byte_lt (b : UInt8) : b.toNat < 256 := UInt8.toNat_lt b
theorem crcMore_lt : ∀ (s : List UInt8) {c : Nat}, c < 4294967296 → crcMore c s < 4294967296
  | [], _, h => h
  | b :: l, _, h => crcMore_lt l (crcBits_lt 8 (Nat.xor_lt_two_pow (n := 32) h (by have := byte_lt b; omega)))
theorem crcSum_lt (s : List UInt8) : crcSum s < 4294967296 := Nat.xor_lt_two_pow (n := 32) (crcMore_lt s (by omega)) (by omega)

section
variable {R : Type} (lf : Nat) (call : CallF) (K : Out → Fs → Heap → Option R)

theorem and1 (c : Nat) (hc : c < 4294967296) : intOp .and .u32 (c : Int) .u32 (1 : Int) = some (.int .u32 (c % 2 : Nat)) := by
  have := io_and .u32 c 1 hc (by decide)
  rw [Nat.and_one_is_mod] at this
  exact this
theorem shr1 (c : Nat) : intOp .shr .u32 (c : Int) .u64 (1 : Int) = some (.int .u32 (c / 2 : Nat)) := io_shr .u32 .u64 c 1 (by decide)
theorem xorP (c : Nat) (hc : c < 4294967296) : intOp .xor .u32 ((c / 2 : Nat) : Int) .u32 (3988292384 : Int) = some (.int .u32 (c / 2 ^^^ 3988292384 : Nat)) := io_xor .u32 (c / 2) 3988292384 (by show c / 2 < 4294967296; omega) (by decide)
theorem add1 (j : Nat) (hj : j < 9223372036854775807) : intOp .add .i64 (j : Int) .i64 (1 : Int) = some (.int .i64 (j + 1 : Nat)) := by
  rw [io_add, wrap_i64 (by omega) (by omega)]; rfl
theorem wrap_u32 (b : UInt8) : IntKind.u32.wrap (b.toNat : Int) = (b.toNat : Nat) := by
  have := byte_lt b
  unfold IntKind.wrap
  simp [IntKind.bits, IntKind.signed]
  omega
theorem xorB (c : Nat) (b : UInt8) (hc : c < 4294967296) : intOp .xor .u32 (c : Int) .u32 (b.toNat : Int) = some (.int .u32 (c ^^^ b.toNat : Nat)) := io_xor .u32 c b.toNat hc (by have := byte_lt b; show b.toNat < 4294967296; omega)

theorem crcb_l2 : ∀ (n j c : Nat) (f : Fs) (h : Heap), j + n = 8 → c < 4294967296 → f 0 = .int .u32 c → f 18 = .int .i64 j → ∀ k, n < k →
    ∃ f', iterK true (crcb_more_l2 lf call) K k f h = K (.exit 2) f' h ∧ f' 0 = .int .u32 (crcBits n c) ∧ f' 1 = f 1 ∧ f' 8 = f 8 ∧ f' 9 = f 9
  | n, j, c, f, h, hj, hc, h0, h18, 0, hk => by omega
  | 0, j, c, f, h, hj, hc, h0, h18, k + 1, hk => by
    obtain rfl : j = 8 := by omega
    refine ⟨updL 31 f [(19, .bool false)], ?_, by exact h0, rfl, rfl, rfl⟩
    rw [iterK_succ, crcb_more_l2, h18]
    rfl
  | n + 1, j, c, f, h, hj, hc, h0, h18, k + 1, hk => by
    have hlt : (j : Int) < 8 := by omega
    rw [iterK_succ, crcb_more_l2, h18, h0]
    simp only [intK_i, io_lss, Option.bind_some, cndV_b, decide_eq_true_eq, if_pos hlt, and1 c hc, shr1, add1 j (by omega), io_eql]
    by_cases hb : c % 2 = 1
    · rw [if_pos (by rw [hb]; rfl)]
      simp only [xorP c hc, Option.bind_some, seqK_n]
      generalize hF : updL _ _ _ = F
      obtain ⟨f', g1, g2, g3, g4, g5⟩ := crcb_l2 n (j + 1) (c / 2 ^^^ 3988292384) F h (by omega) (Nat.xor_lt_two_pow (n := 32) (by omega) (by omega)) (by rw [← hF]; rfl) (by rw [← hF]; rfl) k (by omega)
      rw [← hF] at g3 g4 g5
      exact ⟨f', g1, by rw [g2]; show _ = V.int .u32 (crcBits n (crcStep c)); unfold crcStep; rw [if_pos hb], g3, g4, g5⟩
    · rw [if_neg (by omega)]
      simp only [seqK_n]
      generalize hF : updL _ _ _ = F
      obtain ⟨f', g1, g2, g3, g4, g5⟩ := crcb_l2 n (j + 1) (c / 2) F h (by omega) (by omega) (by rw [← hF]; rfl) (by rw [← hF]; rfl) k (by omega)
      rw [← hF] at g3 g4 g5
      exact ⟨f', g1, by rw [g2]; show _ = V.int .u32 (crcBits n (crcStep c)); unfold crcStep; rw [if_neg hb], g3, g4, g5⟩

theorem crcb_l1 (hlf : 8 < lf) (s : List UInt8) (hs : s.length < 9223372036854775807) : ∀ (l : List UInt8) (i c : Nat) (f : Fs) (h : Heap), s.drop i = l → c < 4294967296 → f 0 = .int .u32 c → f 1 = .str s → f 8 = .int .i64 s.length → f 9 = .int .i64 i → ∀ k, l.length < k →
    ∃ f', iterK true (crcb_more_l1 lf call) K k f h = K (.exit 0) f' h ∧ f' 0 = .int .u32 (crcMore c l)
  | l, i, c, f, h, hl, hc, h0, h1, h8, h9, 0, hk => by omega
  | [], i, c, f, h, hl, hc, h0, h1, h8, h9, k + 1, hk => by
    have hge : s.length ≤ i := List.drop_eq_nil_iff.1 hl
    rw [iterK_succ, crcb_more_l1, h9, h8]
    simp only [intK_i, io_lss, Option.bind_some, cndV_b, decide_eq_true_eq, if_neg (show ¬ (i : Int) < s.length by omega), seqK_e]
    exact ⟨_, rfl, h0⟩
  | b :: l, i, c, f, h, hl, hc, h0, h1, h8, h9, k + 1, hk => by
    have hlt : i < s.length := by
      rcases Nat.lt_or_ge i s.length with h | h
      · exact h
      · rw [List.drop_eq_nil_of_le h] at hl; cases hl
    have hb : s[i]? = some b := by
      have : (s.drop i)[0]? = some b := by rw [hl]; rfl
      rw [List.getElem?_drop] at this; exact this
    have hd : s.drop (i + 1) = l := by rw [← List.drop_drop, hl]; rfl
    rw [iterK_succ, crcb_more_l1, h9, h8, h1, h0]
    simp only [intK_i, io_lss, Option.bind_some, cndV_b, decide_eq_true_eq, if_pos (show (i : Int) < s.length by omega), ixS_i, intIn_nat, if_pos hlt, hb, cvI_i, wrap_u32, xorB c b hc]
    generalize hF : updL _ _ _ = F
    obtain ⟨f', g1, g2, g3, g4, g5⟩ := crcb_l2 lf call (fun o f h => blkK 2 o (intK .add (f 9) (V.int .i64 1) fun v13 => seqK .normal (iterK true (crcb_more_l1 lf call) K k (updL 31 f [(29, v13), (9, v13)]) h) (K .normal (updL 31 f [(29, v13), (9, v13)]) h))
      (blkK 1 o (intK .add (f 9) (V.int .i64 1) fun v14 => seqK .normal (iterK true (crcb_more_l1 lf call) K k (updL 31 f [(29, v14), (9, v14)]) h) (K .normal (updL 31 f [(29, v14), (9, v14)]) h)) (seqK o (crcb_more_j1 lf call (fun o f h => seqK o (iterK true (crcb_more_l1 lf call) K k f h) (K o f h)) f (f 9) h) (seqK o (iterK true (crcb_more_l1 lf call) K k f h) (K o f h))))) 8 0 (c ^^^ b.toNat) F h rfl (Nat.xor_lt_two_pow (n := 32) hc (by have := byte_lt b; omega)) (by rw [← hF]; rfl) (by rw [← hF]; rfl) lf hlf
    rw [g1]
    rw [← hF] at g3 g4 g5
    simp only [blkK_e, if_true, seqK_n]
    have e9 : f' 9 = .int .i64 i := g5.trans h9
    rw [e9]
    simp only [intK_i, add1 i (by omega), Option.bind_some]
    generalize hG : updL _ _ _ = G
    exact crcb_l1 hlf s hs l (i + 1) _ G h hd (crcBits_lt 8 (Nat.xor_lt_two_pow (n := 32) hc (by have := byte_lt b; omega))) (by rw [← hG]; exact g2) (by rw [← hG]; exact g3.trans h1) (by rw [← hG]; exact g4.trans h8) (by rw [← hG]; rfl) k (by simp at hk; omega)
end

/-- What a function comes to, however deep the calls may go (from a depth on). -/
def ComesB (lf : Nat) (f : FuncId) (d : Nat) (args : List V) (h : Heap) (r : V × Heap) : Prop := ∀ k, run eb lf (k + d) false f args h = some r

theorem crcb_more_ok {lf : Nat} (hlf : 1000000 ≤ lf) (c : Nat) (hc : c < 4294967296) (s : List UInt8) (hs : s.length < lf) (hs' : s.length < 9223372036854775807) (h : Heap) : ComesB lf nb_crc_more 1 [.int .u32 c, .str s] h (.int .u32 (crcMore c s), h) := by
  intro k
  refine crcb_more_run ?_
  unfold crcb_more
  simp only [lenS_s]
  generalize hF : updL _ _ _ = F
  obtain ⟨f', g1, g2⟩ := crcb_l1 lf (run eb lf k) (fun o f h => blkK 0 o (crcb_more_j2 lf (run eb lf k) f (f 0) h) (seqK o (crcb_more_j2 lf (run eb lf k) f (f 0) h) (kRet eb [.tmp 4] o f h))) (by omega) s hs' s 0 c F h rfl hc (by rw [← hF]; rfl) (by rw [← hF]; rfl) (by rw [← hF]; rfl) (by rw [← hF]; rfl) lf hs
  rw [g1, blkK_e, if_pos rfl, crcb_more_j2, g2]
  rfl

theorem crcb_Sum_ok {lf : Nat} (hlf : 1000000 ≤ lf) (s : List UInt8) (hs : s.length < lf) (hs' : s.length < 9223372036854775807) (h : Heap) : ComesB lf nb_crc_Sum 2 [.str s] h (.int .i64 (crcSum s), h) := by
  intro k
  refine crcb_Sum_run ?_
  unfold crcb_Sum
  have := crcb_more_ok hlf 4294967295 (by omega) s hs hs' h k
  rw [show (V.int .u32 4294967295 : V) = .int .u32 ((4294967295 : Nat) : Int) from rfl, this, bindVH_s]
  have hl := crcMore_lt s (c := 4294967295) (by omega)
  have e : dUn .xor (.int .u32 (crcMore 4294967295 s)) = some (.int .u32 (crcSum s)) := by
    have := bits_xor (k := .u32) 4294967295 (crcMore 4294967295 s) (by decide) hl
    show dBits .u32 .xor _ _ = _
    rw [crcSum, Nat.xor_comm]
    exact this
  simp only [unK, e, Option.bind_some, cvI_i]
  have := crcSum_lt s
  rw [wrap_i64 (by omega) (by omega)]
  rfl
end Go.Zs
