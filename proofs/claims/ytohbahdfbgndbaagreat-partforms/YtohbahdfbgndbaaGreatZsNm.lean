/- A law's numbers: the last bits, the remainder, sums with what is known; its call out of its typed form. -/
import Derived.Test.YtohbahdfbgndbaaGreatZsK3
import Derived.Test.YtohbahdfbgndbaaGreatZsL1
import Derived.Test.YtohbahdfbgndbaaGreatZsSm
namespace Go.Zs
open Go Go.RowKit

theorem and_mask (x : Int) (m : Nat) (hm : m < 4611686018427387904) : ∃ r : Nat, r ≤ m ∧ intOp .and .i64 x .i64 (m : Int) = some (.int .i64 (r : Int)) := by
  have hb : (BitVec.ofInt 64 (m : Int)).toNat = m := by
    rw [BitVec.toNat_ofInt]
    omega
  have hle : (BitVec.ofInt 64 x &&& BitVec.ofInt 64 (m : Int)).toNat ≤ m := by
    rw [BitVec.toNat_and, hb]
    exact Nat.and_le_right
  refine ⟨(BitVec.ofInt 64 x &&& BitVec.ofInt 64 (m : Int)).toNat, hle, ?_⟩
  show some (V.int .i64 (IntKind.i64.wrap ((BitVec.ofInt 64 x &&& BitVec.ofInt 64 (m : Int)).toNat : Int))) = _
  rw [wrap_i64 (by omega) (by omega)]

theorem int_fun {R : Type} {op : BinOp} {k : IntKind} {x m r : Int} (e : intOp op k x k m = some (.int k r)) : (intK op (V.int k x) (V.int k m) : (V → Option R) → Option R) = fun K => K (.int k r) := by
  funext K
  rw [intK_i, e]; rfl

theorem wrap_u64_nonneg (x : Int) : 0 ≤ IntKind.u64.wrap x := by
  unfold IntKind.wrap
  simp [IntKind.bits, IntKind.signed]
  omega

theorem rem_fun (x : Int) (m : Nat) (hm : 0 < m) : ∃ r : Nat, r < m ∧ ∀ R : Type, ((intK .rem (V.int .u64 (IntKind.u64.wrap x)) (V.int .u64 (m : Int)) : (V → Option R) → Option R) = fun K => K (.int .u64 (r : Int))) := by
  have h0 := wrap_u64_nonneg x
  have h1 : 0 ≤ (IntKind.u64.wrap x).tmod (m : Int) := Int.tmod_nonneg _ h0
  have h2 : (IntKind.u64.wrap x).tmod (m : Int) < m := Int.tmod_lt_of_pos _ (by omega)
  refine ⟨((IntKind.u64.wrap x).tmod (m : Int)).toNat, by omega, fun R => int_fun ?_⟩
  rw [io_rem, if_neg (by omega), Int.toNat_of_nonneg h1]

theorem add_fun {R : Type} (a : Nat) (r m : Nat) (hr : r < 1000) (hm : m < 1000) (ha : a < 1000000) : (intK .add (V.int .i64 (.ofNat a)) (V.int .i64 (.ofNat (r + m))) : (V → Option R) → Option R) = fun K => K (.int .i64 (.ofNat (r + (m + a)))) :=
  int_fun (by
    rw [io_add, wrap_i64 (by simp only [Int.ofNat_eq_natCast]; omega) (by simp only [Int.ofNat_eq_natCast]; omega)]
    congr 2; simp only [Int.ofNat_eq_natCast]; omega)
theorem add0_fun {R : Type} (a r : Nat) (hr : r < 100000) (ha : a < 1000000) : (intK .add (V.int .i64 (.ofNat a)) (V.int .i64 (.ofNat r)) : (V → Option R) → Option R) = fun K => K (.int .i64 (.ofNat (r + a))) :=
  int_fun (by
    rw [io_add, wrap_i64 (by simp only [Int.ofNat_eq_natCast]; omega) (by simp only [Int.ofNat_eq_natCast]; omega)]
    congr 2; simp only [Int.ofNat_eq_natCast]; omega)
theorem neg_fun {R : Type} (r m : Nat) (hr : r < 1000) (hm : m < 1000) : (unK .neg (V.int .i64 (.ofNat (r + (m + 1)))) : (V → Option R) → Option R) = fun K => K (.int .i64 (.negSucc (r + m))) := by
  funext K
  show K (.int .i64 (IntKind.i64.wrap (0 - Int.ofNat (r + (m + 1))))) = _
  have : (0 - Int.ofNat (r + (m + 1))) = Int.negSucc (r + m) := by rw [Int.negSucc_eq]; simp only [Int.ofNat_eq_natCast]; omega
  rw [this, wrap_i64 (by rw [Int.negSucc_eq]; omega) (by rw [Int.negSucc_eq]; omega)]
theorem sub_fun {R : Type} (a : Int) (r m n : Nat) (hr : r < 1000) (hm : m < 1000) (hn : n < 1000) (e : a + n + 1 = m) : (intK .sub (V.int .i64 a) (V.int .i64 (.ofNat (r + m))) : (V → Option R) → Option R) = fun K => K (.int .i64 (.negSucc (r + n))) :=
  int_fun (by
    have : (a - Int.ofNat (r + m)) = Int.negSucc (r + n) := by rw [Int.negSucc_eq]; simp only [Int.ofNat_eq_natCast]; omega
    rw [io_sub, this, wrap_i64 (by rw [Int.negSucc_eq]; omega) (by rw [Int.negSucc_eq]; omega)])

/-- The law's call, out of what its typed form is evaluated to. -/
theorem law_typed {E : Env} (hE : EnvOK E) (hB : BodyOK E) (hS : SumOK E) {f : FuncId} {args : List V} (args' : Array Value) (hv : VRs (fun _ => none) args args'.toList) {F : Option (V × Heap)} (hF : ∀ r, F = some r → run E 5000 101 false f args ⟨0, .leaf⟩ = some r) (ht : isTrue F = true) (W : World) :
    Calls E.P f args' W (fun e w' => e = .returned (.bool true) ∧ Below W.heap.size W w') := by
  obtain ⟨hp, hr⟩ := isTrue_some ht
  refine law_calls (lf := 5000) (k := 101) hE hB hS args' hv ?_ W
  rw [runC_eq, hF _ hr]
  rfl
end Go.Zs
