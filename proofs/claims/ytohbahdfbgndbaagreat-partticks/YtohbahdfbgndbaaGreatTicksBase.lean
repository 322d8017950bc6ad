/- A number's last bits; PartTicks as a call, out of its typed form. -/
import Derived.Test.YtohbahdfbgndbaaGreatLawTicks
import Derived.Test.YtohbahdfbgndbaaGreatZsL1
namespace Go.Zs
open Go Go.Proofs Go.RowKit

theorem and_mask (x : Int) (m : Nat) (hm : m < 4611686018427387904) : ∃ r : Nat, r ≤ m ∧ intOp .and .i64 x .i64 (m : Int) = some (.int .i64 (r : Int)) := by
  have hb : (BitVec.ofInt 64 (m : Int)).toNat = m := by
    rw [BitVec.toNat_ofInt]
    omega
  have hle : (BitVec.ofInt 64 x &&& BitVec.ofInt 64 (m : Int)).toNat ≤ m := by
    rw [BitVec.toNat_and, hb]
    exact Nat.and_le_right
  refine ⟨(BitVec.ofInt 64 x &&& BitVec.ofInt 64 (m : Int)).toNat, hle, ?_⟩
  show some (V.int .i64 (IntKind.i64.wrap ((BitVec.ofInt 64 x &&& BitVec.ofInt 64 (m : Int)).toNat : Int))) = _
  rw [wrap_i64 (by omega) (by omega)]

theorem mask_fun {R : Type} {x : Int} {m r : Int} (e : intOp .and .i64 x .i64 m = some (.int .i64 r)) : (intK .and (V.int .i64 x) (V.int .i64 m) : (V → Option R) → Option R) = fun K => K (.int .i64 r) := by
  funext K
  rw [intK_i, e]; rfl

/-- The law's call, out of what its typed form is evaluated to. -/
theorem law_typed {f : FuncId} {args : List V} (args' : Array Value) (hv : VRs (fun _ => none) args args'.toList) {F : Option (V × Heap)} (hF : ∀ r, F = some r → run e1 5000 101 false f args ⟨0, .leaf⟩ = some r) (ht : isTrue F = true) (W : World) :
    Calls e1.P f args' W (fun e w' => e = .returned (.bool true) ∧ Below W.heap.size W w') := by
  obtain ⟨hp, hr⟩ := isTrue_some ht
  refine law_calls (lf := 5000) (k := 101) e1_env e1_body e1_sum args' hv ?_ W
  rw [runC_eq, hF _ hr]
  rfl
end Go.Zs
