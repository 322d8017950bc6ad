/- Wal's seat: what is asked of the program, checked. -/
import Derived.Test.YtkgglkoooldodaaZsI5
import Derived.Test.YtkgglkoooldodaaRows
import Derived.KernelRfl
set_option linter.unusedVariables false
set_option linter.unusedSimpArgs false
set_option linter.deprecated false
namespace Go.Zs
open Go Go.Proofs
noncomputable def eb : Env := { P := Try.prog, ext := fun f => if f = 54 then some .add else if f = 55 then some .load else if f = 75 then some .store else none, sum := fun _ => none, eqs := [], fine := 2 ^ 113 - 1 }

theorem eb_size : Try.prog.funcs.size ≤ 113 := of_decide_eq_true (by decide +kernel)
theorem eb_body : BodyOK eb := bodyOK_of (n := 113) eb_size (by decide +kernel)
theorem eb_names : nameAll Try.prog 113 = true := by decide +kernel
theorem eb_mixed : Try.prog.follows .mixedOrders = true := by decide +kernel
theorem eb_env : EnvOK eb where
  ext := by
    intro f e h
    simp only [eb] at h
    split at h
    · rename_i hf; cases h; subst hf
      exact ⟨Try.f54, by kernel_rfl, by kernel_rfl, by kernel_rfl, by kernel_rfl, by kernel_rfl⟩
    · split at h
      · rename_i hf; cases h; subst hf
        exact ⟨Try.f55, by kernel_rfl, by kernel_rfl, by kernel_rfl, by kernel_rfl, by kernel_rfl⟩
      · split at h
        · rename_i hf; cases h; subst hf
          exact ⟨Try.f75, by kernel_rfl, by kernel_rfl, by kernel_rfl, by kernel_rfl, by kernel_rfl⟩
        · cases h
  name := fun f fn h _ => nameAll_spec eb_names f (by have := (Array.getElem?_eq_some_iff.1 h).1; have := eb_size; exact Nat.lt_of_lt_of_le ‹_› ‹_›) fn h
  mixed := eb_mixed
  eqs := fun t ht => by cases ht
theorem eb_sum : SumOK eb := sumOK_none fun _ => rfl
end Go.Zs
