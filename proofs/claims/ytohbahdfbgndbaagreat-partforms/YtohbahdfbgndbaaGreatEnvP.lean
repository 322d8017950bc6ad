/- Part's seat: what is asked of the program, checked. -/
import Derived.Test.YtohbahdfbgndbaaGreatZsK3
import Derived.Test.YtohbahdfbgndbaaGreatRows
import Derived.KernelRfl
namespace Go.Zs
open Go Go.Proofs
noncomputable def ee : Env := { P := Tryz.prog, ext := fun f => if f = 180 then some .add else if f = 140 then some .load else if f = 241 then some .store else none, sum := fun _ => none, eqs := [28, 43, 220], fine := 2582249878086908589655919172003011874322117242468966758647380208467117877143350136203450873131930763841907545189933645823 }

theorem ee_size : Tryz.prog.funcs.size ≤ 400 := of_decide_eq_true (by decide +kernel)
theorem ee_body : BodyOK ee := bodyOK_of (n := 400) ee_size (by decide +kernel)
theorem ee_names : nameAll Tryz.prog 400 = true := by decide +kernel
theorem ee_eqs : (ee.eqs.all fun t => !Tryz.prog.stoodInHeld t && !Tryz.prog.eqGuardType Tryz.prog.depth t) = true := by decide +kernel
theorem ee_mixed : Tryz.prog.follows .mixedOrders = true := by decide +kernel
theorem ee_env : EnvOK ee where
  ext := by
    intro f e h
    simp only [ee] at h
    split at h
    · rename_i hf; cases h; subst hf
      exact ⟨Tryz.f180, by kernel_rfl, by kernel_rfl, by kernel_rfl, by kernel_rfl, by kernel_rfl⟩
    · split at h
      · rename_i hf; cases h; subst hf
        exact ⟨Tryz.f140, by kernel_rfl, by kernel_rfl, by kernel_rfl, by kernel_rfl, by kernel_rfl⟩
      · split at h
        · rename_i hf; cases h; subst hf
          exact ⟨Tryz.f241, by kernel_rfl, by kernel_rfl, by kernel_rfl, by kernel_rfl, by kernel_rfl⟩
        · cases h
  name := fun f fn h _ => nameAll_spec ee_names f (by have := (Array.getElem?_eq_some_iff.1 h).1; have := ee_size; exact Nat.lt_of_lt_of_le ‹_› ‹_›) fn h
  mixed := ee_mixed
  eqs := fun t ht => by
    have := List.all_eq_true.1 ee_eqs t ht
    show (Tryz.prog.stoodInHeld t = false) ∧ (Tryz.prog.eqGuardType Tryz.prog.depth t = false)
    simpa using this
theorem ee_sum : SumOK ee := sumOK_none fun _ => rfl
end Go.Zs
