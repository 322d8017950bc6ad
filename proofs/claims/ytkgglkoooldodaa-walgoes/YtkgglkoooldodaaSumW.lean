/- Wal's seat: the check sum and what each law asks first, by summaries. -/
import Derived.Test.YtkgglkoooldodaaCrcW
import Derived.Test.YtkgglkoooldodaaSrtW
import Derived.Test.YtkgglkoooldodaaZsI6
set_option linter.unusedVariables false
set_option linter.unusedSimpArgs false
set_option linter.deprecated false
namespace Go.Zs
open Go Go.Proofs

def crcStepK (c : Nat) : Nat := bif Nat.beq (Nat.mod c 2) 1 then Nat.xor (Nat.div c 2) 3988292384 else Nat.div c 2
def crcByteK (c b : Nat) : Nat := crcStepK (crcStepK (crcStepK (crcStepK (crcStepK (crcStepK (crcStepK (crcStepK (Nat.xor c b))))))))
def forceN {α : Sort _} (n : Nat) (K : Nat → α) : α := @Nat.rec (fun _ => α) (K 0) (fun m _ => K (m + 1)) n
theorem forceN_eq {α : Sort _} (n : Nat) (K : Nat → α) : forceN n K = K n := by cases n <;> rfl
noncomputable def crcMoreK : List UInt8 → Nat → Nat
  | [], c => c
  | b :: l, c => forceN (crcByteK c b.toNat) fun c => crcMoreK l c
theorem crcStepK_eq (c : Nat) : crcStepK c = crcStep c := by
  unfold crcStepK crcStep
  by_cases h : c % 2 = 1
  · rw [if_pos h, show Nat.beq (Nat.mod c 2) 1 = true from T.beq_true h]; rfl
  · rw [if_neg h, show Nat.beq (Nat.mod c 2) 1 = false from T.beq_false h]; rfl
theorem crcByteK_eq (c b : Nat) : crcByteK c b = crcBits 8 (Nat.xor c b) := by
  unfold crcByteK
  rw [crcStepK_eq, crcStepK_eq, crcStepK_eq, crcStepK_eq, crcStepK_eq, crcStepK_eq, crcStepK_eq, crcStepK_eq]
  simp only [crcBits]
theorem crcMoreK_eq : ∀ (l : List UInt8) (c : Nat), crcMoreK l c = crcMore c l
  | [], c => by unfold crcMoreK crcMore; rfl
  | b :: l, c => by
    unfold crcMoreK crcMore
    rw [forceN_eq, crcMoreK_eq l, crcByteK_eq]
    rfl
noncomputable def sumCrc (args : List V) (h : Heap) : Option (V × Heap) :=
  match args with
  | [.str s] => bif Nat.blt s.length 1000000 then forceN (Nat.xor (crcMoreK s 4294967295) 4294967295) fun c => some (.int .i64 (.ofNat c), h) else none
  | _ => none
def sumTrue (args : List V) (h : Heap) : Option (V × Heap) := match args with | [] => some (.bool true, h) | _ => none

noncomputable def e0 : Env := { eb with loose := true, sum := fun f => if f = nb_crc_Sum then some sumCrc else if f = 49 then some (sumSorted [64]) else none }
noncomputable def ee : Env := { eb with sum := fun f => if f = nb_crc_Sum then some sumCrc else if f = 49 then some (sumSorted [64]) else if f = 7 then some sumTrue else none }

theorem sumCrc_at (args : List V) (h : Heap) (r : V × Heap) (hr : sumCrc args h = some r) : SumAt eb nb_crc_Sum args h r := by
  unfold sumCrc at hr
  split at hr
  · rename_i s
    obtain ⟨h1, h2⟩ := ite_some hr
    rw [forceN_eq] at h2
    cases h2
    have hs : s.length < 1000000 := Nat.le_of_ble_eq_true h1
    have := crcb_Sum_ok (lf := 1000000) (Nat.le_refl _) s hs (by omega) h 0
    rw [crcMoreK_eq]
    exact sumAt_run eb_env eb_body eb_sum this
  · cases hr

theorem sumSorted_ok (args : List V) (h : Heap) (r : V × Heap) (hr : sumSorted [64] args h = some r) : SumAt eb 49 args h r :=
  sumSorted_at ⟨Try.f49, by kernel_rfl, by kernel_rfl⟩ (fun g hg => by rw [List.mem_singleton.1 hg]; exact sortedOK) args h r hr

theorem e0_env : EnvOK e0 := ⟨eb_env.ext, eb_env.name, eb_env.mixed, eb_env.eqs⟩
theorem e0_body : BodyOK e0 := BodyOK.with (E := eb) (E' := e0) rfl rfl eb_body
theorem e0_sum : SumOK e0 := by
  intro f g hg args h r hr
  simp only [e0] at hg
  split at hg
  · rename_i hf
    cases hg; subst hf
    exact sumAt_P (E := eb) (E' := e0) rfl (sumCrc_at args h r hr)
  · split at hg
    · rename_i hf
      cases hg; subst hf
      exact sumAt_P (E := eb) (E' := e0) rfl (sumSorted_ok args h r hr)
    · cases hg

theorem awake_true : isTrue (runC e0 5000 100 false 7 [] ⟨0, .leaf⟩) = true := by decide +kernel

theorem ee_env : EnvOK ee := ⟨eb_env.ext, eb_env.name, eb_env.mixed, eb_env.eqs⟩
theorem ee_body : BodyOK ee := BodyOK.with (E := eb) (E' := ee) rfl rfl eb_body
theorem ee_sum : SumOK ee := by
  intro f g hg args h r hr
  simp only [ee] at hg
  split at hg
  · rename_i hf
    cases hg; subst hf
    exact sumAt_P (E := eb) (E' := ee) rfl (sumCrc_at args h r hr)
  · split at hg
    · rename_i hf
      cases hg; subst hf
      exact sumAt_P (E := eb) (E' := ee) rfl (sumSorted_ok args h r hr)
    · split at hg
      · rename_i hf
        cases hg; subst hf
        unfold sumTrue at hr
        split at hr
        · cases hr
          exact sumAt_P (E := e0) (E' := ee) rfl (sumAt_closed e0_env e0_body e0_sum awake_true h)
        · cases hr
      · cases hg
/-- A check sum, a law's first question: at any fuel. -/
theorem crcSum_run {lf k : Nat} {s : List UInt8} (hs : s.length < 1000000) (h : Heap) : run ee lf (k + 1) false nb_crc_Sum [.str s] h = some (.int .i64 (crcSum s), h) := by
  show sumCrc [.str s] h = _
  unfold sumCrc
  simp only [show Nat.blt s.length 1000000 = true from Nat.ble_eq_true_of_le hs, cond_true, forceN_eq, crcMoreK_eq]
  rfl
theorem awake_run {lf k : Nat} (h : Heap) : run ee lf (k + 1) false 7 [] h = some (.bool true, h) := rfl
end Go.Zs
