/- Part's seat: the check sum and what each law asks first, by summaries. -/
import Derived.Test.YtohbahdfbgndbaaGreatCrcP
import Derived.Test.YtohbahdfbgndbaaGreatZsSm
namespace Go.Zs
open Go Go.Proofs

def crcStepK (c : Nat) : Nat := bif Nat.beq (Nat.mod c 2) 1 then Nat.xor (Nat.div c 2) 3988292384 else Nat.div c 2
def crcByteK (c b : Nat) : Nat := crcStepK (crcStepK (crcStepK (crcStepK (crcStepK (crcStepK (crcStepK (crcStepK (Nat.xor c b))))))))
def forceN {α : Sort _} (n : Nat) (K : Nat → α) : α := @Nat.rec (fun _ => α) (K 0) (fun m _ => K (m + 1)) n
theorem forceN_eq {α : Sort _} (n : Nat) (K : Nat → α) : forceN n K = K n := by cases n <;> rfl
noncomputable def crcMoreK : List UInt8 → Nat → Nat
  | [], c => c
  | b :: l, c => forceN (crcByteK c b.toNat) fun c => crcMoreK l c
theorem crcStepK_eq (c : Nat) : crcStepK c = crcStep c := by
  unfold crcStepK crcStep
  by_cases h : c % 2 = 1
  · rw [if_pos h, show Nat.beq (Nat.mod c 2) 1 = true from T.beq_true h]; rfl
  · rw [if_neg h, show Nat.beq (Nat.mod c 2) 1 = false from T.beq_false h]; rfl
theorem crcByteK_eq (c b : Nat) : crcByteK c b = crcBits 8 (Nat.xor c b) := by
  unfold crcByteK
  rw [crcStepK_eq, crcStepK_eq, crcStepK_eq, crcStepK_eq, crcStepK_eq, crcStepK_eq, crcStepK_eq, crcStepK_eq]
  simp only [crcBits]
theorem crcMoreK_eq : ∀ (l : List UInt8) (c : Nat), crcMoreK l c = crcMore c l
  | [], c => by unfold crcMoreK crcMore; rfl
  | b :: l, c => by
    unfold crcMoreK crcMore
    rw [forceN_eq, crcMoreK_eq l, crcByteK_eq]
    rfl
noncomputable def sumCrc (args : List V) (h : Heap) : Option (V × Heap) :=
  match args with
  | [.str s] => bif Nat.blt s.length 1000000 then forceN (Nat.xor (crcMoreK s 4294967295) 4294967295) fun c => some (.int .i64 (.ofNat c), h) else none
  | _ => none
def sumTrue (args : List V) (h : Heap) : Option (V × Heap) := match args with | [] => some (.bool true, h) | _ => none

noncomputable def e0 : Env := { ee with loose := true, sum := fun f => if f = n_crc_Sum then some sumCrc else none }
noncomputable def e1 : Env := { ee with loose := true, sum := fun f => if f = n_crc_Sum then some sumCrc else if f = 12 then some sumTrue else none }

theorem sumCrc_at (args : List V) (h : Heap) (r : V × Heap) (hr : sumCrc args h = some r) : SumAt ee n_crc_Sum args h r := by
  unfold sumCrc at hr
  split at hr
  · rename_i s
    obtain ⟨h1, h2⟩ := ite_some hr
    rw [forceN_eq] at h2
    cases h2
    have hs : s.length < 1000000 := Nat.le_of_ble_eq_true h1
    have := crc_Sum_ok (lf := 1000000) (Nat.le_refl _) s hs (by omega) h 0
    rw [crcMoreK_eq]
    exact sumAt_run ee_env ee_body ee_sum this
  · cases hr

theorem e0_env : EnvOK e0 := ⟨ee_env.ext, ee_env.name, ee_env.mixed, ee_env.eqs⟩
theorem e0_body : BodyOK e0 := BodyOK.with (E := ee) (E' := e0) rfl rfl ee_body
theorem e0_sum : SumOK e0 := by
  intro f g hg args h r hr
  simp only [e0] at hg
  split at hg
  · rename_i hf
    cases hg; subst hf
    exact sumAt_P (E := ee) (E' := e0) rfl (sumCrc_at args h r hr)
  · cases hg

theorem awake_true : isTrue (runC e0 5000 100 false 12 [] ⟨0, .leaf⟩) = true := by decide +kernel

theorem e1_env : EnvOK e1 := ⟨ee_env.ext, ee_env.name, ee_env.mixed, ee_env.eqs⟩
theorem e1_body : BodyOK e1 := BodyOK.with (E := ee) (E' := e1) rfl rfl ee_body
theorem e1_sum : SumOK e1 := by
  intro f g hg args h r hr
  simp only [e1] at hg
  split at hg
  · rename_i hf
    cases hg; subst hf
    exact sumAt_P (E := ee) (E' := e1) rfl (sumCrc_at args h r hr)
  · split at hg
    · rename_i hf
      cases hg; subst hf
      unfold sumTrue at hr
      split at hr
      · cases hr
        exact sumAt_P (E := e0) (E' := e1) rfl (sumAt_closed e0_env e0_body e0_sum awake_true h)
      · cases hr
    · cases hg
end Go.Zs
