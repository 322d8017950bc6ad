/- PartForms, evaluated, part 0. -/
import Derived.Test.YtohbahdfbgndbaaGreatLawPForms
import Derived.KernelRfl
set_option maxRecDepth 10000
set_option linter.unusedSimpArgs false
set_option linter.unusedVariables false
namespace Go.Zs
open Go Go.Proofs
theorem pforms_0_one (x0 x1 u : Int) (h1 : (intK .and (V.int .i64 x1) (V.int .i64 63) : (V → Option (V × Heap)) → Option (V × Heap)) = fun K => K (.int .i64 0)) (h5 : (cvI .u64 (V.int .i64 x0) : (V → Option (V × Heap)) → Option (V × Heap)) = fun K => K (.int .u64 u)) (h6 : (intK .rem (V.int .u64 u) (V.int .u64 6) : (V → Option (V × Heap)) → Option (V × Heap)) = fun K => K (.int .u64 0)) :
    isTrue (L9.furlonglaw19_PartForms 5000 (runC e1 5000 100) (.int .i64 x0) (.int .i64 x1) ⟨0, .leaf⟩) = true := by
  simp only [L9.furlonglaw19_PartForms, L9.furlonglaw19_PartForms_j1, h1, h5, h6]
  kernel_rfl
theorem pforms_0_big (r : Nat) (x0 x1 u : Int) (h1 : (intK .and (V.int .i64 x1) (V.int .i64 63) : (V → Option (V × Heap)) → Option (V × Heap)) = fun K => K (.int .i64 (.ofNat (r + 1)))) (h5 : (cvI .u64 (V.int .i64 x0) : (V → Option (V × Heap)) → Option (V × Heap)) = fun K => K (.int .u64 u)) (h6 : (intK .rem (V.int .u64 u) (V.int .u64 6) : (V → Option (V × Heap)) → Option (V × Heap)) = fun K => K (.int .u64 0)) (h2 : (intK .add (V.int .i64 1) (V.int .i64 (.ofNat (r + 1))) : (V → Option (V × Heap)) → Option (V × Heap)) = fun K => K (.int .i64 (.ofNat (r + 2)))) (h3 : (unK .neg (V.int .i64 (.ofNat (r + 2))) : (V → Option (V × Heap)) → Option (V × Heap)) = fun K => K (.int .i64 (.negSucc (r + 1)))) (h4 : (intK .sub (V.int .i64 (-1)) (V.int .i64 (.ofNat (r + 2))) : (V → Option (V × Heap)) → Option (V × Heap)) = fun K => K (.int .i64 (.negSucc (r + 2)))) (h7 : (intK .sub (V.int .i64 1) (V.int .i64 (.ofNat (r + 2))) : (V → Option (V × Heap)) → Option (V × Heap)) = fun K => K (.int .i64 (.negSucc (r + 0)))) (h8 : (intK .add (V.int .i64 7) (V.int .i64 (.ofNat (r + 2))) : (V → Option (V × Heap)) → Option (V × Heap)) = fun K => K (.int .i64 (.ofNat (r + 9)))) (h9 : (intK .add (V.int .i64 65535) (V.int .i64 (.ofNat (r + 2))) : (V → Option (V × Heap)) → Option (V × Heap)) = fun K => K (.int .i64 (.ofNat (r + 65537)))) :
    isTrue (L9.furlonglaw19_PartForms 5000 (runC e1 5000 100) (.int .i64 x0) (.int .i64 x1) ⟨0, .leaf⟩) = true := by
  simp only [L9.furlonglaw19_PartForms, L9.furlonglaw19_PartForms_j1, h1, h2, h3, h4, h7, h8, h9, h5, h6]
  kernel_rfl
theorem pforms_1_one (x0 x1 u : Int) (h1 : (intK .and (V.int .i64 x1) (V.int .i64 63) : (V → Option (V × Heap)) → Option (V × Heap)) = fun K => K (.int .i64 0)) (h5 : (cvI .u64 (V.int .i64 x0) : (V → Option (V × Heap)) → Option (V × Heap)) = fun K => K (.int .u64 u)) (h6 : (intK .rem (V.int .u64 u) (V.int .u64 6) : (V → Option (V × Heap)) → Option (V × Heap)) = fun K => K (.int .u64 1)) :
    isTrue (L9.furlonglaw19_PartForms 5000 (runC e1 5000 100) (.int .i64 x0) (.int .i64 x1) ⟨0, .leaf⟩) = true := by
  simp only [L9.furlonglaw19_PartForms, L9.furlonglaw19_PartForms_j1, h1, h5, h6]
  kernel_rfl
theorem pforms_1_big (r : Nat) (x0 x1 u : Int) (h1 : (intK .and (V.int .i64 x1) (V.int .i64 63) : (V → Option (V × Heap)) → Option (V × Heap)) = fun K => K (.int .i64 (.ofNat (r + 1)))) (h5 : (cvI .u64 (V.int .i64 x0) : (V → Option (V × Heap)) → Option (V × Heap)) = fun K => K (.int .u64 u)) (h6 : (intK .rem (V.int .u64 u) (V.int .u64 6) : (V → Option (V × Heap)) → Option (V × Heap)) = fun K => K (.int .u64 1)) (h2 : (intK .add (V.int .i64 1) (V.int .i64 (.ofNat (r + 1))) : (V → Option (V × Heap)) → Option (V × Heap)) = fun K => K (.int .i64 (.ofNat (r + 2)))) (h3 : (unK .neg (V.int .i64 (.ofNat (r + 2))) : (V → Option (V × Heap)) → Option (V × Heap)) = fun K => K (.int .i64 (.negSucc (r + 1)))) (h4 : (intK .sub (V.int .i64 (-1)) (V.int .i64 (.ofNat (r + 2))) : (V → Option (V × Heap)) → Option (V × Heap)) = fun K => K (.int .i64 (.negSucc (r + 2)))) (h7 : (intK .sub (V.int .i64 1) (V.int .i64 (.ofNat (r + 2))) : (V → Option (V × Heap)) → Option (V × Heap)) = fun K => K (.int .i64 (.negSucc (r + 0)))) (h8 : (intK .add (V.int .i64 7) (V.int .i64 (.ofNat (r + 2))) : (V → Option (V × Heap)) → Option (V × Heap)) = fun K => K (.int .i64 (.ofNat (r + 9)))) (h9 : (intK .add (V.int .i64 65535) (V.int .i64 (.ofNat (r + 2))) : (V → Option (V × Heap)) → Option (V × Heap)) = fun K => K (.int .i64 (.ofNat (r + 65537)))) :
    isTrue (L9.furlonglaw19_PartForms 5000 (runC e1 5000 100) (.int .i64 x0) (.int .i64 x1) ⟨0, .leaf⟩) = true := by
  simp only [L9.furlonglaw19_PartForms, L9.furlonglaw19_PartForms_j1, h1, h2, h3, h4, h7, h8, h9, h5, h6]
  kernel_rfl
end Go.Zs
