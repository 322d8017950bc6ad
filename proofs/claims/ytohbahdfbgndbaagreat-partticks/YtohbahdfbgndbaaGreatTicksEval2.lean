/- PartTicks, evaluated, part 2. -/
import Derived.Test.YtohbahdfbgndbaaGreatTicksBase
import Derived.KernelRfl
namespace Go.Zs
open Go Go.Proofs
theorem ticks_4_true (gap : Int) (e : (intK .and (V.int .i64 gap) (V.int .i64 7) : (V → Option (V × Heap)) → Option (V × Heap)) = fun K => K (.int .i64 4)) : isTrue (L7.furlonglaw19_PartTicks 5000 (runC e1 5000 100) (.int .i64 gap) (.bool true) ⟨0, .leaf⟩) = true := by
  unfold L7.furlonglaw19_PartTicks
  rw [e]
  kernel_rfl
theorem ticks_4_false (gap : Int) (e : (intK .and (V.int .i64 gap) (V.int .i64 7) : (V → Option (V × Heap)) → Option (V × Heap)) = fun K => K (.int .i64 4)) : isTrue (L7.furlonglaw19_PartTicks 5000 (runC e1 5000 100) (.int .i64 gap) (.bool false) ⟨0, .leaf⟩) = true := by
  unfold L7.furlonglaw19_PartTicks
  rw [e]
  kernel_rfl
theorem ticks_5_true (gap : Int) (e : (intK .and (V.int .i64 gap) (V.int .i64 7) : (V → Option (V × Heap)) → Option (V × Heap)) = fun K => K (.int .i64 5)) : isTrue (L7.furlonglaw19_PartTicks 5000 (runC e1 5000 100) (.int .i64 gap) (.bool true) ⟨0, .leaf⟩) = true := by
  unfold L7.furlonglaw19_PartTicks
  rw [e]
  kernel_rfl
theorem ticks_5_false (gap : Int) (e : (intK .and (V.int .i64 gap) (V.int .i64 7) : (V → Option (V × Heap)) → Option (V × Heap)) = fun K => K (.int .i64 5)) : isTrue (L7.furlonglaw19_PartTicks 5000 (runC e1 5000 100) (.int .i64 gap) (.bool false) ⟨0, .leaf⟩) = true := by
  unfold L7.furlonglaw19_PartTicks
  rw [e]
  kernel_rfl
end Go.Zs
