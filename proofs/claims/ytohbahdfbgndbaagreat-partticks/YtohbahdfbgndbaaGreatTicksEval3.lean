/- PartTicks, evaluated, part 3. -/
import Derived.Test.YtohbahdfbgndbaaGreatTicksBase
import Derived.KernelRfl
namespace Go.Zs
open Go Go.Proofs
theorem ticks_6_true (gap : Int) (e : (intK .and (V.int .i64 gap) (V.int .i64 7) : (V → Option (V × Heap)) → Option (V × Heap)) = fun K => K (.int .i64 6)) : isTrue (L7.furlonglaw19_PartTicks 5000 (runC e1 5000 100) (.int .i64 gap) (.bool true) ⟨0, .leaf⟩) = true := by
  unfold L7.furlonglaw19_PartTicks
  rw [e]
  kernel_rfl
theorem ticks_6_false (gap : Int) (e : (intK .and (V.int .i64 gap) (V.int .i64 7) : (V → Option (V × Heap)) → Option (V × Heap)) = fun K => K (.int .i64 6)) : isTrue (L7.furlonglaw19_PartTicks 5000 (runC e1 5000 100) (.int .i64 gap) (.bool false) ⟨0, .leaf⟩) = true := by
  unfold L7.furlonglaw19_PartTicks
  rw [e]
  kernel_rfl
theorem ticks_7_true (gap : Int) (e : (intK .and (V.int .i64 gap) (V.int .i64 7) : (V → Option (V × Heap)) → Option (V × Heap)) = fun K => K (.int .i64 7)) : isTrue (L7.furlonglaw19_PartTicks 5000 (runC e1 5000 100) (.int .i64 gap) (.bool true) ⟨0, .leaf⟩) = true := by
  unfold L7.furlonglaw19_PartTicks
  rw [e]
  kernel_rfl
theorem ticks_7_false (gap : Int) (e : (intK .and (V.int .i64 gap) (V.int .i64 7) : (V → Option (V × Heap)) → Option (V × Heap)) = fun K => K (.int .i64 7)) : isTrue (L7.furlonglaw19_PartTicks 5000 (runC e1 5000 100) (.int .i64 gap) (.bool false) ⟨0, .leaf⟩) = true := by
  unfold L7.furlonglaw19_PartTicks
  rw [e]
  kernel_rfl
end Go.Zs
