/- PartAsked, evaluated at its four inputs. -/
import Derived.Test.YtohbahdfbgndbaaGreatEnvP
namespace Go.Zs
open Go Go.Proofs
theorem asked_tt : isTrue (runC eP 5000 100 false 3 [.bool true, .bool true] ⟨0, .leaf⟩) = true := by decide +kernel
theorem asked_tf : isTrue (runC eP 5000 100 false 3 [.bool true, .bool false] ⟨0, .leaf⟩) = true := by decide +kernel
theorem asked_ft : isTrue (runC eP 5000 100 false 3 [.bool false, .bool true] ⟨0, .leaf⟩) = true := by decide +kernel
theorem asked_ff : isTrue (runC eP 5000 100 false 3 [.bool false, .bool false] ⟨0, .leaf⟩) = true := by decide +kernel
end Go.Zs
