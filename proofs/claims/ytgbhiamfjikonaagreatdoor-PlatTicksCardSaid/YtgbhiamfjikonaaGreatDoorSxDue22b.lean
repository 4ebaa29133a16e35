/- SX: a part of the proof of this claim; it stands under the statement's own conditions alone. -/
import Derived.Test.YtgbhiamfjikonaaGreatDoorSxDue22
set_option maxRecDepth 100000
namespace Go.Proofs.YtgbhiamfjikonaaGreatDoor
open Go Go.SX Go.Proofs
theorem due8_0 (E : Env) : dueRun 8 0 E = dueT 8 0 E := by kernel_rfl
theorem due8_1 (E : Env) : dueRun 8 1 E = dueT 8 1 E := by kernel_rfl
theorem due8_2 (E : Env) : dueRun 8 2 E = dueT 8 2 E := by kernel_rfl
theorem due8_3 (E : Env) : dueRun 8 3 E = dueT 8 3 E := by kernel_rfl
theorem due8_4 (E : Env) : dueRun 8 4 E = dueT 8 4 E := by kernel_rfl
theorem due8_5 (E : Env) : dueRun 8 5 E = dueT 8 5 E := by kernel_rfl
theorem due8_6 (E : Env) : dueRun 8 6 E = dueT 8 6 E := by kernel_rfl
theorem due8_7 (E : Env) : dueRun 8 7 E = dueT 8 7 E := by kernel_rfl
theorem due8_8 (E : Env) : dueRun 8 8 E = .leaf (.exit 0, dueFr 8 8, ⟨instH E (platT 8), []⟩) := by kernel_rfl
end Go.Proofs.YtgbhiamfjikonaaGreatDoor
