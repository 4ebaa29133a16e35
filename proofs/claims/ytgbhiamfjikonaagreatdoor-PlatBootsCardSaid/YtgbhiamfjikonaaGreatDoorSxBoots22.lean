/- SX: a part of the proof of this claim; it stands under the statement's own conditions alone. -/
import Derived.Test.YtgbhiamfjikonaaGreatDoorSxHsm22
set_option maxRecDepth 100000
namespace Go.Proofs.YtgbhiamfjikonaaGreatDoor
open Go Go.SX Go.Proofs
def bootsT (n h dtb : Int) : Tree Unit :=
  .ite (decide (clamp h = n)) (.ite (n != clamp h) (.stuck 162) (.ite (!(true && (true && (true && (true && (true && (true && (true && (true && (true && (true && (true && (dtb == dtb && true))))))))))) && true)) (.stuck 162) (.leaf ()))) (.stuck 7)
set_option maxHeartbeats 4000000 in
theorem boots1 (h dtb : Int) : prune (vtree SN.locs [] (callB' (cfgB 1) SN.locs 1000 4 [.int true .i64 h, .int true .u64 dtb] [])) = bootsT 1 h dtb := by kernel_rfl
set_option maxHeartbeats 4000000 in
theorem boots2 (h dtb : Int) : prune (vtree SN.locs [] (callB' (cfgB 2) SN.locs 1000 4 [.int true .i64 h, .int true .u64 dtb] [])) = bootsT 2 h dtb := by kernel_rfl
set_option maxHeartbeats 4000000 in
theorem boots3 (h dtb : Int) : prune (vtree SN.locs [] (callB' (cfgB 3) SN.locs 1000 4 [.int true .i64 h, .int true .u64 dtb] [])) = bootsT 3 h dtb := by kernel_rfl
set_option maxHeartbeats 4000000 in
theorem boots4 (h dtb : Int) : prune (vtree SN.locs [] (callB' (cfgB 4) SN.locs 1000 4 [.int true .i64 h, .int true .u64 dtb] [])) = bootsT 4 h dtb := by kernel_rfl
set_option maxHeartbeats 4000000 in
theorem boots5 (h dtb : Int) : prune (vtree SN.locs [] (callB' (cfgB 5) SN.locs 1000 4 [.int true .i64 h, .int true .u64 dtb] [])) = bootsT 5 h dtb := by kernel_rfl
set_option maxHeartbeats 4000000 in
theorem boots6 (h dtb : Int) : prune (vtree SN.locs [] (callB' (cfgB 6) SN.locs 1000 4 [.int true .i64 h, .int true .u64 dtb] [])) = bootsT 6 h dtb := by kernel_rfl
set_option maxHeartbeats 4000000 in
theorem boots7 (h dtb : Int) : prune (vtree SN.locs [] (callB' (cfgB 7) SN.locs 1000 4 [.int true .i64 h, .int true .u64 dtb] [])) = bootsT 7 h dtb := by kernel_rfl
set_option maxHeartbeats 4000000 in
theorem boots8 (h dtb : Int) : prune (vtree SN.locs [] (callB' (cfgB 8) SN.locs 1000 4 [.int true .i64 h, .int true .u64 dtb] [])) = bootsT 8 h dtb := by kernel_rfl
theorem bootsT_all (n h dtb : Int) (hn : clamp h = n) : (bootsT n h dtb).all fun _ => True := by
  subst hn
  simp [bootsT, Tree.all]
theorem clamp_cases (h : Int) : clamp h = 1 ∨ clamp h = 2 ∨ clamp h = 3 ∨ clamp h = 4 ∨ clamp h = 5 ∨ clamp h = 6 ∨ clamp h = 7 ∨ clamp h = 8 := by
  unfold clamp; split <;> split at * <;> omega
end Go.Proofs.YtgbhiamfjikonaaGreatDoor
