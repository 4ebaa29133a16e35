/- SX: a part of the proof of this claim; it stands under the statement's own conditions alone. -/
import Derived.Test.YtgbhiamfjikonaaGreatDoorSxLaw22d
import Derived.Test.YtgbhiamfjikonaaGreatDoorSxLawV
set_option maxRecDepth 100000
set_option linter.unusedVariables false
namespace Go.Proofs.YtgbhiamfjikonaaGreatDoor
open Go Go.SX Go.Proofs
def times (a : Nat → Int) : AV := .agg [.int true .u64 (a 0), .int true .u64 (a 1), .int true .u64 (a 2), .int true .u64 (a 3), .int true .u64 (a 4), .int true .u64 (a 5), .int true .u64 (a 6), .int true .u64 (a 7)]
def ticksEnv (a : Nat → Int) (off n c lo m : Nat) : Env :=
  ⟨fun h => cond (Nat.blt h 1001) 0 (cond (Nat.blt h 1009) (a (h - 1001)) (a (h - 2000))), fun _ => false, fun h => selN [off, n, c, lo, m] h, fun _ _ => true, fun _ _ => 0, fun _ => default⟩
where selN : List Nat → Nat → Nat
  | [], _ => 0
  | x :: _, 0 => x
  | _ :: l, i + 1 => selN l i
theorem ticks_eq (a : Nat → Int) (off n c lo m : Nat) (g : Nat → Int) (o : Obj) :
    prune (vtree SN.locs [.view .u64 lo m g o] (guardM (fun l => Nat.beq l 0) (callB' cfgF SN.locs 1000 5 [times a, .slice true 0 off 1 n c] [.view .u64 lo m g o]))) = .ite (preL (ticksEnv a off n c lo m)) (.leaf ()) (.stuck 8) := by kernel_rfl
end Go.Proofs.YtgbhiamfjikonaaGreatDoor
