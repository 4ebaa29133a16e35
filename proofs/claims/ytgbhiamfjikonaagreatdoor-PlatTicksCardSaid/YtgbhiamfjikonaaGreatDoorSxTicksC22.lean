/- SX: a part of the proof of this claim; it stands under the statement's own conditions alone. -/
import Derived.Test.YtgbhiamfjikonaaGreatDoorSxTicksL22
set_option maxRecDepth 100000
set_option linter.unusedVariables false
namespace Go.Proofs.YtgbhiamfjikonaaGreatDoor
open Go Go.SX Go.Proofs
theorem pre_ticks (a : Nat → Int) (off n c lo m : Nat) (h1 : lo ≤ off) (h2 : off + n ≤ m) : preL (ticksEnv a off n c lo m) = true := by
  have e : preL (ticksEnv a off n c lo m) = ((0 : Int) == 0 && (upto8 (fun j => a j == a j) && (upto8 (fun _ => (0 : Int) == 0 || (0 : Int) == 32) && (Nat.ble lo off && Nat.ble (off + n) m)))) := by kernel_rfl
  rw [e, Nat.ble_eq_true_of_le h1, Nat.ble_eq_true_of_le h2]
  simp [upto8]
theorem cfgF_P : cfgF.P = Tryz.prog := by unfold cfgF mkL; rfl
theorem ticks_K (a : Nat → Int) (off n c lo m : Nat) (g : Nat → Int) (o : Obj) : cfgF.K 5 [times a, .slice true 0 off 1 n c] [.view .u64 lo m g o] = none := by kernel_rfl
theorem ticks_sc (a : Nat → Int) (off n c lo m : Nat) (g : Nat → Int) (o : Obj) : ∀ x ∈ [times a, .slice true 0 off 1 n c], x.sc (vis ([.view .u64 lo m g o] : Hp Empty)) = true := by
  intro x hx
  simp only [List.mem_cons, List.not_mem_nil, or_false] at hx
  rcases hx with rfl | rfl <;> rfl
theorem ticks_calls (a : Nat → Int) (off n c lo m : Nat) (g : Nat → Int) (o : Obj) (b : Nat) (w : World) (h1 : lo ≤ off) (h2 : off + n ≤ m) (hb : w.heap[b]? = some o)
    (ho : ∃ arr e fz, o = .cells arr e fz ∧ ∀ i, lo ≤ i → i < m → arr[i]? = some (.int .u64 (g i))) :
    Calls Tryz.prog 5 (denL (fun _ => b) [times a, .slice true 0 off 1 n c]).toArray w fun e w' => e = .returned (.bool true) ∧ RowKit.Below w.heap.size w w' := by
  obtain ⟨cd, hc⟩ := Option.isSome_iff_exists.1 f5_some
  have hfn : funcB cfgF.P 5 = some Tryz.f5 := by rw [cfgF_P]; exact f5_fn
  have hT : (Tree.ite (preL (ticksEnv a off n c lo m)) (.leaf ()) (.stuck 8) : Tree Unit).all fun _ => True := by
    rw [pre_ticks a off n c lo m h1 h2]
    exact ⟨fun _ => trivial, fun h => by cases h⟩
  have := law_view cfgF_ok 1000 (w := w) hb ho (ticks_K a off n c lo m g o) hfn hc (ticks_sc a off n c lo m g o) (ticks_eq a off n c lo m g o) hT
  rw [cfgF_P] at this
  exact this
theorem ticks_nil (a : Nat → Int) : prune (vtree SN.locs [] (callB' cfgF SN.locs 1000 5 [times a, .nils] [])) = .leaf () := by kernel_rfl
theorem ticks_raw (a : Nat → Int) (p : Option Addr) : prune (vtree SN.locs [] (callB' cfgF SN.locs 1000 5 [times a, .raw (.slice p 0 0)] [])) = .leaf () := by kernel_rfl
theorem ticks_nilK (a : Nat → Int) : cfgF.K 5 [times a, .nils] [] = none := by kernel_rfl
theorem ticks_rawK (a : Nat → Int) (p : Option Addr) : cfgF.K 5 [times a, .raw (.slice p 0 0)] [] = none := by kernel_rfl
theorem ticks_none (a : Nat → Int) (p : Option Addr) (w : World) :
    Calls Tryz.prog 5 (denL id [times a, .raw (.slice p 0 0)]).toArray w fun e w' => e = .returned (.bool true) ∧ RowKit.Below w.heap.size w w' := by
  obtain ⟨cd, hc⟩ := Option.isSome_iff_exists.1 f5_some
  have hfn : funcB cfgF.P 5 = some Tryz.f5 := by rw [cfgF_P]; exact f5_fn
  have hs : ∀ x ∈ [times a, AV.raw (.slice p 0 0)], x.sc (vis ([] : Hp Empty)) = true := by
    intro x hx
    simp only [List.mem_cons, List.not_mem_nil, or_false] at hx
    rcases hx with rfl | rfl <;> rfl
  have := law_told cfgF_ok 1000 (w := w) (ticks_rawK a p) hfn hc hs (ticks_raw a p) trivial
  rw [cfgF_P] at this
  exact this
end Go.Proofs.YtgbhiamfjikonaaGreatDoor
