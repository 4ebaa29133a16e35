/- SX: a part of the proof of this claim; it stands under the statement's own conditions alone. -/
import Derived.Test.YtgbhiamfjikonaaGreatDoorSxBoots22
set_option maxRecDepth 100000
namespace Go.Proofs.YtgbhiamfjikonaaGreatDoor
open Go Go.SX Go.Proofs
theorem mk_P (K : FuncId → List AV → Hp Empty → Option (Tree (Ans Empty))) (r : FuncId → Nat → Nat → Nat) : (mk K r).P = Tryz.prog := by
  unfold mk; rfl
theorem boots_P (n : Int) : (cfgB n).P = Tryz.prog := mk_P _ _
theorem boots_fn : funcB Tryz.prog 4 = some Tryz.f4 := by kernel_rfl
theorem boots_body : Tryz.f4.body.isSome = true := by kernel_rfl
theorem boots_K (n h dtb : Int) : (cfgB n).K 4 [.int true .i64 h, .int true .u64 dtb] [] = none := by kernel_rfl
theorem boots_of (n h dtb : Int) (w : World) (e : prune (vtree SN.locs [] (callB' (cfgB n) SN.locs 1000 4 [.int true .i64 h, .int true .u64 dtb] [])) = bootsT n h dtb) (hn : clamp h = n) :
    Calls (cfgB n).P 4 (denL id [.int true .i64 h, .int true .u64 dtb]).toArray w fun e w' => e = .returned (.bool true) ∧ RowKit.Below w.heap.size w w' := by
  obtain ⟨c, hc⟩ := Option.isSome_iff_exists.1 boots_body
  have hfn : funcB (cfgB n).P 4 = some Tryz.f4 := by rw [boots_P]; exact boots_fn
  have hs : ∀ x ∈ [AV.int true .i64 h, AV.int true .u64 dtb], x.sc (vis ([] : Hp Empty)) = true := by simp [AV.sc]
  exact law_told (cfgB_ok n) 1000 (boots_K n h dtb) hfn hc hs e (bootsT_all n h dtb hn)
theorem boots_calls (h dtb : Int) (w : World) : Calls Tryz.prog 4 (denL id [.int true .i64 h, .int true .u64 dtb]).toArray w fun e w' => e = .returned (.bool true) ∧ RowKit.Below w.heap.size w w' := by
  rcases clamp_cases h with hn | hn | hn | hn | hn | hn | hn | hn
  · rw [← boots_P 1]; exact boots_of 1 h dtb w (boots1 h dtb) hn
  · rw [← boots_P 2]; exact boots_of 2 h dtb w (boots2 h dtb) hn
  · rw [← boots_P 3]; exact boots_of 3 h dtb w (boots3 h dtb) hn
  · rw [← boots_P 4]; exact boots_of 4 h dtb w (boots4 h dtb) hn
  · rw [← boots_P 5]; exact boots_of 5 h dtb w (boots5 h dtb) hn
  · rw [← boots_P 6]; exact boots_of 6 h dtb w (boots6 h dtb) hn
  · rw [← boots_P 7]; exact boots_of 7 h dtb w (boots7 h dtb) hn
  · rw [← boots_P 8]; exact boots_of 8 h dtb w (boots8 h dtb) hn
end Go.Proofs.YtgbhiamfjikonaaGreatDoor
