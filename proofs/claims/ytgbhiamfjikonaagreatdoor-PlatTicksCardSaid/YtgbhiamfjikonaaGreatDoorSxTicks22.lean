/- SX: a part of the proof of this claim; it stands under the statement's own conditions alone. -/
import Derived.Test.YtgbhiamfjikonaaGreatDoorSxDue22c
import Derived.Test.YtgbhiamfjikonaaGreatDoorSxCfg
set_option maxRecDepth 100000
set_option linter.unusedVariables false
namespace Go.Proofs.YtgbhiamfjikonaaGreatDoor
open Go Go.SX Go.Proofs
def dueK : LoopK Empty := ⟨33, 1, ⟨44, [(0, .one (.ptr 0)), (7, .one (.own 2 3 1 8)), (8, .one (.num .i64 8)), (9, .one (.num .i64 0))], platT 8, fun _ E => dueOut E⟩⟩
theorem f33_some : Tryz.f33.body.isSome = true := by kernel_rfl
theorem f33_fn : funcB Tryz.prog 33 = some Tryz.f33 := by kernel_rfl
def bodyOf (f : Func) : Code := match f.body with | some c => c | none => .skip
theorem f33_loops : loopsOf (bodyOf Tryz.f33) = [dueBody] := by kernel_rfl
theorem cfgA_P : cfgA.P = Tryz.prog := by unfold cfgA mk; rfl
theorem dueK_ok : dueK.ok Tryz.prog SN := by
  refine ⟨by kernel_rfl, fun fn code hfn hc b hb hk q E => ?_⟩
  have e : fn = Tryz.f33 := Option.some.inj (hfn.symm.trans f33_fn)
  rw [e] at hc
  have e2 : bodyOf Tryz.f33 = code := by unfold bodyOf; rw [hc]
  rw [← e2, f33_loops, List.mem_singleton] at hb
  rw [hb, ← cfgA_P]
  exact due_loop E
noncomputable def mkL (K : FuncId → List AV → Hp Empty → Option (Tree (Ans Empty))) (l : List (LoopK Empty)) (r : FuncId → Nat → Nat → Nat) : Cfg Empty :=
  ⟨Tryz.prog, K, loopK SN.locs l, 32, okt, r⟩
theorem mkL_ok {K : FuncId → List AV → Hp Empty → Option (Tree (Ans Empty))} (hK : KOK Tryz.prog SN K) {l : List (LoopK Empty)} (hl : ∀ c ∈ l, c.ok Tryz.prog SN) (r : FuncId → Nat → Nat → Nat) : CfgOK SN (mkL K l r) where
  okt := okt_ok
  K := hK
  loop := loopK_ok SN_locs hl
  mixed := prog_mixed
  name := prog_name
theorem dues_ok : ∀ c ∈ [dueK], c.ok Tryz.prog SN := by
  intro c hc
  rw [List.mem_singleton] at hc
  rw [hc]; exact dueK_ok
noncomputable def cfgD : Cfg Empty := mkL KA [dueK] fun _ _ n => n
theorem cfgD_ok : CfgOK SN cfgD := mkL_ok KA_ok dues_ok _
/-- The law's heap: a platform of eight harts, ticks, and times. -/
def lawT : List TO := platT 8 ++ [.view .u64 3 4 0 0, .cells (xs 2000 8) 34]
def lawFr (E : Env) (k : Nat) : Fr := ⟨105, [(1, .slice true 27 (E.N 0) 1 (E.N 1) (E.N 2)), (2, .ptr 28 0 0 0), (4, .bool false false), (6, .ptr 0 0 0 0), (8, .int true .u64 (E.I 1000)), (9, .int true .i64 (k : Int))]⟩
noncomputable def lawBody : Code := (loopOf 11 (bodyOf Tryz.f5)).getD .skip
noncomputable def lawRun (E : Env) (k : Nat) : Tree (Ex × Fr × Hs Empty) := trimT [1, 2, 4, 6, 8, 9] (code cfgD SN.locs 100 5 lawBody (lawFr E k) ⟨instH E lawT, []⟩)
end Go.Proofs.YtgbhiamfjikonaaGreatDoor
