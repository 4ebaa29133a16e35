/- SX: a part of the proof of this claim; it stands under the statement's own conditions alone. -/
import Derived.Test.YtgbhiamfjikonaaGreatDoorSxShown22
import Derived.Test.YtgbhiamfjikonaaGreatDoorSxErase
set_option maxRecDepth 100000
namespace Go.Proofs.YtgbhiamfjikonaaGreatDoor
open Go Go.SX Go.Proofs
/-- How many harts there are of so many. -/
def clamp (h : Int) : Int := if 8 < if 1 > h then 1 else h then 8 else if 1 > h then 1 else h
def oneCells (s : Int) : List AV := [.int false .i64 s, .int false .u64 0, .int false .u64 0, .bool false false]
def hsmCells (q : Bool) (n : Int) : List AV :=
  oneCells 0 ++ (oneCells 1 ++ (oneCells 1 ++ (oneCells 1 ++ (oneCells 1 ++ (oneCells 1 ++ (oneCells 1 ++ (oneCells 1 ++ [.int q .i64 n])))))))
def hsmT (n h : Int) : Tree (Ans Empty) := .ite (decide (clamp h = n)) (.leaf (.ptr 0 0 0 0, .ext [] [.cells (hsmCells false n) 110])) (.stuck 7)
set_option maxHeartbeats 4000000 in
theorem hsm_eval (h : Int) : callB' cfgA SN.locs 1000 70 [.int true .i64 h] [] = .leaf (.ptr 0 0 0 0, .ext [] [.cells (hsmCells true (clamp h)) 110]) := by kernel_rfl
theorem hsm_ok (n h : Int) : LocalOK Tryz.prog SN 70 [.int true .i64 h] [] (hsmT n h) := by
  refine local_of cfgA_ok 1000 (args' := [.int true .i64 h]) rfl ?_
  rw [hsm_eval]
  by_cases e : clamp h = n
  · refine .inl ⟨by simp [e], ?_⟩
    subst e
    exact ⟨rfl, rfl⟩
  · exact .inr ⟨by simp [e], trivial⟩
noncomputable def kHsm (n : Int) : List AV → Hp Empty → Option (Tree (Ans Empty))
  | [.int true .i64 h], H => some (embed SN.locs [] id H (hsmT n h))
  | _, _ => none
theorem kHsm_ok (n : Int) {args : List AV} {H : Hp Empty} {t : Tree (Ans Empty)} (h : kHsm n args H = some t) : LocalOK Tryz.prog SN 70 args H t := by
  unfold kHsm at h
  split at h
  · simp only [Option.some.injEq] at h
    subst h
    exact embed_sound SN_locs (hsm_ok n _) (within_nil H) (by simp [AV.sc])
  · cases h
noncomputable def KB (n : Int) : FuncId → List AV → Hp Empty → Option (Tree (Ans Empty)) := fun f a H =>
  match Nat.beq f 70 with
  | true => kHsm n a H
  | false => memoK SN.locs KA [mShown] f a H
theorem KB_ok (n : Int) : KOK Tryz.prog SN (KB n) := by
  intro f args H t ht
  unfold KB at ht
  split at ht
  · rename_i h
    rw [Nat.eq_of_beq_eq_true h]
    exact kHsm_ok n ht
  · exact memoK_ok SN_locs KA_ok [mShown] (by intro m hm; simp only [List.mem_singleton] at hm; subst hm; exact shown_ok) f args H t ht
noncomputable def cfgB (n : Int) : Cfg Empty := mk (KB n) fun _ _ k => k
theorem cfgB_ok (n : Int) : CfgOK SN (cfgB n) := mk_ok (KB_ok n) _
end Go.Proofs.YtgbhiamfjikonaaGreatDoor
