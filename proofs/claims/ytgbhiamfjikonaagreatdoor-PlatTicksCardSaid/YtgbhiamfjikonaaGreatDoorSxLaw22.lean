/- SX: a part of the proof of this claim; it stands under the statement's own conditions alone. -/
import Derived.Test.YtgbhiamfjikonaaGreatDoorSxIn22b
set_option maxRecDepth 100000
set_option linter.unusedVariables false
namespace Go.Proofs.YtgbhiamfjikonaaGreatDoor
open Go Go.SX Go.Proofs
def trimG (l : List Nat) (t : Tree (Ex × Fr × Hs Empty)) : Tree (Ex × Fr × Hs Empty) := t.bind fun (e, fr, X) => .leaf (e, trimFr l fr, ⟨X.h, []⟩)
/-- The time behind a tick. -/
def nowE (E : Env) (k : Nat) : Int :=
  IntKind.u64.wrap (E.I 1000 + if IntKind.u64.wrap (18446744073709551615 - E.I 1000) < E.G 0 (E.N 0 + (k : Int).toNat) then IntKind.u64.wrap (18446744073709551615 - E.I 1000) else E.G 0 (E.N 0 + (k : Int).toNat))
def tickE (E : Env) (k : Nat) : Env := dueE (updI E 1000 (nowE E k)) 8
def lawFrT (E : Env) (now k : Int) : Fr := ⟨105, [(1, .slice true 27 (E.N 0) 1 (E.N 1) (E.N 2)), (2, .ptr 28 0 0 0), (4, .bool false false), (6, .ptr 0 0 0 0), (8, .int true .u64 now), (9, .int true .i64 k)]⟩
def lawEnd (E : Env) (k : Nat) : Hp Empty := instH (tickE E k) lawT ++ [.cells (instL E (hartT 400 4)) 49, .cells (instL (updI (tickE E k) 442 (E.I 442)) (hartT 400 4)) 49]
def preE (E : Env) (k : Nat) : Bool := preIn (updI (updI (tickE E k) 0 (nowE E k)) 1 (k : Int))
noncomputable def eqC (a b : List AV) : Bool := match aggEq Tryz.prog okt 8 49 a b with | some (_, b) => b | none => false
noncomputable def eqE (E : Env) (k : Nat) : Bool := eqC (instL (updI (tickE E k) 442 (E.I 442)) (hartT 400 4)) (instL E (hartT 400 4))
noncomputable def lawTr (E : Env) (k : Nat) : Tree (Ex × Fr × Hs Empty) :=
  let out := Tree.leaf (Ex.exit 2, lawFrT E (E.I 1000) k, (⟨instH E lawT, []⟩ : Hs Empty))
  .ite (decide ((k : Int) < ((E.N 1 : Nat) : Int))) (.ite (decide ((k : Int) < 20)) (.ite (decide (0 ≤ (k : Int) ∧ (k : Int) < ((E.N 1 : Nat) : Int))) (.ite (decide (E.N 3 ≤ E.N 0 + (k : Int).toNat ∧ E.N 0 + (k : Int).toNat < E.N 4))
    (.ite (decide (0 ≤ (k : Int) ∧ (k : Int) < ((E.N 1 : Nat) : Int))) (.ite (decide (E.N 3 ≤ E.N 0 + (k : Int).toNat ∧ E.N 0 + (k : Int).toNat < E.N 4))
      (.ite (preE E k) (.ite (!(eqE E k)) (.leaf (.ret, lawFrT E (nowE E k) k, ⟨lawEnd E k, []⟩)) (.leaf (.normal, lawFrT E (nowE E k) (IntKind.i64.wrap (k + 1)), ⟨lawEnd E k, []⟩))) (.stuck 7)) (.stuck 2)) (.stuck 35)) (.stuck 2)) (.stuck 35)) out) out
theorem law_eq (E : Env) (k : Nat) : trimG [1, 2, 4, 6, 8, 9] (code cfgE SN.locs 100 5 lawBody (lawFr E k) ⟨instH E lawT, []⟩) = lawTr E k := by kernel_rfl
end Go.Proofs.YtgbhiamfjikonaaGreatDoor
