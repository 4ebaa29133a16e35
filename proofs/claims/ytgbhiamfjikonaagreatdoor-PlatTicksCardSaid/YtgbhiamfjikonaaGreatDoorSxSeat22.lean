/- SX: a part of the proof of this claim; it stands under the statement's own conditions alone. -/
import Derived.Test.YtgbhiamfjikonaaGreatDoorProg
import Derived.Test.YtgbhiamfjikonaaGreatDoorSxMemo
import Derived.KernelRfl
set_option maxRecDepth 100000
namespace Go.Proofs.YtgbhiamfjikonaaGreatDoor
open Go Go.SX Go.Proofs

/-- Nothing is sealed. -/
def SN : Seal Empty where
  locs := fun m => m.elim
  rep := fun m => m.elim
  here := fun m => m.elim
  ren := fun m => m.elim
  root := fun m => m.elim
theorem SN_locs : ∀ m, SN.locs m = [] := fun m => m.elim

theorem prog_mixed : Tryz.prog.follows .mixedOrders = true := by kernel_rfl
theorem prog_names : (Tryz.prog.funcs.toList.all fun fn => !(fn.name == "runtime.NumGoroutine")) = true := by kernel_rfl
theorem prog_name : ∀ f fn, funcB Tryz.prog f = some fn → (fn.name == "runtime.NumGoroutine") = false := by
  intro f fn h
  unfold funcB at h
  rw [lget_eq] at h
  have := List.all_eq_true.1 prog_names fn (List.mem_of_getElem? h)
  simpa using this

noncomputable def KA : FuncId → List AV → Hp Empty → Option (Tree (Ans Empty)) := fun f a H =>
  match Nat.beq f 108 with
  | true => atomLoad H a
  | false => match Nat.beq f 110 with
    | true => atomStore H a
    | false => match Nat.beq f 223 with
      | true => atomAdd H a
      | false => none
theorem k108 {args : List AV} {H : Hp Empty} {t : Tree (Ans Empty)} (ht : atomLoad H args = some t) : LocalOK Tryz.prog SN 108 args H t :=
  atomLoad_sound (fn := Tryz.f108) (by kernel_rfl) (by kernel_rfl) (by kernel_rfl) (by kernel_rfl) (by kernel_rfl) ht
theorem k110 {args : List AV} {H : Hp Empty} {t : Tree (Ans Empty)} (ht : atomStore H args = some t) : LocalOK Tryz.prog SN 110 args H t :=
  atomStore_sound (fn := Tryz.f110) (by kernel_rfl) (by kernel_rfl) (by kernel_rfl) (by kernel_rfl) (by kernel_rfl) ht
theorem k223 {args : List AV} {H : Hp Empty} {t : Tree (Ans Empty)} (ht : atomAdd H args = some t) : LocalOK Tryz.prog SN 223 args H t :=
  atomAdd_sound (fn := Tryz.f223) (by kernel_rfl) (by kernel_rfl) (by kernel_rfl) (by kernel_rfl) (by kernel_rfl) ht
theorem KA_ok : KOK Tryz.prog SN KA := by
  intro f args H t ht
  unfold KA at ht
  cases h1 : Nat.beq f 108 with
  | true =>
    rw [h1] at ht
    have e := Nat.eq_of_beq_eq_true h1
    rw [e]
    exact k108 ht
  | false =>
    rw [h1] at ht
    cases h2 : Nat.beq f 110 with
    | true =>
      rw [h2] at ht
      have e := Nat.eq_of_beq_eq_true h2
      rw [e]
      exact k110 ht
    | false =>
      rw [h2] at ht
      cases h3 : Nat.beq f 223 with
      | true =>
        rw [h3] at ht
        have e := Nat.eq_of_beq_eq_true h3
        rw [e]
        exact k223 ht
      | false => rw [h3] at ht; cases ht
/-- Structs that are held against each other. -/
def oktL : List Nat := [49, 46, 54, 264]
def okt : TypeId → Bool := fun t => memN t oktL
theorem okt_of (t : TypeId) (h1 : Tryz.prog.stoodInHeld t = false) (h2 : Tryz.prog.eqGuardType Tryz.prog.depth t = false)
    (h3 : (match Tryz.prog.underlying t with | some (.struct fs) => fs.toList.all fun f => !(f.name == "_") | _ => true) = true) : OkType Tryz.prog t := by
  refine ⟨h1, h2, fun fs hfs f hf => ?_⟩
  rw [hfs] at h3
  have := List.all_eq_true.1 h3 f hf
  simpa using this
theorem okt49 : OkType Tryz.prog 49 := okt_of 49 (by kernel_rfl) (by kernel_rfl) (by kernel_rfl)
theorem okt46 : OkType Tryz.prog 46 := okt_of 46 (by kernel_rfl) (by kernel_rfl) (by kernel_rfl)
theorem okt54 : OkType Tryz.prog 54 := okt_of 54 (by kernel_rfl) (by kernel_rfl) (by kernel_rfl)
theorem okt264 : OkType Tryz.prog 264 := okt_of 264 (by kernel_rfl) (by kernel_rfl) (by kernel_rfl)
theorem okt_ok : ∀ t, okt t = true → OkType Tryz.prog t := by
  intro t h
  simp only [okt, oktL, memN, Bool.or_eq_true, Bool.or_false] at h
  rcases h with h | h | h | h
  · rw [Nat.eq_of_beq_eq_true h]; exact okt49
  · rw [Nat.eq_of_beq_eq_true h]; exact okt46
  · rw [Nat.eq_of_beq_eq_true h]; exact okt54
  · rw [Nat.eq_of_beq_eq_true h]; exact okt264

theorem loopsIn_none {P : Program} {M : Type} {S : Seal M} : ∀ c : Code, LoopsIn P S (fun _ _ _ => none) c
  | .seq a b => ⟨loopsIn_none a, loopsIn_none b⟩
  | .cond _ a b => ⟨loopsIn_none a, loopsIn_none b⟩
  | .block _ b => loopsIn_none b
  | .loop b => ⟨loopsIn_none b, fun _ _ _ h => by cases h⟩
  | .skip => trivial
  | .region .. => trivial
  | .rangeFunc .. => trivial
  | .exit _ => trivial
  | .scope _ => trivial
  | .label _ => trivial
  | .goto _ => trivial
  | .ret => trivial
  | .refuse _ => trivial

/-- The evaluator over this program, by some contracts and bounds of rounds. -/
noncomputable def mk (K : FuncId → List AV → Hp Empty → Option (Tree (Ans Empty))) (r : FuncId → Nat → Nat → Nat) : Cfg Empty :=
  ⟨Tryz.prog, K, fun _ _ _ _ => none, 32, okt, r⟩
theorem mk_ok {K : FuncId → List AV → Hp Empty → Option (Tree (Ans Empty))} (hK : KOK Tryz.prog SN K) (r : FuncId → Nat → Nat → Nat) : CfgOK SN (mk K r) where
  okt := okt_ok
  K := hK
  loop := fun _ _ c _ _ => loopsIn_none c
  mixed := prog_mixed
  name := prog_name
noncomputable def cfgA : Cfg Empty := mk KA fun _ _ n => n
theorem cfgA_ok : CfgOK SN cfgA := mk_ok KA_ok _
end Go.Proofs.YtgbhiamfjikonaaGreatDoor
