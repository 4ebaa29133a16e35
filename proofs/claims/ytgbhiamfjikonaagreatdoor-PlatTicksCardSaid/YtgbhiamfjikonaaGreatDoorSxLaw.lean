/- SX: calls by evaluation, and laws that return true. -/
import Derived.Test.YtgbhiamfjikonaaGreatDoorSxCode
import Derived.Below
set_option linter.unusedVariables false
set_option linter.unusedSimpArgs false
namespace Go.SX
open Go.RowKit
section
variable {M : Type} {S : Seal M}

/-- Nothing is known, nothing may be turned. -/
theorem Con.empty (S : Seal M) (w : World) (ρ : Nat → Nat) : Con S w (fun _ => False) [] ρ (fun _ _ => False) w where
  rep := fun l o h => by simp at h
  scp := fun l o h => by simp at h
  out := fun _ _ _ h => h
  dis := fun _ _ _ h => h.elim
  lt := fun _ _ h => h.elim
  own := fun _ _ h => h.elim
  old := fun _ _ _ => rfl
  size := Nat.le_refl _
  os := rfl
  tape := rfl
  output := rfl

theorem Con.below {w0 : World} {F0 : Nat → Prop} {H : Hp M} {ρ : Nat → Nat} {F : Nat → Nat → Prop} {w : World} (h : Con S w0 F0 H ρ F w) (hF : ∀ x, ¬ F0 x) : Below w0.heap.size w0 w :=
  ⟨h.os, h.tape, h.output, h.size, fun k hk => h.old k hk (hF k)⟩

section
variable {cfg : Cfg M} (hcfg : CfgOK S cfg)
include hcfg

/-- A call, by evaluation of its code. -/
theorem calls_of_tree (n : Nat) {f : FuncId} {args : List AV} {H : Hp M} {ρ : Nat → Nat} {F : Nat → Nat → Prop} {w w0 : World} {F0 : Nat → Prop} {R : Value → World → Prop} {fn : Func} {c : Code}
    (hK : cfg.K f args H = none) (hfn : funcB cfg.P f = some fn) (hc : fn.body = some c)
    (hcon : Con S w0 F0 H ρ F w) (hargs : ∀ x ∈ args, x.sc (vis H) = true) (h : (callB' cfg S.locs n f args H).all (LeafOK S w0 F0 H ρ R)) :
    Calls cfg.P f (denL ρ args).toArray w fun e w' => match e with | .returned v => R v w' | _ => False := by
  refine callWith_calls hcfg (code_sound hcfg n) (fun fid c fr X H0 h => code_log n fid c fr X h) hfn hc hcon hargs ?_
  unfold callB' callWith at h
  simp only [hK, hfn, hc] at h
  exact h

theorem callRun_of_tree (n : Nat) {f : FuncId} {args : List AV} {H : Hp M} {ρ : Nat → Nat} {F : Nat → Nat → Prop} {w w0 : World} {F0 : Nat → Prop} {R : Value → World → Prop}
    (hcon : Con S w0 F0 H ρ F w) (hargs : ∀ x ∈ args, x.sc (vis H) = true) (h : (callB' cfg S.locs n f args H).all (LeafOK S w0 F0 H ρ R)) :
    CallRun cfg.P f (denL ρ args).toArray w R := callWith_sound hcfg (code_sound hcfg n) (fun fid c fr X H0 h => code_log n fid c fr X h) f args H ρ F w w0 F0 R hcon hargs h
end

/-- The truth that a call told. -/
def verdict (locs : M → List Nat) (H : Hp M) (t : Tree (Ans M)) : Tree Bool :=
  t.bind fun (v, e) => match v with
    | .bool _ b => if e.sc (vis (e.app H)) locs then .leaf b else .stuck 160
    | _ => .stuck 161

theorem verdict_all {H : Hp M} {t : Tree (Ans M)} {w0 : World} {F0 : Nat → Prop} {ρ : Nat → Nat} (h : (verdict S.locs H t).all (· = true)) :
    t.all (LeafOK S w0 F0 H ρ fun v w' => v = .bool true ∧ ∃ (H' : Hp M) (ρ' : Nat → Nat) (F' : Nat → Nat → Prop), Con S w0 F0 H' ρ' F' w') := by
  unfold verdict at h
  rw [Tree.all_bind] at h
  refine Tree.all_mono h ?_
  rintro ⟨v, e⟩ h1
  simp only at h1
  split at h1
  · split at h1
    · rename_i hs
      refine ⟨hs, fun ρ' F' w' _ hcon => ⟨?_, _, ρ', F', hcon⟩⟩
      simp only [Tree.all] at h1
      simp [AV.den, h1]
    · exact h1.elim
  · exact h1.elim

/-- A law of plain arguments. -/
theorem law_plain {cfg : Cfg M} (hcfg : CfgOK S cfg) (n : Nat) {f : FuncId} {args : List AV} {w : World} {fn : Func} {c : Code}
    (hK : cfg.K f args [] = none) (hfn : funcB cfg.P f = some fn) (hc : fn.body = some c) (hargs : ∀ x ∈ args, x.sc (vis ([] : Hp M)) = true)
    (h : (verdict S.locs [] (callB' cfg S.locs n f args [])).all (· = true)) :
    Calls cfg.P f (denL id args).toArray w fun e w' => e = .returned (.bool true) ∧ Below w.heap.size w w' := by
  refine (calls_of_tree hcfg n hK hfn hc (Con.empty S w id) hargs (verdict_all h)).mono fun e w' he => ?_
  cases e with
  | returned v =>
    obtain ⟨rfl, H', ρ', F', hcon⟩ := he
    exact ⟨rfl, hcon.below fun _ h => h⟩
  | panicked c => exact he.elim
  | outgrown => exact he.elim
end
end Go.SX
