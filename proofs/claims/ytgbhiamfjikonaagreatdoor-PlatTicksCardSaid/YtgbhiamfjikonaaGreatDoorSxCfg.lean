/- SX: contracts of loops, by the loops of a text. -/
import Derived.Test.YtgbhiamfjikonaaGreatDoorSxTrim
set_option linter.unusedVariables false
set_option linter.unusedSimpArgs false
namespace Go.SX
section
variable {M : Type} {S : Seal M}

def loopsOf : Code → List Code
  | .seq a b => lapp (loopsOf a) (loopsOf b)
  | .cond _ a b => lapp (loopsOf a) (loopsOf b)
  | .block _ b => loopsOf b
  | .loop b => b :: loopsOf b
  | _ => []

theorem loopsIn_of {P : Program} {loop : Nat → Fr → Hp M → Option (Tree (Ex × Fr × Eff M))} : ∀ {c : Code}, (∀ b ∈ loopsOf c, ∀ fr H t, loop (loopKey b) fr H = some t → LoopSound P S b fr H t) → LoopsIn P S loop c
  | .seq a b, h => ⟨loopsIn_of fun x hx => h x (by simp [loopsOf, lapp_eq, hx]), loopsIn_of fun x hx => h x (by simp [loopsOf, lapp_eq, hx])⟩
  | .cond _ a b, h => ⟨loopsIn_of fun x hx => h x (by simp [loopsOf, lapp_eq, hx]), loopsIn_of fun x hx => h x (by simp [loopsOf, lapp_eq, hx])⟩
  | .block _ b, h => loopsIn_of (c := b) fun x hx => h x (by simpa [loopsOf] using hx)
  | .loop b, h => ⟨loopsIn_of fun x hx => h x (by simp [loopsOf, hx]), fun fr H t ht => h b (by simp [loopsOf]) fr H t ht⟩
  | .skip, _ => trivial
  | .region .., _ => trivial
  | .rangeFunc .., _ => trivial
  | .exit _, _ => trivial
  | .scope _, _ => trivial
  | .label _, _ => trivial
  | .goto _, _ => trivial
  | .ret, _ => trivial
  | .refuse _, _ => trivial

/-- A contract of a loop: of which function, of which loop in it. -/
structure LoopK (M : Type) where
  f : FuncId
  key : Nat
  e : LoopEntry M

def loopK (locs : M → List Nat) : List (LoopK M) → FuncId → Nat → Fr → Hp M → Option (Tree (Ex × Fr × Eff M))
  | [], _, _, _, _ => none
  | c :: l, f, key, fr, H => match Nat.beq c.f f && Nat.beq c.key key with
    | true => c.e.K locs fr H
    | false => loopK locs l f key fr H

/-- Each loop of that name in the function's text is as the contract says. -/
def LoopK.ok (P : Program) (S : Seal M) (c : LoopK M) : Prop :=
  c.e.shut = true ∧ ∀ fn code, funcB P c.f = some fn → fn.body = some code → ∀ b ∈ loopsOf code, loopKey b = c.key → ∀ q E, LoopSound P S b (c.e.frame E) (instH E c.e.heap) (c.e.out q E)

theorem loopK_ok (hlocs : ∀ m, S.locs m = []) {P : Program} {l : List (LoopK M)} (hl : ∀ c ∈ l, c.ok P S) : ∀ f fn c, funcB P f = some fn → fn.body = some c → LoopsIn P S (loopK S.locs l f) c := by
  intro f fn c hfn hc
  refine loopsIn_of fun b hb fr H t ht => ?_
  induction l with
  | nil => simp [loopK] at ht
  | cons k l ih =>
    simp only [loopK] at ht
    split at ht
    · rename_i hk
      rw [Bool.and_eq_true] at hk
      obtain ⟨h1, h2⟩ := hl k (by simp)
      have e := Nat.eq_of_beq_eq_true hk.1
      subst e
      exact LoopEntry.sound hlocs h1 (h2 fn c hfn hc b hb (Nat.eq_of_beq_eq_true hk.2).symm) ht
    · exact ih (fun c hc => hl c (by simp [hc])) ht

theorem loop_fr {P : Program} {b : Code} {fr fr' : Fr} {H : Hp M} {T : Tree (Ex × Fr × Eff M)} (hs : FrSub fr fr') (h : LoopSound P S b fr H T) : LoopSound P S b fr' H T :=
  fun ρ F w w0 F0 a Q hcon hfr hT => h ρ F w w0 F0 a Q hcon (hfr.sub hs rfl) hT
end
end Go.SX
