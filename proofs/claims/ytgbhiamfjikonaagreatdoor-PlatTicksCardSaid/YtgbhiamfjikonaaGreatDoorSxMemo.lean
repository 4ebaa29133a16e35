/- SX: calls of written-out numbers, told once; laws whose verdict is left in few ways. -/
import Derived.Test.YtgbhiamfjikonaaGreatDoorSxAtomic
set_option linter.unusedVariables false
set_option linter.unusedSimpArgs false
namespace Go.SX
open Go.RowKit
section
variable {M : Type} {S : Seal M}

/-- A call of written-out numbers, and what it answers and makes. -/
structure Memo (M : Type) where
  f : FuncId
  a : List (IntKind × Int)
  v : AV
  news : List (AO M)

def litArg (p : IntKind × Int) : AV → Bool
  | .int false k n => decide (p.1 = k) && decide (p.2 = n)
  | _ => false

def litArgs : List (IntKind × Int) → List AV → Bool
  | [], [] => true
  | p :: l, x :: r => litArg p x && litArgs l r
  | _, _ => false

def argOf : List (IntKind × Int) → List AV
  | [] => []
  | p :: l => .int false p.1 p.2 :: argOf l

theorem litArgs_eq : ∀ {l : List (IntKind × Int)} {r : List AV}, litArgs l r = true → r = argOf l
  | [], [], _ => rfl
  | p :: l, x :: r, h => by
    simp only [litArgs, Bool.and_eq_true] at h
    have hx := h.1
    unfold litArg at hx
    split at hx
    · simp only [Bool.and_eq_true, decide_eq_true_eq] at hx
      simp only [argOf, hx.1, hx.2, litArgs_eq h.2]
    · cases hx
  | [], _ :: _, h => by simp [litArgs] at h
  | _ :: _, [], h => by simp [litArgs] at h

theorem argOf_sc (V : Nat → Bool) : ∀ (l : List (IntKind × Int)), ∀ x ∈ argOf l, x.sc V = true
  | [], x, h => by simp [argOf] at h
  | p :: l, x, h => by
    simp only [argOf, List.mem_cons] at h
    rcases h with rfl | h
    · rfl
    · exact argOf_sc V l x h

theorem argOf_ren (σ : Nat → Nat) : ∀ (l : List (IntKind × Int)), renL σ (argOf l) = argOf l
  | [] => rfl
  | p :: l => by simp only [argOf, renL, AV.ren, argOf_ren σ l]

def Memo.tree (m : Memo M) : Tree (Ans M) := .leaf (m.v, .ext [] m.news)

/-- It is what the evaluator says. -/
def Memo.ok (P : Program) (S : Seal M) (m : Memo M) : Prop := LocalOK P S m.f (argOf m.a) [] m.tree

/-- What is told comes first. -/
def memoK (locs : M → List Nat) (K : FuncId → List AV → Hp M → Option (Tree (Ans M))) : List (Memo M) → FuncId → List AV → Hp M → Option (Tree (Ans M))
  | [], f, args, H => K f args H
  | m :: l, f, args, H => match Nat.beq m.f f && litArgs m.a args with
    | true => some (embed locs [] id H m.tree)
    | false => memoK locs K l f args H

theorem within_nil (H : Hp M) : Within S ([] : Hp M) id H where
  inj := fun l l' h => by simp at h
  at_ := fun l o h => by simp at h
  vis := fun l o h => by simp at h
  sc := fun l o h => by simp at h

theorem memoK_ok (hlocs : ∀ m, S.locs m = []) {P : Program} {K : FuncId → List AV → Hp M → Option (Tree (Ans M))} (hK : KOK P S K) : ∀ (l : List (Memo M)), (∀ m ∈ l, m.ok P S) → KOK P S (memoK S.locs K l)
  | [], _ => hK
  | m :: l, hl => by
    intro f args H t ht
    simp only [memoK] at ht
    split at ht
    · rename_i h
      rw [Bool.and_eq_true] at h
      have e := Nat.eq_of_beq_eq_true h.1
      subst e
      have e := litArgs_eq h.2
      subst e
      simp only [Option.some.injEq] at ht
      subst ht
      have := embed_sound hlocs (hl m (by simp)) (within_nil H) (argOf_sc _ m.a)
      rw [argOf_ren] at this
      exact this
    · exact memoK_ok hlocs hK l (fun m h => hl m (by simp [h])) f args H t ht

/-- By evaluation. -/
theorem Memo.ok_of {cfg : Cfg M} (hcfg : CfgOK S cfg) (n : Nat) {m : Memo M} (h : callB' cfg S.locs n m.f (argOf m.a) [] = m.tree) : m.ok cfg.P S := by
  intro ρ F w w0 F0 R hcon hargs ht
  rw [← h] at ht
  exact callRun_of_tree hcfg n hcon hargs ht

/-- The truth that a call told, where it may be told otherwise. -/
def vtree (locs : M → List Nat) (H : Hp M) (t : Tree (Ans M)) : Tree Unit :=
  t.bind fun (v, e) => match v with
    | .bool s b => match e.scq (vis (e.app H)) locs with
      | true => (match s with
        | false => match b with
          | true => .leaf ()
          | false => .stuck 162
        | true => .ite b (.leaf ()) (.stuck 163))
      | false => .stuck 160
    | _ => .stuck 161

/-- What is the same on both ways is one. -/
def prune : Tree Unit → Tree Unit
  | .leaf a => .leaf a
  | .ite b t e => match prune t, prune e with
    | .leaf _, .leaf _ => .leaf ()
    | t', e' => .ite b t' e'
  | .any f => .any fun n => prune (f n)
  | .stuck n => .stuck n

theorem prune_all : ∀ (t : Tree Unit), (prune t).all (fun _ => True) → t.all fun _ => True
  | .leaf _, _ => trivial
  | .ite b t e, h => by
    have h1 : ((prune t).all fun _ => True) ∨ b = false := by
      cases b with
      | false => exact .inr rfl
      | true =>
        left
        simp only [prune] at h
        split at h
        · rename_i e1 _; rw [e1]; trivial
        · exact h.1 rfl
    have h2 : ((prune e).all fun _ => True) ∨ b = true := by
      cases b with
      | true => exact .inr rfl
      | false =>
        left
        simp only [prune] at h
        split at h
        · rename_i _ e2; rw [e2]; trivial
        · exact h.2 rfl
    refine ⟨fun hb => ?_, fun hb => ?_⟩
    · rcases h1 with h1 | h1
      · exact prune_all t h1
      · rw [hb] at h1; cases h1
    · rcases h2 with h2 | h2
      · exact prune_all e h2
      · rw [hb] at h2; cases h2
  | .any f, h => fun n => prune_all (f n) (h n)
  | .stuck _, h => h

theorem vtree_verdict {H : Hp M} {t : Tree (Ans M)} (h : (vtree S.locs H t).all fun _ => True) : (verdict S.locs H t).all (· = true) := by
  unfold vtree at h
  simp only [escq_eq] at h
  unfold verdict
  rw [Tree.all_bind] at h ⊢
  refine Tree.all_mono h ?_
  rintro ⟨v, e⟩ h1
  simp only at h1 ⊢
  split at h1
  · split at h1
    · rename_i hs
      simp only [hs, if_true]
      split at h1
      · split at h1
        · rfl
        · exact h1.elim
      · simp only [Tree.all]
        exact Classical.byContradiction fun hb => h1.2 (Bool.eq_false_iff.2 hb)
    · exact h1.elim
  · exact h1.elim

/-- A law of plain arguments, by what is left of its verdict. -/
theorem law_pruned {cfg : Cfg M} (hcfg : CfgOK S cfg) (n : Nat) {f : FuncId} {args : List AV} {w : World} {fn : Func} {c : Code}
    (hK : cfg.K f args [] = none) (hfn : funcB cfg.P f = some fn) (hc : fn.body = some c) (hargs : ∀ x ∈ args, x.sc (vis ([] : Hp M)) = true)
    (h : (prune (vtree S.locs [] (callB' cfg S.locs n f args []))).all fun _ => True) :
    Calls cfg.P f (denL id args).toArray w fun e w' => e = .returned (.bool true) ∧ Below w.heap.size w w' :=
  law_plain hcfg n hK hfn hc hargs (vtree_verdict (prune_all _ h))
/-- The same, by an equation. -/
theorem law_told {cfg : Cfg M} (hcfg : CfgOK S cfg) (n : Nat) {f : FuncId} {args : List AV} {w : World} {fn : Func} {c : Code} {T : Tree Unit}
    (hK : cfg.K f args [] = none) (hfn : funcB cfg.P f = some fn) (hc : fn.body = some c) (hargs : ∀ x ∈ args, x.sc (vis ([] : Hp M)) = true)
    (h : prune (vtree S.locs [] (callB' cfg S.locs n f args [])) = T) (hT : T.all fun _ => True) :
    Calls cfg.P f (denL id args).toArray w fun e w' => e = .returned (.bool true) ∧ Below w.heap.size w w' :=
  law_pruned hcfg n hK hfn hc hargs (by rw [h]; exact hT)
end
end Go.SX
