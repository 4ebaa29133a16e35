/- SX: a law that is handed a block that it may read alone. -/
import Derived.Test.YtgbhiamfjikonaaGreatDoorSxLoop3
set_option linter.unusedVariables false
set_option linter.unusedSimpArgs false
namespace Go.SX
open Go.RowKit
section
variable {M : Type} {S : Seal M}

theorem Con.view {k : IntKind} {lo n : Nat} {g : Nat → Int} {o : Obj} {w : World} {b : Nat} (hb : w.heap[b]? = some o) (ho : ∃ arr e fz, o = .cells arr e fz ∧ ∀ i, lo ≤ i → i < n → arr[i]? = some (.int k (g i))) :
    Con S w (fun x => x = b) [.view k lo n g o] (fun _ => b) (fun l x => l = 0 ∧ x = b) w where
  rep := fun l o' h => by
    cases l with
    | zero =>
      simp only [List.getElem?_cons_zero, Option.some.injEq] at h
      subst h
      exact ⟨fun x => by simp, hb, ho⟩
    | succ l => simp at h
  scp := fun l o' h => by
    cases l with
    | zero =>
      simp only [List.getElem?_cons_zero, Option.some.injEq] at h
      subst h
      exact rfl
    | succ l => simp at h
  out := fun l h x hx => by
    obtain ⟨rfl, _⟩ := hx
    simp at h
  dis := fun l l' x h1 h2 => by rw [h1.1, h2.1]
  lt := fun l x hx => by
    rw [hx.2]
    exact (Array.getElem?_eq_some_iff.1 hb).1
  own := fun l x hx => .inl hx.2
  old := fun _ _ _ => rfl
  size := Nat.le_refl _
  os := rfl
  tape := rfl
  output := rfl

/-- A law over one block that it may read. -/
theorem law_view {cfg : Cfg M} (hcfg : CfgOK S cfg) (m : Nat) {f : FuncId} {args : List AV} {w : World} {fn : Func} {c : Code} {T : Tree Unit} {k : IntKind} {lo n : Nat} {g : Nat → Int} {o : Obj} {b : Nat}
    (hb : w.heap[b]? = some o) (ho : ∃ arr e fz, o = .cells arr e fz ∧ ∀ i, lo ≤ i → i < n → arr[i]? = some (.int k (g i)))
    (hK : cfg.K f args [.view k lo n g o] = none) (hfn : funcB cfg.P f = some fn) (hc : fn.body = some c) (hargs : ∀ x ∈ args, x.sc (vis ([.view k lo n g o] : Hp M)) = true)
    (h : prune (vtree S.locs [.view k lo n g o] (guardM (fun l => Nat.beq l 0) (callB' cfg S.locs m f args [.view k lo n g o]))) = T) (hT : T.all fun _ => True) :
    Calls cfg.P f (denL (fun _ => b) args).toArray w fun e w' => e = .returned (.bool true) ∧ Below w.heap.size w w' := by
  have hall := vtree_verdict (S := S) (prune_all _ (by rw [h]; exact hT))
  unfold verdict guardM at hall
  rw [Tree.all_bind, Tree.all_bind] at hall
  have hcon := Con.view (S := S) hb ho
  refine (calls_of_tree hcfg m (R := fun v w' => v = .bool true ∧ Below w.heap.size w w') hK hfn hc hcon hargs (Tree.all_mono hall ?_)).mono fun e w' he => ?_
  · rintro ⟨v, s, n'⟩ h1
    simp only at h1
    split at h1
    · rename_i hok
      simp only [Tree.all] at h1
      split at h1
      · split at h1
        · rename_i hs
          simp only [Tree.all] at h1
          refine ⟨hs, fun ρ' F' w' hag hc' => ⟨by simp [AV.den, h1], ?_⟩⟩
          rw [app_ext] at hag hc'
          have hne : ∀ p ∈ s, p.1 ≠ 0 := by
            intro p hp e
            have := okSets_mem hok p hp
            rw [e] at this
            simp at this
          have h0 : (applySets s [.view k lo n g o] ++ n')[0]? = some (.view k lo n g o) := by
            rw [List.getElem?_append_left (by rw [applySets_len]; simp), applySets_get 0 s _ hne]; rfl
          have hrep := hc'.rep 0 _ h0
          have hρ : ρ' 0 = b := hag.same 0 rfl
          have hblk : w'.heap[b]? = some o := by rw [← hρ]; exact hrep.2.1
          exact ⟨hc'.os, hc'.tape, hc'.output, hc'.size, fun x hx => by
            by_cases e : x = b
            · rw [e, hblk, hb]
            · exact hc'.old x hx e⟩
        · exact h1.elim
      · exact h1.elim
    · exact h1.elim
  · cases e with
    | returned v => obtain ⟨rfl, h2⟩ := he; exact ⟨rfl, h2⟩
    | panicked c => exact he.elim
    | outgrown => exact he.elim
end
end Go.SX
