/- SX: what is not noted as set is as it was. -/
import Derived.Test.YtgbhiamfjikonaaGreatDoorSxDrawn
set_option linter.unusedVariables false
set_option linter.unusedSimpArgs false
set_option linter.unusedSectionVars false
namespace Go.SX

namespace Tree
variable {α β : Type}
def allw (Q : α → Prop) : Tree α → Prop
  | .leaf a => Q a
  | .ite _ t e => t.allw Q ∧ e.allw Q
  | .any g => ∀ n, (g n).allw Q
  | .stuck _ => True

theorem allw_of {t : Tree α} {Q : α → Prop} (h : ∀ a, Q a) : t.allw Q := by
  induction t with
  | leaf a => exact h a
  | ite b t e iht ihe => exact ⟨iht, ihe⟩
  | any g ih => exact ih
  | stuck n => trivial

theorem allw_bind {t : Tree α} {f : α → Tree β} {Q : β → Prop} (h : t.allw fun a => (f a).allw Q) : (t.bind f).allw Q := by
  induction t with
  | leaf a => exact h
  | ite b t e iht ihe => exact ⟨iht h.1, ihe h.2⟩
  | any g ih => exact fun n => ih n (h n)
  | stuck n => trivial

theorem allw_mono {t : Tree α} {Q R : α → Prop} (h : t.allw Q) (hr : ∀ a, Q a → R a) : t.allw R := by
  induction t with
  | leaf a => exact hr _ h
  | ite b t e iht ihe => exact ⟨iht h.1, ihe h.2⟩
  | any g ih => exact fun n => ih n (h n)
  | stuck n => trivial

theorem all_and {t : Tree α} {Q R : α → Prop} (h : t.all Q) (hw : t.allw R) : t.all fun a => Q a ∧ R a := by
  induction t with
  | leaf a => exact ⟨h, hw⟩
  | ite b t e iht ihe => exact ⟨fun hb => iht (h.1 hb) hw.1, fun hb => ihe (h.2 hb) hw.2⟩
  | any g ih => exact fun n => ih n (h n) (hw n)
  | stuck n => exact h

theorem allw_test {s b : Bool} {t e : Tree α} {Q : α → Prop} (h1 : t.allw Q) (h2 : e.allw Q) : (test s b t e).allw Q := by
  cases s with
  | true => exact ⟨h1, h2⟩
  | false => cases b <;> assumption
end Tree

theorem bindA_allw {α β : Type} {t : Tree α} {b : Bool} {f : Bool → α → Tree β} {Q : β → Prop} (h : ∀ b a, (f b a).allw Q) : (bindA t b f).allw Q := by
  induction t generalizing b with
  | leaf a => exact h b a
  | ite c t e iht ihe => exact ⟨iht, ihe⟩
  | any g ih => exact fun n => ih n
  | stuck n => trivial

section
variable {M : Type}

/-- What is not noted is as it was. -/
def LogOK (H0 : Hp M) (X : Hs M) : Prop := H0.length ≤ X.h.length ∧ ∀ l, l < H0.length → memN l X.g = false → X.h[l]? = H0[l]?

theorem LogOK.start (H : Hp M) : LogOK H ⟨H, []⟩ := ⟨Nat.le_refl _, fun _ _ _ => rfl⟩

theorem addL_mem (l : Nat) : ∀ (s : List (Nat × AO M)) (g : Lg), memN l (addL s g) = false → memN l g = false ∧ ∀ p ∈ s, p.1 ≠ l
  | [], g, h => ⟨h, by simp⟩
  | (k, o) :: r, g, h => by
    simp only [addL] at h
    obtain ⟨h1, h2⟩ := addL_mem l r _ h
    split at h1
    · rename_i hk
      refine ⟨h1, fun p hp => ?_⟩
      rcases List.mem_cons.1 hp with rfl | hp
      · intro e
        simp only at e
        subst e
        rw [hk] at h1; cases h1
      · exact h2 p hp
    · simp only [memN, Bool.or_eq_false_iff] at h1
      refine ⟨h1.2, fun p hp => ?_⟩
      rcases List.mem_cons.1 hp with rfl | hp
      · intro e
        simp only at e
        subst e
        simp at h1
      · exact h2 p hp

theorem applySets_get (l : Nat) : ∀ (s : List (Nat × AO M)) (H : Hp M), (∀ p ∈ s, p.1 ≠ l) → (applySets s H)[l]? = H[l]?
  | [], H, _ => rfl
  | (k, o) :: r, H, h => by
    simp only [applySets]
    rw [applySets_get l r _ (fun p hp => h p (by simp [hp])), lset_eq, List.getElem?_set_ne (h (k, o) (by simp))]

theorem applySets_len : ∀ (s : List (Nat × AO M)) (H : Hp M), (applySets s H).length = H.length
  | [], H => rfl
  | (l, o) :: r, H => by simp [applySets, applySets_len r, lset_eq]

theorem app_ext (s : List (Nat × AO M)) (n : List (AO M)) (H : Hp M) : (Eff.ext s n : Eff M).app H = applySets s H ++ n := by
  cases s <;> cases n <;> simp [Eff.app, applySets, lapp_eq]

theorem LogOK.app {H0 : Hp M} {X : Hs M} (h : LogOK H0 X) (e : Eff M) : LogOK H0 (X.app e) := by
  obtain ⟨s, n⟩ := e
  unfold LogOK
  rw [app_h, app_ext]
  refine ⟨?_, fun l hl hm => ?_⟩
  · rw [List.length_append, applySets_len]; have := h.1; omega
  · obtain ⟨h1, h2⟩ := addL_mem l s X.g hm
    rw [List.getElem?_append_left (by rw [applySets_len]; have := h.1; omega), applySets_get l s _ h2]
    exact h.2 l hl h1

theorem lenH_eq (H : Hp M) : lenH H = H.length := by
  induction H with
  | nil => rfl
  | cons a l ih => simp [lenH, ih]

theorem ldrop_eq {α : Type} (n : Nat) (l : List α) : ldrop n l = l.drop n := by
  induction n generalizing l with
  | zero => rfl
  | succ n ih => cases l <;> simp [ldrop, ih]

theorem setsOf_spec (n : Nat) (H : Hp M) : ∀ (g : Lg), (∀ p ∈ setsOf n H g, p.1 < n ∧ H[p.1]? = some p.2) ∧ ∀ l, l < n → memN l g = true → (∃ o, H[l]? = some o) → ∃ p ∈ setsOf n H g, p.1 = l
  | [] => ⟨by simp [setsOf], fun l _ hm => by simp [memN] at hm⟩
  | k :: r => by
    obtain ⟨h1, h2⟩ := setsOf_spec n H r
    simp only [setsOf, lget_eq]
    constructor
    · intro p hp
      split at hp
      · rename_i hk
        have hk : k < n := Nat.le_of_ble_eq_true hk
        split at hp
        · rename_i o ho
          rcases List.mem_cons.1 hp with rfl | hp
          · exact ⟨hk, ho⟩
          · exact h1 p hp
        · exact h1 p hp
      · exact h1 p hp
    · intro l hl hm ho
      simp only [memN, Bool.or_eq_true] at hm
      rcases hm with hm | hm
      · have hm := Nat.eq_of_beq_eq_true hm
        subst hm
        obtain ⟨o, ho⟩ := ho
        have : Nat.blt l n = true := Nat.ble_eq_true_of_le hl
        rw [if_pos this]
        simp only [ho]
        exact ⟨(l, o), by simp, rfl⟩
      · obtain ⟨p, hp, e⟩ := h2 l hl hm ho
        refine ⟨p, ?_, e⟩
        split
        · split
          · exact List.mem_cons_of_mem _ hp
          · exact hp
        · exact hp

theorem applySets_told {H' : Hp M} : ∀ (s : List (Nat × AO M)) (H : Hp M), (∀ p ∈ s, p.1 < H.length ∧ H'[p.1]? = some p.2) → ∀ l, (∃ p ∈ s, p.1 = l) → (applySets s H)[l]? = H'[l]?
  | [], H, _, l, ⟨p, hp, _⟩ => by simp at hp
  | (k, o) :: r, H, h, l, ⟨p, hp, e⟩ => by
    simp only [applySets]
    by_cases hr : ∃ p ∈ r, p.1 = l
    · exact applySets_told r _ (fun p hp => by
        have := h p (by simp [hp])
        rw [lset_eq, List.length_set]; exact this) l hr
    · rw [applySets_get l r _ (fun p hp e => hr ⟨p, hp, e⟩)]
      rcases List.mem_cons.1 hp with rfl | hp
      · simp only at e
        subst e
        obtain ⟨h1, h2⟩ := h (k, o) (by simp)
        rw [lset_eq, List.getElem?_set_self h1]; exact h2.symm
      · exact absurd ⟨p, hp, e⟩ hr

theorem effOf_app {H : Hp M} {X : Hs M} (h : LogOK H X) : (effOf H X).app H = X.h := by
  unfold effOf
  rw [app_ext, lenH_eq, ldrop_eq]
  obtain ⟨h1, h2⟩ := setsOf_spec H.length X.h X.g
  apply List.ext_getElem?
  intro l
  by_cases hl : l < H.length
  · rw [List.getElem?_append_left (by rw [applySets_len]; exact hl)]
    by_cases hm : memN l X.g = true
    · exact applySets_told _ H h1 l (h2 l hl hm ⟨_, List.getElem?_eq_getElem (Nat.lt_of_lt_of_le hl h.1)⟩)
    · have hm : memN l X.g = false := by simpa using hm
      by_cases hex : ∃ p ∈ setsOf H.length X.h X.g, p.1 = l
      · exact applySets_told _ H h1 l hex
      · rw [applySets_get l _ _ (fun p hp e => hex ⟨p, hp, e⟩)]
        exact (h.2 l hl hm).symm
  · rw [List.getElem?_append_right (by rw [applySets_len]; omega), applySets_len, List.getElem?_drop]
    congr 1; omega

variable {cfg : Cfg M} {locs : M → List Nat} {call : FuncId → List AV → Hp M → Tree (Ans M)}

theorem runOp_log {γ : Type} {H0 : Hp M} {o : Oper} {fr : Fr} {X : Hs M} {k : Fr → Hs M → Tree γ} {Q : γ → Prop} (hX : LogOK H0 X) (hk : ∀ fr' X', LogOK H0 X' → (k fr' X').allw Q) : (runOp cfg locs call o fr X k).allw Q := by
  unfold runOp
  refine Tree.allw_bind (Tree.allw_of ?_)
  rintro ⟨v, e⟩
  simp only
  split
  · exact hk _ _ (hX.app e)
  · trivial

theorem seqOps_log {H0 : Hp M} {ops : List Oper} : ∀ (rest : List Oper) (fr : Fr) (X : Hs M), LogOK H0 X → (seqOps cfg locs call ops rest fr X).allw fun r => LogOK H0 r.2
  | [], fr, X, h => h
  | o :: rest, fr, X, h => by
    have ih := fun fr' X' h' => seqOps_log (H0 := H0) (ops := ops) rest fr' X' h'
    simp only [seqOps]
    split
    · exact runOp_log h ih
    · split
      · trivial
      · split
        · exact runOp_log h ih
        · exact ih _ _ h
        · trivial
        · constructor
          · split
            · exact runOp_log h ih
            · exact ih _ _ h
          · split
            · exact runOp_log h ih
            · exact ih _ _ h

theorem drawOps_log {H0 : Hp M} {ops : List Oper} {D : List Nat} {fr : Fr} : ∀ (n : Nat) (vals : Vals) (base : Hs M) (win : Win), LogOK H0 base → (drawOps cfg locs call ops D fr n vals base win).allw fun r => LogOK H0 r.2
  | 0, vals, base, win, h => by
    simp only [drawOps]
    split
    · exact h
    · trivial
  | n + 1, vals, base, win, h => by
    have ih := fun vals' base' win' h' => drawOps_log (H0 := H0) (ops := ops) (D := D) (fr := fr) n vals' base' win' h'
    have go : ∀ (o : Oper) (j : Nat) (vals : Vals), (if isPure o.op then lightStep cfg call ops D fr o j vals base.h fun vals' => drawOps cfg locs call ops D fr n vals' base win
                else loudStep cfg locs call ops D fr o j vals base win fun vals' base' win' => drawOps cfg locs call ops D fr n vals' base' win').allw fun r => LogOK H0 r.2 := by
      intro o j vals
      split
      · unfold lightStep
        refine bindA_allw fun b a => ?_
        obtain ⟨v, e⟩ := a
        simp only
        split
        · split
          · exact ih _ _ _ h
          · trivial
        · trivial
      · have loud : (loudAt cfg locs call ops D fr o j vals base win fun vals' base' win' => drawOps cfg locs call ops D fr n vals' base' win').allw fun r => LogOK H0 r.2 := by
          unfold loudAt
          refine bindA_allw fun b a => ?_
          obtain ⟨v, e⟩ := a
          simp only
          split
          · split
            · exact ih _ _ _ h
            · trivial
          · split
            · exact ih _ _ _ (h.app _)
            · trivial
        unfold loudStep
        split
        · split
          · refine bindA_allw fun b a => ?_
            obtain ⟨v, e⟩ := a
            simp only
            split
            · split
              · exact ih _ _ _ h
              · trivial
            · exact loud
          · exact loud
        · trivial
    simp only [drawOps]
    split
    · trivial
    · split
      · trivial
      · split
        · split
          · exact go _ _ _
          · split
            · exact go _ _ _
            · exact ih _ _ _ h
            · constructor
              · split
                · exact go _ _ _
                · exact ih _ _ _ h
              · split
                · exact go _ _ _
                · exact ih _ _ _ h
            · trivial
        · trivial

theorem drawAll_log {H0 : Hp M} {ops : List Oper} {fr : Fr} {X : Hs M} (h : LogOK H0 X) : (drawAll cfg locs call ops fr X).allw fun r => LogOK H0 r.2 := by
  unfold drawAll
  simp only
  split
  · exact drawOps_log _ _ _ _ h
  · trivial

theorem loopB_log {H0 : Hp M} {body : Fr → Hs M → Tree (Ex × Fr × Hs M)} (hb : ∀ fr X, LogOK H0 X → (body fr X).allw fun r => LogOK H0 r.2.2) : ∀ (k : Nat) (fr : Fr) (X : Hs M), LogOK H0 X → (loopB body k fr X).allw fun r => LogOK H0 r.2.2
  | 0, fr, X, h => trivial
  | k + 1, fr, X, h => by
    simp only [loopB]
    refine Tree.allw_bind (Tree.allw_mono (hb fr X h) ?_)
    rintro ⟨e, fr', X'⟩ h'
    cases e with
    | normal => exact loopB_log hb k fr' X' h'
    | exit id => exact h'
    | ret => exact h'

theorem code_log {H0 : Hp M} : ∀ (n : Nat) (fid : FuncId) (c : Code) (fr : Fr) (X : Hs M), LogOK H0 X → (code cfg locs n fid c fr X).allw fun r => LogOK H0 r.2.2 := by
  intro n
  induction n with
  | zero => intro fid c fr X h; trivial
  | succ n ih =>
    intro fid c fr X h
    cases c <;> simp only [code]
    case skip => exact h
    case label l => exact h
    case region id ops draw =>
      cases draw with
      | false =>
        refine Tree.allw_bind (Tree.allw_mono (seqOps_log _ _ _ h) ?_)
        rintro ⟨fr', X'⟩ h'; exact h'
      | true =>
        refine Tree.allw_bind (Tree.allw_mono (drawAll_log h) ?_)
        rintro ⟨fr', X'⟩ h'; exact h'
    case seq x y =>
      refine Tree.allw_bind (Tree.allw_mono (ih fid x fr X h) ?_)
      rintro ⟨e, fr', X'⟩ h'
      cases e with
      | normal => exact ih fid y fr' X' h'
      | exit id => exact h'
      | ret => exact h'
    case cond x y z =>
      split
      · exact Tree.allw_test (ih fid y fr X h) (ih fid z fr X h)
      · trivial
    case block id b =>
      refine Tree.allw_bind (Tree.allw_mono (ih fid b fr X h) ?_)
      rintro ⟨e, fr', X'⟩ h'
      cases e <;> exact h'
    case loop b =>
      split
      · refine Tree.allw_bind (Tree.allw_of ?_)
        rintro ⟨e, fr', ef⟩
        exact h.app ef
      · exact loopB_log (fun fr X h => ih fid b fr X h) _ fr X h
    case exit id => exact h
    case ret => exact h
    all_goals trivial
end
end Go.SX
