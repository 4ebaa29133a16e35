/- SX: contracts of loops by templates. -/
import Derived.Test.YtgbhiamfjikonaaGreatDoorSxMatch
set_option linter.unusedVariables false
set_option linter.unusedSimpArgs false
namespace Go.SX
section
variable {M : Type} {S : Seal M}

structure LoopEntry (M : Type) where
  n : Nat
  fr : List (Nat × TA)
  heap : List TO
  out : Bool → Env → Tree (Ex × Fr × Eff M)

def instF (E : Env) : List (Nat × TA) → List (Nat × AV)
  | [] => []
  | (t, a) :: l => (t, instA E a) :: instF E l

def matchF (fr : Fr) : List (Nat × TA) → Option Asg
  | [] => some Asg.nil
  | (t, a) :: l => match evFr fr t with
    | some v => match matchA a v with
      | some A => match matchF fr l with
        | some B => some (A.app B)
        | none => none
      | none => none
    | none => none

def LoopEntry.frame (e : LoopEntry M) (E : Env) : Fr := ⟨e.n, instF E e.fr⟩

def LoopEntry.K (locs : M → List Nat) (e : LoopEntry M) (fr : Fr) (H : Hp M) : Option (Tree (Ex × Fr × Eff M)) :=
  match matchF fr e.fr with
  | none => none
  | some A => match matchH H 0 e.heap A.s with
    | none => none
    | some B => match sameN (lapp A.s B.s) (lapp A.s B.s) && apartN (look 0 (lapp A.s B.s)) (lenT e.heap) 0 && Nat.ble e.n fr.n with
      | false => none
      | true => match incK (lapp A.i B.i) && incK (lapp A.b B.b) && incK (lapp A.n B.n) && incK (lapp A.g B.g) && incK (lapp A.o B.o) with
        | false => none
        | true => some (guardX (hidden (look 0 (lapp A.s B.s)) 0 e.heap) (embedX locs (instH (A.app B).env e.heap) (look 0 (lapp A.s B.s)) H (e.out (A.q || B.q) (A.app B).env)))

def LoopEntry.shut (e : LoopEntry M) : Bool := e.fr.all (fun p => taIn (lenT e.heap) p.2) && e.heap.all (toIn (lenT e.heap))

theorem matchF_ok {fr : Fr} {E : Env} {σ : Nat → Nat} : ∀ {l : List (Nat × TA)} {A : Asg}, matchF fr l = some A → Agr A E σ → subL fr (renP σ (instF E l))
  | [], _, _, _ => trivial
  | (t, a) :: l, A, h, ha => by
    simp only [matchF] at h
    cases h0 : evFr fr t with
    | none => rw [h0] at h; cases h
    | some v =>
      rw [h0] at h
      simp only at h
      cases h1 : matchA a v with
      | none => rw [h1] at h; cases h
      | some A1 =>
        cases h2 : matchF fr l with
        | none => rw [h1, h2] at h; cases h
        | some A2 =>
          rw [h1, h2] at h
          simp only [Option.some.injEq] at h
          subst h
          exact ⟨⟨v, h0, (matchA_ok h1 ha.left).symm⟩, matchF_ok h2 ha.right⟩

theorem instF_sc {n : Nat} {V : Nat → Bool} (hV : ∀ l, l < n → V l = true) {E : Env} : ∀ {l : List (Nat × TA)}, (∀ p ∈ l, taIn n p.2 = true) → scP V (instF E l) = true
  | [], _ => rfl
  | (t, a) :: l, h => by
    simp only [instF, scP, scq2_eq, taIn_sc hV (h _ List.mem_cons_self), instF_sc hV (fun p hp => h p (List.mem_cons_of_mem _ hp)), Bool.and_self]

theorem embedX_len {locs : M → List Nat} {H0 H H' : Hp M} {σ : Nat → Nat} {t : Tree (Ex × Fr × Eff M)} (h : H.length = H'.length) : embedX locs H0 σ H t = embedX locs H0 σ H' t := by
  unfold embedX
  simp only [lenH_eq, h]

theorem loop_er {P : Program} {b : Code} {fr : Fr} {H H' : Hp M} {t : Tree (Ex × Fr × Eff M)} (hH : erH H = erH H') (h : LoopSound P S b fr H t) : LoopSound P S b fr H' t := by
  intro ρ F w w0 F0 a Q hcon hfr ht
  have hv := vis_of_er hH
  refine h ρ F w w0 F0 a Q (con_er.1 (by rw [hH]; exact con_er.2 hcon)) ⟨hfr.den, by rw [hv]; exact hfr.sc, hfr.len, hfr.defers⟩ (Tree.all_mono ht ?_)
  rintro ⟨e, fr', ef⟩ h1
  have hva : vis (ef.app H) = vis (ef.app H') := by rw [← visH_er (ef.app H), ← visH_er (ef.app H'), erH_app, erH_app, hH]
  intro ρ' F' w' a' hag hc hf
  refine h1 ρ' F' w' a' ⟨fun l hl => hag.same l (by rw [hv]; exact hl), fun l hl => by simp only; rw [← hva]; exact hag.keep l (by rw [hv]; exact hl)⟩ (con_er.1 ?_) ⟨hf.den, by simp only; rw [← hva]; exact hf.sc, hf.len, hf.defers⟩
  simp only
  rw [erH_app, ← hH, ← erH_app]
  exact con_er.2 hc

theorem LoopEntry.sound (hlocs : ∀ m, S.locs m = []) {P : Program} {b : Code} {e : LoopEntry M} (hcl : e.shut = true) (hok : ∀ q E, LoopSound P S b (e.frame E) (instH E e.heap) (e.out q E)) {fr : Fr} {H : Hp M} {t : Tree (Ex × Fr × Eff M)}
    (h : e.K S.locs fr H = some t) : LoopSound P S b fr H t := by
  unfold LoopEntry.K at h
  split at h
  · cases h
  · rename_i A hA
    split at h
    · cases h
    · rename_i B hB
      split at h
      · cases h
      · rename_i hs
        split at h
        · cases h
        · rename_i hi
          simp only [Option.some.injEq] at h
          subst h
          simp only [Bool.and_eq_true] at hs hi
          generalize hσ : look 0 (lapp A.s B.s) = σ at hs ⊢
          have hagr : Agr (A.app B) (A.app B).env σ := by
            refine ⟨fun p hp => (incK_mem 0 hi.1.1.1.1).1 p hp, fun p hp => (incK_mem false hi.1.1.1.2).1 p hp, fun p hp => (incK_mem 0 hi.1.1.2).1 p hp, fun p hp => ?_, fun p hp => (incK_mem default hi.2).1 p hp, fun p hp => ?_⟩
            · have := (incK_mem (fun _ => true, fun _ => 0) hi.1.2).1 p hp
              exact ⟨congrArg Prod.fst this, congrArg Prod.snd this⟩
            · rw [← hσ]; exact sameN_mem hs.1.1 p hp
          generalize (A.app B).env = E at hagr ⊢
          simp only [LoopEntry.shut, Bool.and_eq_true, List.all_eq_true] at hcl
          rw [lenT_eq] at hcl hs
          have hfound := matchH_ok hB hagr.right (fun p hp => hagr.left.s p hp)
          refine mask_loop _ ?_
          obtain ⟨H2, herH, hW, hlen, hV⟩ := found_heap (S := S) hs.1.2 hcl.2 hfound
          rw [embedX_len hlen]
          refine loop_er herH (loop_embed hlocs (hok _ _) hW (FrSub.of ?_ (matchF_ok hA hagr.left)) (instF_sc hV hcl.1))
          simpa [renFr, LoopEntry.frame] using hs.2
end
end Go.SX
