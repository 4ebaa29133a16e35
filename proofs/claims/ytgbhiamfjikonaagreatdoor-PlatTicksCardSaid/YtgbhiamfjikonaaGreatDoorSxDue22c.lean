/- SX: a part of the proof of this claim; it stands under the statement's own conditions alone. -/
import Derived.Test.YtgbhiamfjikonaaGreatDoorSxDue22b
set_option maxRecDepth 100000
set_option linter.unusedVariables false
namespace Go.Proofs.YtgbhiamfjikonaaGreatDoor
open Go Go.SX Go.Proofs
theorem due_ge (E : Env) (h : Nat) (hh : 1000 ≤ h) : ∀ k, k ≤ 8 → (dueE E k).I h = E.I h
  | 0, _ => rfl
  | k + 1, hk => by
    have : Nat.beq h (142 + 100 * k) = false := by
      cases hb : Nat.beq h (142 + 100 * k) with
      | false => rfl
      | true => have := Nat.eq_of_beq_eq_true hb; omega
    simp only [dueE, updI, this, cond_false]
    exact due_ge E h hh k (by omega)
def dueL : List Nat := [6, 7, 8, 9, 10, 11, 12, 13]
def dueOut (E : Env) : Tree (Ex × Fr × Eff Empty) := .leaf (.exit 0, ⟨44, []⟩, .ext (setsAt (instH (dueE E 8) (platT 8)) dueL) [])
theorem due_app (E : Env) : erH ((Eff.ext (setsAt (instH (dueE E 8) (platT 8)) dueL) [] : Eff Empty).app (instH (dueE E 0) (platT 8))) = erH (instH (dueE E 8) (platT 8)) := by kernel_rfl
theorem due_fr : FrSub ⟨44, []⟩ (dueFr 8 8) := FrSub.of (Nat.le_refl 44) trivial
theorem hits_leaf {H0 H : Hp Empty} {e : Ex} {fr fr' : Fr} {ef : Eff Empty} (h1 : FrSub fr' fr) (h2 : erH (ef.app H0) = erH H) : hitsX H0 (e, fr, H) (.leaf (e, fr', ef)) := ⟨rfl, h1, h2⟩
theorem due_hit (E : Env) : hitsX (instH (dueE E 0) (platT 8)) (.exit 0, dueFr 8 8, instH (dueE E 8) (platT 8)) (dueOut E) := hits_leaf due_fr (due_app E)
abbrev K9 := { k : Nat // k ≤ 8 }
theorem due_round (E : Env) (k : Nat) (hk : k < 8) (h : dueRun 8 k (dueE E k) = dueT 8 k (dueE E k)) :
    Ok (code cfgA SN.locs 100 33 dueBody (dueFr 8 k) ⟨instH (dueE E k) (platT 8), []⟩) (roundOK (ι := K9) (fun k => dueFr 8 k.1) (fun k => instH (dueE E k.1) (platT 8)) (fun j => 8 - j.1 < 8 - k) (instH (dueE E 0) (platT 8)) (dueOut E)) := by
  refine ⟨round_trim [0, 7, 8, 9] ?_⟩
  have h1 : trimT [0, 7, 8, 9] (code cfgA SN.locs 100 33 dueBody (dueFr 8 k) ⟨instH (dueE E k) (platT 8), []⟩) = dueT 8 k (dueE E k) := h
  rw [h1]
  have e0 := due_ge E 1000 (by omega) k (by omega)
  have e1 := due_ge E (1001 + k) (by omega) k (by omega)
  have next : ∀ v, ipDue (E.I 1000) (E.I (1001 + k)) ((dueE E k).I (142 + 100 * k)) = v → roundOK (ι := K9) (fun k => dueFr 8 k.1) (fun k => instH (dueE E k.1) (platT 8)) (fun j => 8 - j.1 < 8 - k) (instH (dueE E 0) (platT 8)) (dueOut E)
      (.normal, dueFr 8 (k + 1), ⟨instH (updI (dueE E k) (142 + 100 * k) v) (platT 8), [6 + k]⟩) := by
    intro v hv
    refine ⟨⟨k + 1, by omega⟩, by simp only; omega, FrSub.refl _, ?_⟩
    simp only [dueE]
    rw [hv]
  unfold dueT
  refine ⟨fun hb => next _ ?_, fun hb => ⟨fun hc => next _ ?_, fun hc => next _ ?_⟩⟩
  · rw [e1] at hb
    simp [ipDue, dueB, hb]
  · rw [e1] at hb
    rw [e0, e1] at hc
    simp only [ipDue, dueB, hb, hc, Bool.not_false, Bool.and_self, cond_true]
  · rw [e0, e1] at hc
    simp only [ipDue, dueB, hc, Bool.and_false, cond_false]
theorem due_exit (E : Env) (h : dueRun 8 8 (dueE E 8) = .leaf (.exit 0, dueFr 8 8, ⟨instH (dueE E 8) (platT 8), []⟩)) :
    Ok (code cfgA SN.locs 100 33 dueBody (dueFr 8 8) ⟨instH (dueE E 8) (platT 8), []⟩) (roundOK (ι := K9) (fun k => dueFr 8 k.1) (fun k => instH (dueE E k.1) (platT 8)) (fun j => 8 - j.1 < 8 - 8) (instH (dueE E 0) (platT 8)) (dueOut E)) := by
  refine ⟨round_trim [0, 7, 8, 9] ?_⟩
  have h1 : trimT [0, 7, 8, 9] (code cfgA SN.locs 100 33 dueBody (dueFr 8 8) ⟨instH (dueE E 8) (platT 8), []⟩) = .leaf (.exit 0, dueFr 8 8, ⟨instH (dueE E 8) (platT 8), []⟩) := h
  rw [h1]
  exact due_hit E
theorem loops_trivial (c : Code) : LoopsIn cfgA.P SN (cfgA.loop 33) c := loopsIn_none c
theorem due_rounds (E : Env) (k : Nat) (hk : k ≤ 8) :
    Ok (code cfgA SN.locs 100 33 dueBody (dueFr 8 k) ⟨instH (dueE E k) (platT 8), []⟩) (roundOK (ι := K9) (fun k => dueFr 8 k.1) (fun k => instH (dueE E k.1) (platT 8)) (fun j => 8 - j.1 < 8 - k) (instH (dueE E 0) (platT 8)) (dueOut E)) := by
  have hc : k = 0 ∨ k = 1 ∨ k = 2 ∨ k = 3 ∨ k = 4 ∨ k = 5 ∨ k = 6 ∨ k = 7 ∨ k = 8 := by omega
  rcases hc with e | e | e | e | e | e | e | e | e
  · rw [e]; exact due_round E 0 (by omega) (due8_0 (dueE E 0))
  · rw [e]; exact due_round E 1 (by omega) (due8_1 (dueE E 1))
  · rw [e]; exact due_round E 2 (by omega) (due8_2 (dueE E 2))
  · rw [e]; exact due_round E 3 (by omega) (due8_3 (dueE E 3))
  · rw [e]; exact due_round E 4 (by omega) (due8_4 (dueE E 4))
  · rw [e]; exact due_round E 5 (by omega) (due8_5 (dueE E 5))
  · rw [e]; exact due_round E 6 (by omega) (due8_6 (dueE E 6))
  · rw [e]; exact due_round E 7 (by omega) (due8_7 (dueE E 7))
  · rw [e]; exact due_exit E (due8_8 (dueE E 8))
theorem due_loop (E : Env) : LoopSound cfgA.P SN dueBody (dueFr 8 0) (instH (dueE E 0) (platT 8)) (dueOut E) :=
  loop_inv cfgA_ok (fid := 33) (loops_trivial _) 100 (ι := K9) (fun k => dueFr 8 k.1) (fun k => instH (dueE E k.1) (platT 8)) (fun k => 8 - k.1) ⟨0, Nat.zero_le 8⟩ (dueOut E) (fun k => (due_rounds E k.1 k.2).h)
end Go.Proofs.YtgbhiamfjikonaaGreatDoor
