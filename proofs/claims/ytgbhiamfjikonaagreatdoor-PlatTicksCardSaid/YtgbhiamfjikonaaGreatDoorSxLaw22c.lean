/- SX: a part of the proof of this claim; it stands under the statement's own conditions alone. -/
import Derived.Test.YtgbhiamfjikonaaGreatDoorSxLaw22b
set_option maxRecDepth 100000
set_option linter.unusedVariables false
namespace Go.Proofs.YtgbhiamfjikonaaGreatDoor
open Go Go.SX Go.Proofs
def withI (E : Env) (I : Nat → Int) : Env := { E with I := I }
theorem tick_env (E : Env) (I : Nat → Int) (k : Nat) : tickE (withI E I) k = withI E (tickE (withI E I) k).I := by kernel_rfl
def LS := { s : Nat × (Nat → Int) // s.1 ≤ 20 ∧ LInv s.2 }
def lostL : List Nat := [5, 6, 7, 8, 9, 10, 11, 12, 13, 15, 28]
def lawOut : Tree (Ex × Fr × Eff Empty) := .leaf (.exit 2, ⟨105, []⟩, .ext (losesAt lostL) [])
def lost (l : Nat) : Bool := memN l lostL
theorem lost_app (E : Env) (I J : Nat → Int) : erH ((Eff.ext (losesAt lostL) [] : Eff Empty).app (instH (withI E I) lawT)) = erH (maskH lost 0 (instH (withI E J) lawT)) := by kernel_rfl
def lawR (E : Env) (I0 : Nat → Int) (k : Nat) := roundOK3 (ι := LS) (fun s => lawFr (withI E s.1.2) s.1.1) (fun s => (instH (withI E s.1.2) lawT : Hp Empty)) (fun s => 20 - s.1.1 < 20 - k) (instH (withI E I0) lawT) lawOut
theorem law_fr0 (fr : Fr) (h : 105 ≤ fr.n) : FrSub ⟨105, []⟩ fr := FrSub.of h trivial
theorem law_out (E : Env) (I0 I : Nat → Int) (k : Nat) : lawR E I0 k (.exit 2, lawFrT (withI E I) ((withI E I).I 1000) k, ⟨instH (withI E I) lawT, []⟩) :=
  ⟨lost, hits_leaf (law_fr0 _ (Nat.le_refl 105)) (lost_app E I0 I)⟩
theorem wrap_succ (k : Nat) (h : k < 20) : IntKind.i64.wrap ((k : Int) + 1) = ((k + 1 : Nat) : Int) := by
  have hc : k = 0 ∨ k = 1 ∨ k = 2 ∨ k = 3 ∨ k = 4 ∨ k = 5 ∨ k = 6 ∨ k = 7 ∨ k = 8 ∨ k = 9 ∨ k = 10 ∨ k = 11 ∨ k = 12 ∨ k = 13 ∨ k = 14 ∨ k = 15 ∨ k = 16 ∨ k = 17 ∨ k = 18 ∨ k = 19 := by omega
  rcases hc with e | e | e | e | e | e | e | e | e | e | e | e | e | e | e | e | e | e | e | e <;> rw [e] <;> rfl
theorem law_frs (E : Env) (now k : Int) (E' : Env) (j : Nat) (hN : E'.N = E.N) (h1 : E'.I 1000 = now) (h2 : k = (j : Int)) : FrSub (lawFr E' j) (lawFrT E now k) := by
  refine FrSub.of (Nat.le_refl 105) ⟨⟨_, rfl, ?_⟩, ⟨_, rfl, rfl⟩, ⟨_, rfl, rfl⟩, ⟨_, rfl, rfl⟩, ⟨_, rfl, ?_⟩, ⟨_, rfl, ?_⟩, trivial⟩
  · rw [hN]
  · rw [h1]
  · rw [h2]
theorem law_next (E : Env) (I0 I : Nat → Int) (k : Nat) (hk : k < 20) (h : LInv I) : lawR E I0 k (.normal, lawFrT (withI E I) (nowE (withI E I) k) (IntKind.i64.wrap (k + 1)), ⟨lawEnd (withI E I) k, []⟩) := by
  refine ⟨⟨(k + 1, (tickE (withI E I) k).I), by simp only; omega, tick_inv (withI E I) k h⟩, [.cells (instL (withI E I) (hartT 400 4)) 49, .cells (instL (updI (tickE (withI E I) k) 442 ((withI E I).I 442)) (hartT 400 4)) 49], by simp only; omega, ?_, ?_⟩
  · exact law_frs _ _ _ _ _ rfl (tick_now (withI E I) k) (wrap_succ k hk)
  · simp only
    rw [← tick_env]
    rfl
theorem law_round (E : Env) (I0 I : Nat → Int) (k : Nat) (hk : k ≤ 20) (h : LInv I) (hN : E.N 3 ≤ E.N 0 ∧ E.N 0 + E.N 1 ≤ E.N 4) : Ok (code cfgE SN.locs 100 5 lawBody (lawFr (withI E I) k) ⟨instH (withI E I) lawT, []⟩) (lawR E I0 k) := by
  have trimmed : (trimG [1, 2, 4, 6, 8, 9] (code cfgE SN.locs 100 5 lawBody (lawFr (withI E I) k) ⟨instH (withI E I) lawT, []⟩)).all (lawR E I0 k) → Ok (code cfgE SN.locs 100 5 lawBody (lawFr (withI E I) k) ⟨instH (withI E I) lawT, []⟩) (lawR E I0 k) := by
    intro h
    refine ⟨round_trim3 [1, 2, 4, 6, 8, 9] ?_⟩
    unfold trimG at h
    unfold trimT
    rw [Tree.all_bind] at h ⊢
    refine Tree.all_mono h ?_
    rintro ⟨e, fr', X⟩ h1
    cases e <;> exact h1
  refine trimmed ?_
  rw [law_eq]
  have out := law_out E I0 I k
  unfold lawTr
  refine ⟨fun h1 => ⟨fun h2 => ?_, fun _ => out⟩, fun _ => out⟩
  have hk20 : k < 20 := by have := of_decide_eq_true h2; omega
  have hkn : (k : Int) < (((withI E I).N 1 : Nat) : Int) := of_decide_eq_true h1
  have hkn' : (k : Int) < ((E.N 1 : Nat) : Int) := hkn
  have c1 : decide (0 ≤ (k : Int) ∧ (k : Int) < (((withI E I).N 1 : Nat) : Int)) = true := decide_eq_true ⟨by omega, hkn⟩
  have c2 : decide ((withI E I).N 3 ≤ (withI E I).N 0 + (k : Int).toNat ∧ (withI E I).N 0 + (k : Int).toNat < (withI E I).N 4) = true := decide_eq_true (by show E.N 3 ≤ E.N 0 + (k : Int).toNat ∧ E.N 0 + (k : Int).toNat < E.N 4; omega)
  refine ⟨fun _ => ⟨fun _ => ⟨fun _ => ⟨fun _ => ⟨fun _ => ⟨fun h3 => ?_, fun _ => law_next E I0 I k hk20 h⟩, fun h3 => ?_⟩, fun h3 => ?_⟩, fun h3 => ?_⟩, fun h3 => ?_⟩, fun h3 => ?_⟩
  · rw [eq_true] at h3; cases h3
  · rw [pre_of (withI E I) k h] at h3; cases h3
  · rw [c2] at h3; cases h3
  · rw [c1] at h3; cases h3
  · rw [c2] at h3; cases h3
  · rw [c1] at h3; cases h3
end Go.Proofs.YtgbhiamfjikonaaGreatDoor
