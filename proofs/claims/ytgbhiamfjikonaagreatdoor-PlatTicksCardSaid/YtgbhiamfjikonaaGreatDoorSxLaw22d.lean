/- SX: a part of the proof of this claim; it stands under the statement's own conditions alone. -/
import Derived.Test.YtgbhiamfjikonaaGreatDoorSxLaw22c
set_option maxRecDepth 100000
set_option linter.unusedVariables false
namespace Go.Proofs.YtgbhiamfjikonaaGreatDoor
open Go Go.SX Go.Proofs
theorem loopsIn_sub {P : Program} {M : Type} {S : Seal M} {loop : Nat → Fr → Hp M → Option (Tree (Ex × Fr × Eff M))} : ∀ {c b : Code}, LoopsIn P S loop c → b ∈ loopsOf c → LoopsIn P S loop b
  | .seq x y, b, h, hb => by
    simp only [loopsOf, lapp_eq, List.mem_append] at hb
    rcases hb with hb | hb
    · exact loopsIn_sub h.1 hb
    · exact loopsIn_sub h.2 hb
  | .cond _ x y, b, h, hb => by
    simp only [loopsOf, lapp_eq, List.mem_append] at hb
    rcases hb with hb | hb
    · exact loopsIn_sub h.1 hb
    · exact loopsIn_sub h.2 hb
  | .block _ x, b, h, hb => loopsIn_sub (c := x) h hb
  | .loop x, b, h, hb => by
    simp only [loopsOf, List.mem_cons] at hb
    rcases hb with rfl | hb
    · exact h.1
    · exact loopsIn_sub h.1 hb
  | .skip, _, _, hb => by simp [loopsOf] at hb
  | .region .., _, _, hb => by simp [loopsOf] at hb
  | .rangeFunc .., _, _, hb => by simp [loopsOf] at hb
  | .exit _, _, _, hb => by simp [loopsOf] at hb
  | .scope _, _, _, hb => by simp [loopsOf] at hb
  | .label _, _, _, hb => by simp [loopsOf] at hb
  | .goto _, _, _, hb => by simp [loopsOf] at hb
  | .ret, _, _, hb => by simp [loopsOf] at hb
  | .refuse _, _, _, hb => by simp [loopsOf] at hb
theorem cfgE_P : cfgE.P = Tryz.prog := by unfold cfgE mkL; rfl
theorem f5_law : (loopsOf (bodyOf Tryz.f5)).filter (fun b => Nat.beq (loopKey b) 11) = [lawBody] := by kernel_rfl
theorem law_mem : lawBody ∈ loopsOf (bodyOf Tryz.f5) := by
  have : lawBody ∈ (loopsOf (bodyOf Tryz.f5)).filter (fun b => Nat.beq (loopKey b) 11) := by rw [f5_law]; exact List.mem_singleton.2 rfl
  exact (List.mem_filter.1 this).1
theorem f5_some : Tryz.f5.body.isSome = true := by kernel_rfl
theorem law_loops : LoopsIn cfgE.P SN (cfgE.loop 5) lawBody := by
  obtain ⟨c, hc⟩ := Option.isSome_iff_exists.1 f5_some
  have e2 : bodyOf Tryz.f5 = c := by unfold bodyOf; rw [hc]
  refine loopsIn_sub (cfgE_ok.loop 5 Tryz.f5 c ?_ hc) (by rw [← e2]; exact law_mem)
  rw [cfgE_P]; exact f5_fn
theorem law_scH (E : Env) : ∀ (l : Nat) (o : AO Empty), (instH E lawT : Hp Empty)[l]? = some o → o.Sc SN (vis (instH E lawT : Hp Empty)) := instH_Sc (by kernel_rfl)
theorem law_scF (E : Env) (k : Nat) : scP (vis (instH E lawT : Hp Empty)) (lawFr E k).l = true := by kernel_rfl
theorem law_len (E E' : Env) : (instH E lawT : Hp Empty).length = (instH E' lawT : Hp Empty).length := by rw [instH_len, instH_len]
theorem law_loop (E : Env) (h : LInv E.I) (hN : E.N 3 ≤ E.N 0 ∧ E.N 0 + E.N 1 ≤ E.N 4) : LoopSound cfgE.P SN lawBody (lawFr (withI E E.I) 0) (instH (withI E E.I) lawT) lawOut :=
  loop_inv3 cfgE_ok (fid := 5) law_loops 100 (ι := LS) (fun s => lawFr (withI E s.1.2) s.1.1) (fun s => instH (withI E s.1.2) lawT) (fun s => 20 - s.1.1) ⟨(0, E.I), Nat.zero_le 20, h⟩ lawOut
    (fun s => law_len _ _) (fun s => law_scF _ _) (fun s => law_scH _) (fun s => law_round E E.I s.1.2 s.1.1 s.2.1 s.2.2 hN)
def upto8 (p : Nat → Bool) : Bool := p 0 && (p 1 && (p 2 && (p 3 && (p 4 && (p 5 && (p 6 && p 7))))))
theorem upto8_at {p : Nat → Bool} (h : upto8 p = true) (j : Nat) (hj : j < 8) : p j = true := by
  simp only [upto8, Bool.and_eq_true] at h
  have hc : j = 0 ∨ j = 1 ∨ j = 2 ∨ j = 3 ∨ j = 4 ∨ j = 5 ∨ j = 6 ∨ j = 7 := by omega
  rcases hc with e | e | e | e | e | e | e | e <;> rw [e]
  · exact h.1
  · exact h.2.1
  · exact h.2.2.1
  · exact h.2.2.2.1
  · exact h.2.2.2.2.1
  · exact h.2.2.2.2.2.1
  · exact h.2.2.2.2.2.2.1
  · exact h.2.2.2.2.2.2.2
def preL (E : Env) : Bool := E.I 1000 == 0 && (upto8 (fun j => E.I (2000 + j) == E.I (1001 + j)) && (upto8 (fun j => E.I (142 + 100 * j) == 0 || E.I (142 + 100 * j) == 32) && (Nat.ble (E.N 3) (E.N 0) && Nat.ble (E.N 0 + E.N 1) (E.N 4))))
def lawEnt : LoopEntry Empty := ⟨105, [(1, .one (.slo 27 1 0 1 2)), (2, .one (.ptr 28)), (4, .one (.tt false)), (6, .one (.ptr 0)), (8, .one (.num .u64 0)), (9, .one (.num .i64 0))], lawT, fun _ E => .ite (preL E) lawOut (.stuck 8)⟩
theorem lawEnt_ok (E : Env) : LoopSound cfgE.P SN lawBody (lawEnt.frame E) (instH E lawT) (.ite (preL E) lawOut (.stuck 8)) := by
  intro ρ F w w0 F0 a Q hcon hfr hT
  cases hp : preL E with
  | false => exact (hT.2 hp).elim
  | true =>
    have hT1 := hT.1 hp
    unfold preL at hp
    simp only [Bool.and_eq_true] at hp
    obtain ⟨h1, h2, h3, h4, h5⟩ := hp
    have hI : LInv E.I := ⟨fun j hj => by simpa using upto8_at h2 j hj, fun j hj => by have := upto8_at h3 j hj; simpa using this⟩
    have h0 : E.I 1000 = 0 := by simpa using h1
    have hs : FrSub (lawFr (withI E E.I) 0) (lawEnt.frame E) := by
      refine FrSub.of (fr := lawFr (withI E E.I) 0) (fr' := lawEnt.frame E) (Nat.le_refl 105) ⟨⟨_, rfl, rfl⟩, ⟨_, rfl, rfl⟩, ⟨_, rfl, rfl⟩, ⟨_, rfl, rfl⟩, ⟨AV.int false .u64 0, rfl, ?_⟩, ⟨AV.int false .i64 0, rfl, rfl⟩, trivial⟩
      show AV.int true .u64 0 = AV.int true .u64 (E.I 1000)
      rw [h0]
    exact loop_fr hs (law_loop E hI ⟨Nat.le_of_ble_eq_true h4, Nat.le_of_ble_eq_true h5⟩) ρ F w w0 F0 a Q hcon hfr hT1
def lawK : LoopK Empty := ⟨5, 11, lawEnt⟩
theorem lawK_ok : lawK.ok Tryz.prog SN := by
  refine ⟨by kernel_rfl, fun fn code hfn hc b hb hk q E => ?_⟩
  have e : fn = Tryz.f5 := Option.some.inj (hfn.symm.trans f5_fn)
  rw [e] at hc
  have e2 : bodyOf Tryz.f5 = code := by unfold bodyOf; rw [hc]
  have hm : b ∈ (loopsOf (bodyOf Tryz.f5)).filter (fun b => Nat.beq (loopKey b) 11) := List.mem_filter.2 ⟨by rw [e2]; exact hb, by rw [hk]; rfl⟩
  rw [f5_law, List.mem_singleton] at hm
  rw [hm, ← cfgE_P]
  exact lawEnt_ok E
theorem KS_ok : KOK Tryz.prog SN (memoK SN.locs KA [mShown]) := memoK_ok SN_locs KA_ok [mShown] (by intro m hm; simp only [List.mem_singleton] at hm; subst hm; exact shown_ok)
noncomputable def cfgF : Cfg Empty := mkL (memoK SN.locs KA [mShown]) [lawK] fun _ _ n => n
theorem cfgF_ok : CfgOK SN cfgF := mkL_ok KS_ok (by
  intro c hc
  rw [List.mem_singleton] at hc
  rw [hc]; exact lawK_ok) _
end Go.Proofs.YtgbhiamfjikonaaGreatDoor
