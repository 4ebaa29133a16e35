/- SX: a part of the proof of this claim; it stands under the statement's own conditions alone. -/
import Derived.Test.YtgbhiamfjikonaaGreatDoorSxIn22
set_option maxRecDepth 100000
set_option linter.unusedVariables false
namespace Go.Proofs.YtgbhiamfjikonaaGreatDoor
open Go Go.SX Go.Proofs
theorem maskH_no {M : Type} : ∀ (H : Hp M) (i : Nat), maskH (fun _ => false) i H = H
  | [], _ => rfl
  | o :: H, i => by simp only [maskH, maskH_no H (i + 1)]
theorem in_frs (E : Env) : FrSub ⟨105, inFr0 E⟩ (inFr E 8) := FrSub.of (Nat.le_refl 105) ⟨⟨_, rfl, rfl⟩, ⟨_, rfl, rfl⟩, ⟨_, rfl, rfl⟩, ⟨_, rfl, rfl⟩, ⟨_, rfl, rfl⟩, ⟨_, rfl, rfl⟩, ⟨_, rfl, rfl⟩, trivial⟩
theorem hits_pre {H0 H : Hp Empty} {e : Ex} {fr fr' : Fr} {p : Bool} {n : Nat} (h1 : FrSub fr' fr) (h2 : erH H0 = erH H) : hitsX H0 (e, fr, H) (.ite p (.leaf (e, fr', .ext [] [])) (.stuck n)) := by
  cases p with
  | true => exact .inl ⟨rfl, rfl, h1, h2⟩
  | false => exact .inr ⟨rfl, trivial⟩
theorem in_exit (E : Env) : Ok (code cfgD SN.locs 100 5 inBody (inFr E 8) ⟨instH E inT, []⟩) (inR E 8) := by
  refine ⟨round_trim3 [1, 2, 4, 6, 8, 9, 10, 11] ?_⟩
  have h1 : trimT [1, 2, 4, 6, 8, 9, 10, 11] (code cfgD SN.locs 100 5 inBody (inFr E 8) ⟨instH E inT, []⟩) = .leaf (.exit 4, inFr E 8, ⟨instH E inT, []⟩) := in_8 E
  rw [h1]
  have h2 : inR E 8 (.exit 4, inFr E 8, ⟨instH E inT, []⟩) := ⟨fun _ => false, hits_pre (in_frs E) (by simp only; rw [maskH_no])⟩
  exact h2
theorem in_rounds (E : Env) (k : Nat) (hk : k ≤ 8) : Ok (code cfgD SN.locs 100 5 inBody (inFr E k) ⟨instH E inT, []⟩) (inR E k) := by
  have hc : k = 0 ∨ k = 1 ∨ k = 2 ∨ k = 3 ∨ k = 4 ∨ k = 5 ∨ k = 6 ∨ k = 7 ∨ k = 8 := by omega
  rcases hc with e | e | e | e | e | e | e | e | e
  · rw [e]; exact in_round E 0 (by omega) (in_0 E)
  · rw [e]; exact in_round E 1 (by omega) (in_1 E)
  · rw [e]; exact in_round E 2 (by omega) (in_2 E)
  · rw [e]; exact in_round E 3 (by omega) (in_3 E)
  · rw [e]; exact in_round E 4 (by omega) (in_4 E)
  · rw [e]; exact in_round E 5 (by omega) (in_5 E)
  · rw [e]; exact in_round E 6 (by omega) (in_6 E)
  · rw [e]; exact in_round E 7 (by omega) (in_7 E)
  · rw [e]; exact in_exit E
theorem in_scH (E : Env) : ∀ (l : Nat) (o : AO Empty), (instH E inT : Hp Empty)[l]? = some o → o.Sc SN (vis (instH E inT : Hp Empty)) := instH_Sc (by kernel_rfl)
theorem in_scF (E : Env) (k : Nat) : scP (vis (instH E inT : Hp Empty)) (inFr E k).l = true := by kernel_rfl
/-- No contract of a loop of this function. -/
theorem cfgD_five (c : Code) : LoopsIn cfgD.P SN (cfgD.loop 5) c := by
  have e : cfgD.loop 5 = fun _ _ _ => none := by
    funext k fr H
    show loopK SN.locs [dueK] 5 k fr H = none
    have : (Nat.beq dueK.f 5) = false := by rfl
    simp only [loopK, this, Bool.false_and]
  rw [e]; exact loopsIn_none c
theorem cfgD_P : cfgD.P = Tryz.prog := by unfold cfgD mkL; rfl
theorem in_loop (E : Env) : LoopSound cfgD.P SN inBody (inFr E 0) (instH E inT) (inOut E) :=
  loop_inv3 cfgD_ok (fid := 5) (cfgD_five _) 100 (ι := K9) (fun k => inFr E k.1) (fun _ => instH E inT) (fun k => 8 - k.1) ⟨0, Nat.zero_le 8⟩ (inOut E) (fun _ => rfl) (fun k => in_scF E k.1) (fun k => in_scH E) (fun k => in_rounds E k.1 k.2)
def inK : LoopK Empty := ⟨5, 17, ⟨105, [(1, .one (.slo 27 1 0 1 2)), (2, .one (.ptr 28)), (4, .one (.tt false)), (6, .one (.ptr 0)), (8, .one (.int .u64 0)), (9, .one (.int .i64 1)), (10, .one (.ptr 29)), (11, .one (.num .i64 0))], inT, fun _ E => inOut E⟩⟩
theorem f5_fn : funcB Tryz.prog 5 = some Tryz.f5 := by kernel_rfl
theorem f5_in : (loopsOf (bodyOf Tryz.f5)).filter (fun b => Nat.beq (loopKey b) 17) = [inBody] := by kernel_rfl
theorem inK_ok : inK.ok Tryz.prog SN := by
  refine ⟨by kernel_rfl, fun fn code hfn hc b hb hk q E => ?_⟩
  have e : fn = Tryz.f5 := Option.some.inj (hfn.symm.trans f5_fn)
  rw [e] at hc
  have e2 : bodyOf Tryz.f5 = code := by unfold bodyOf; rw [hc]
  have hm : b ∈ (loopsOf (bodyOf Tryz.f5)).filter (fun b => Nat.beq (loopKey b) 17) := List.mem_filter.2 ⟨by rw [e2]; exact hb, by rw [hk]; rfl⟩
  rw [f5_in, List.mem_singleton] at hm
  rw [hm, ← cfgD_P]
  exact in_loop E
noncomputable def cfgE : Cfg Empty := mkL KA [dueK, inK] fun _ _ n => n
theorem cfgE_ok : CfgOK SN cfgE := mkL_ok KA_ok (by
  intro c hc
  simp only [List.mem_cons, List.not_mem_nil, or_false] at hc
  rcases hc with rfl | rfl
  · exact dueK_ok
  · exact inK_ok) _
noncomputable def lawRunE (E : Env) (k : Nat) : Tree (Ex × Fr × Hs Empty) := trimT [1, 2, 4, 6, 8, 9] (code cfgE SN.locs 100 5 lawBody (lawFr E k) ⟨instH E lawT, []⟩)
end Go.Proofs.YtgbhiamfjikonaaGreatDoor
