/- SX: loops by an invariant, where a round may leave behind what nobody names. -/
import Derived.Test.YtgbhiamfjikonaaGreatDoorSxCfg
set_option linter.unusedVariables false
set_option linter.unusedSimpArgs false
namespace Go.SX
section
variable {M : Type} {S : Seal M}

def roundOK3 {ι : Type} (fr : ι → Fr) (H : ι → Hp M) (lt : ι → Prop) (H0 : Hp M) (T : Tree (Ex × Fr × Eff M)) : Ex × Fr × Hs M → Prop
  | (.normal, fr', X) => ∃ j g, lt j ∧ FrSub (fr j) fr' ∧ erH (H j ++ g) = erH X.h
  | (e, fr', X) => ∃ m, hitsX H0 (e, fr', maskH m 0 X.h) T

theorem vis_left {H g : Hp M} {l : Nat} (hl : l < H.length) : vis (H ++ g) l = vis H l := by
  rw [vis_eq, vis_eq, List.getElem?_append_left hl]

/-- A loop by an invariant; a round may leave garbage. -/
theorem loop_inv3 {cfg : Cfg M} (hcfg : CfgOK S cfg) {fid : FuncId} {b : Code} (hb : LoopsIn cfg.P S (cfg.loop fid) b) (n : Nat) {ι : Type} (fr : ι → Fr) (H : ι → Hp M) (ms : ι → Nat) (i0 : ι) (T : Tree (Ex × Fr × Eff M))
    (hlen : ∀ i, (H i).length = (H i0).length) (hscF : ∀ i, scP (vis (H i)) (fr i).l = true) (hscH : ∀ i (l : Nat) (o : AO M), (H i)[l]? = some o → o.Sc S (vis (H i)))
    (hround : ∀ i, Ok (code cfg S.locs n fid b (fr i) ⟨H i, []⟩) (roundOK3 fr H (fun j => ms j < ms i) (H i0) T)) : LoopSound cfg.P S b (fr i0) (H i0) T := by
  intro ρ F w w0 F0 a Q hcon hfr hT
  have key : ∀ (m : Nat) (i : ι) (ρ' : Nat → Nat) (F' : Nat → Nat → Prop) (w' : World) (a' : Act), ms i < m → Agree (H i0) (H i) ρ ρ' → Con S w0 F0 (H i) ρ' F' w' → FrRel (H i) ρ' (fr i) a' → Code.rounds cfg.P b Q m a' w' := by
    intro m
    induction m with
    | zero => intro i ρ' F' w' a' h; omega
    | succ m ih =>
      intro i ρ' F' w' a' hlt hag hcon' hfr'
      rw [rounds_succ]
      refine code_sound hcfg n fid b (fr i) ⟨H i, []⟩ ρ' F' w' w0 F0 a' _ hb hcon' hfr' (Tree.all_mono (hround i).h ?_)
      rintro ⟨e, fr', X⟩ h1
      have out : ∀ e, (∃ m, hitsX (H i0) (e, fr', maskH m 0 X.h) T) → CodeLeaf S w0 F0 (H i0) ρ Q (e, fr', X) := fun e ⟨m, h⟩ => leaf_lose (hitsX_all h hT)
      cases e with
      | normal =>
        intro ρ2 F2 w2 a2 hag2 hcon2 hfr2
        obtain ⟨j, g, hj, hsub, heq⟩ := h1
        have hv := vis_of_er heq
        have hcg : Con S w0 F0 (H j ++ g) ρ2 F2 w2 := con_er.1 (by rw [heq]; exact con_er.2 hcon2)
        have hc3 := hcg.forget (fun l o h => hscH j l o h)
        have hag3 : Agree (H i0) (H j) ρ ρ2 := by
          have h3 := hag.trans (agree_vis hv.symm hag2)
          refine ⟨h3.same, fun l hl => ?_⟩
          have h4 := h3.keep l hl
          rw [vis_left (by rw [hlen j]; exact vis_lt hl)] at h4
          exact h4
        refine ih j ρ2 _ w2 a2 (by omega) hag3 hc3 ?_
        have hfj := hfr2.sub hsub hv
        exact ⟨hfj.den, fun t v ht => scP_mem (hscF j) (evFr_mem ht), hfj.len, hfj.defers⟩
      | exit id => exact fun ρ2 F2 w2 a2 hag2 hcon2 hfr2 => out (.exit id) h1 ρ2 F2 w2 a2 (hag.trans hag2) hcon2 hfr2
      | ret => exact fun ρ2 F2 w2 a2 hag2 hcon2 hfr2 => out .ret h1 ρ2 F2 w2 a2 (hag.trans hag2) hcon2 hfr2
  exact wp_loop_rounds (ms i0 + 1) (key _ i0 ρ F w a (Nat.lt_succ_self _) (Agree.refl _ _) hcon hfr)

theorem round_trim3 {ι : Type} {fr : ι → Fr} {H : ι → Hp M} {lt : ι → Prop} {H0 : Hp M} {T : Tree (Ex × Fr × Eff M)} (l : List Nat) {t : Tree (Ex × Fr × Hs M)} (h : (trimT l t).all (roundOK3 fr H lt H0 T)) : t.all (roundOK3 fr H lt H0 T) := by
  unfold trimT at h
  rw [Tree.all_bind] at h
  refine Tree.all_mono h ?_
  rintro ⟨e, fr', X⟩ h1
  simp only [Tree.all] at h1
  cases e with
  | normal =>
    obtain ⟨j, g, a, b, c⟩ := h1
    exact ⟨j, g, a, b.trans (trim_sub l fr'), c⟩
  | exit id => obtain ⟨m, h⟩ := h1; exact ⟨m, hitsX_sub (trim_sub l fr') h⟩
  | ret => obtain ⟨m, h⟩ := h1; exact ⟨m, hitsX_sub (trim_sub l fr') h⟩

/-- A template's heap is closed. -/
theorem instH_Sc {l : List TO} {E : Env} (h : l.all (toIn l.length) = true) : ∀ (i : Nat) (o : AO M), (instH E l : Hp M)[i]? = some o → o.Sc S (vis (instH E l : Hp M)) := by
  intro i o ho
  rw [instH_get] at ho
  cases ht : l[i]? with
  | none => rw [ht] at ho; cases ho
  | some t =>
    rw [ht] at ho
    simp only [Option.map_some, Option.some.injEq] at ho
    subst ho
    refine toIn_sc (n := l.length) (fun k hk => vis_some (o := instO E l[k]) ?_ (instO_vis E _)) (List.all_eq_true.1 h t (List.mem_of_getElem? ht))
    rw [instH_get, List.getElem?_eq_getElem hk]; rfl
end
end Go.SX
