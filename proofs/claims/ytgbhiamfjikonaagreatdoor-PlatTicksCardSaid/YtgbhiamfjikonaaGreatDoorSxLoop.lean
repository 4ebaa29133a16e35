/- SX: contracts of loops: by an invariant, and over a small heap. -/
import Derived.Test.YtgbhiamfjikonaaGreatDoorSxErase
set_option linter.unusedVariables false
set_option linter.unusedSimpArgs false
namespace Go.SX
section
variable {M : Type} {S : Seal M}

/-- What a frame tells, another tells too. -/
structure FrSub (fr fr' : Fr) : Prop where
  n : fr.n ≤ fr'.n
  ev : ∀ t v, evFr fr t = some v → ∃ u, evFr fr' t = some u ∧ u.er = v.er

theorem FrRel.sub {H H' : Hp M} {ρ : Nat → Nat} {fr fr' : Fr} {a : Act} (hs : FrSub fr fr') (hv : vis H' = vis H) (h : FrRel H ρ fr' a) : FrRel H' ρ fr a := by
  refine ⟨fun t v ht => ?_, fun t v ht => ?_, Nat.le_trans hs.n h.len, h.defers⟩
  · obtain ⟨u, hu, he⟩ := hs.ev t v ht
    rw [h.den t u hu, ← den_er, he, den_er]
  · obtain ⟨u, hu, he⟩ := hs.ev t v ht
    rw [hv, ← sc_er, ← he, sc_er]
    exact h.sc t u hu

/-- The same of lists. -/
def subL (fr' : Fr) : List (Nat × AV) → Prop
  | [] => True
  | (t, v) :: l => (∃ u, evFr fr' t = some u ∧ u.er = v.er) ∧ subL fr' l

theorem fget_mem : ∀ {l : List (Nat × AV)} {t : Nat} {v : AV}, fget l t = some v → (t, v) ∈ l
  | [], t, v, h => by simp [fget] at h
  | (i, u) :: l, t, v, h => by
    simp only [fget] at h
    split at h
    · rename_i hb
      simp only [Option.some.injEq] at h
      rw [Nat.eq_of_beq_eq_true hb, h]
      exact List.mem_cons_self
    · exact List.mem_cons_of_mem _ (fget_mem h)

theorem evFr_mem {fr : Fr} {t : Nat} {v : AV} (h : evFr fr t = some v) : (t, v) ∈ fr.l := by
  unfold evFr at h
  split at h
  · exact fget_mem h
  · cases h

theorem subL_mem {fr' : Fr} : ∀ {l : List (Nat × AV)}, subL fr' l → ∀ {t : Nat} {v : AV}, (t, v) ∈ l → ∃ u, evFr fr' t = some u ∧ u.er = v.er
  | [], _, t, v, h => by simp at h
  | (i, x) :: l, hs, t, v, h => by
    simp only [List.mem_cons, Prod.mk.injEq] at h
    rcases h with ⟨rfl, rfl⟩ | h
    · exact hs.1
    · exact subL_mem hs.2 h

theorem FrSub.of {fr fr' : Fr} (hn : fr.n ≤ fr'.n) (h : subL fr' fr.l) : FrSub fr fr' :=
  ⟨hn, fun t v ht => subL_mem h (evFr_mem ht)⟩

/-- The way out of a loop is told by its contract. -/
def hitsX (H0 : Hp M) (x : Ex × Fr × Hp M) : Tree (Ex × Fr × Eff M) → Prop
  | .leaf (e, fr, ef) => e = x.1 ∧ FrSub fr x.2.1 ∧ erH (ef.app H0) = erH x.2.2
  | .ite b t e => (b = true ∧ hitsX H0 x t) ∨ (b = false ∧ hitsX H0 x e)
  | .any f => ∃ n, hitsX H0 x (f n)
  | .stuck _ => True

theorem vis_of_er {H H' : Hp M} (h : erH H = erH H') : vis H = vis H' := by rw [← visH_er H, h, visH_er]

theorem hitsX_all {w0 : World} {F0 : Nat → Prop} {H0 : Hp M} {ρ : Nat → Nat} {Q : Exit → Act → World → Prop} : ∀ {t : Tree (Ex × Fr × Eff M)} {x : Ex × Fr × Hp M}, hitsX H0 x t →
    t.all (fun y => CodeLeaf S w0 F0 H0 ρ Q (y.1, y.2.1, ⟨y.2.2.app H0, []⟩)) → CodeLeaf S w0 F0 H0 ρ Q (x.1, x.2.1, ⟨x.2.2, []⟩)
  | .leaf (e, fr, ef), x, ⟨h1, h2, h3⟩, ha => by
    intro ρ' F' w' a' hag hcon hfr
    have hv := vis_of_er h3
    have := ha ρ' F' w' a' (agree_vis hv.symm hag) (con_er.1 (by simp only; rw [h3]; exact con_er.2 hcon)) (hfr.sub h2 hv)
    simp only at this
    rw [h1] at this
    exact this
  | .ite b t e, x, h, ha => by
    rcases h with ⟨hb, h⟩ | ⟨hb, h⟩
    · exact hitsX_all h (ha.1 hb)
    · exact hitsX_all h (ha.2 hb)
  | .any f, x, ⟨n, h⟩, ha => hitsX_all h (ha n)
  | .stuck n, x, _, ha => ha.elim

/-- What a round of a loop owes: it goes on as the invariant says, or out as the contract says. -/
def roundOK {ι : Type} (fr : ι → Fr) (H : ι → Hp M) (lt : ι → Prop) (H0 : Hp M) (T : Tree (Ex × Fr × Eff M)) : Ex × Fr × Hs M → Prop
  | (.normal, fr', X) => ∃ j, lt j ∧ FrSub (fr j) fr' ∧ erH (H j) = erH X.h
  | (e, fr', X) => hitsX H0 (e, fr', X.h) T

/-- A loop by an invariant. -/
theorem loop_inv {cfg : Cfg M} (hcfg : CfgOK S cfg) {fid : FuncId} {b : Code} (hb : LoopsIn cfg.P S (cfg.loop fid) b) (n : Nat) {ι : Type} (fr : ι → Fr) (H : ι → Hp M) (ms : ι → Nat) (i0 : ι) (T : Tree (Ex × Fr × Eff M))
    (hround : ∀ i, (code cfg S.locs n fid b (fr i) ⟨H i, []⟩).all (roundOK fr H (fun j => ms j < ms i) (H i0) T)) : LoopSound cfg.P S b (fr i0) (H i0) T := by
  intro ρ F w w0 F0 a Q hcon hfr hT
  have key : ∀ (m : Nat) (i : ι) (ρ' : Nat → Nat) (F' : Nat → Nat → Prop) (w' : World) (a' : Act), ms i < m → Agree (H i0) (H i) ρ ρ' → Con S w0 F0 (H i) ρ' F' w' → FrRel (H i) ρ' (fr i) a' → Code.rounds cfg.P b Q m a' w' := by
    intro m
    induction m with
    | zero => intro i ρ' F' w' a' h; omega
    | succ m ih =>
      intro i ρ' F' w' a' hlt hag hcon' hfr'
      rw [rounds_succ]
      refine code_sound hcfg n fid b (fr i) ⟨H i, []⟩ ρ' F' w' w0 F0 a' _ hb hcon' hfr' (Tree.all_mono (hround i) ?_)
      rintro ⟨e, fr', X⟩ h1
      intro ρ2 F2 w2 a2 hag2 hcon2 hfr2
      cases e with
      | normal =>
        obtain ⟨j, hj, hsub, heq⟩ := h1
        have hv := vis_of_er heq
        exact ih j ρ2 F2 w2 a2 (by omega) (hag.trans (agree_vis hv.symm hag2)) (con_er.1 (by rw [heq]; exact con_er.2 hcon2)) (hfr2.sub hsub hv)
      | exit id => exact hitsX_all h1 hT ρ2 F2 w2 a2 (hag.trans hag2) hcon2 hfr2
      | ret => exact hitsX_all h1 hT ρ2 F2 w2 a2 (hag.trans hag2) hcon2 hfr2
  exact wp_loop_rounds (ms i0 + 1) (key _ i0 ρ F w a (Nat.lt_succ_self _) (Agree.refl _ _) hcon hfr)

/-! Over a small heap. -/

def renP (σ : Nat → Nat) : List (Nat × AV) → List (Nat × AV)
  | [] => []
  | (t, v) :: l => (t, v.ren σ) :: renP σ l

def renFr (σ : Nat → Nat) (fr : Fr) : Fr := ⟨fr.n, renP σ fr.l⟩

theorem fget_ren (σ : Nat → Nat) : ∀ (l : List (Nat × AV)) (t : Nat), fget (renP σ l) t = (fget l t).map (AV.ren σ)
  | [], t => rfl
  | (i, v) :: l, t => by
    simp only [renP, fget]
    split
    · rfl
    · exact fget_ren σ l t

theorem evFr_ren (σ : Nat → Nat) (fr : Fr) (t : Nat) : evFr (renFr σ fr) t = (evFr fr t).map (AV.ren σ) := by
  unfold evFr renFr
  simp only
  split
  · exact fget_ren σ fr.l t
  · rfl

def scP (V : Nat → Bool) : List (Nat × AV) → Bool
  | [] => true
  | (_, v) :: l => scq2 V v && scP V l

theorem scP_mem {V : Nat → Bool} : ∀ {l : List (Nat × AV)}, scP V l = true → ∀ {t : Nat} {v : AV}, (t, v) ∈ l → v.sc V = true
  | [], _, t, v, h => by simp at h
  | (i, x) :: l, hs, t, v, h => by
    simp only [scP, Bool.and_eq_true, scq2_eq] at hs
    simp only [List.mem_cons, Prod.mk.injEq] at h
    rcases h with ⟨rfl, rfl⟩ | h
    · exact hs.1
    · exact scP_mem hs.2 h

def embedX (locs : M → List Nat) (H0 : Hp M) (σ : Nat → Nat) (H : Hp M) (t : Tree (Ex × Fr × Eff M)) : Tree (Ex × Fr × Eff M) :=
  t.bind fun (e, fr, ef) => match ef with
    | .ext sets news => match scP (vis ((Eff.ext sets news).app H0)) fr.l && (Eff.ext sets news).scq (vis ((Eff.ext sets news).app H0)) locs with
      | true => .leaf (e, renFr (inn σ (lenH H0) (lenH H)) fr, .ext (renSets (inn σ (lenH H0) (lenH H)) sets) (renNews (inn σ (lenH H0) (lenH H)) news))
      | false => .stuck 191

theorem loop_embed (hlocs : ∀ m, S.locs m = []) {P : Program} {b : Code} {fr0 fr : Fr} {H0 H : Hp M} {T : Tree (Ex × Fr × Eff M)} {σ : Nat → Nat} (hL : LoopSound P S b fr0 H0 T) (hW : Within S H0 σ H)
    (hsub : FrSub (renFr σ fr0) fr) (hsc : scP (vis H0) fr0.l = true) : LoopSound P S b fr H (embedX S.locs H0 σ H T) := by
  intro ρ F w w0 F0 a Q hcon hfr hT
  have hfr1 : FrRel H ρ (renFr σ fr0) a := hfr.sub hsub rfl
  have hfr0 : FrRel H0 (fun l => ρ (σ l)) fr0 a := by
    refine ⟨fun t v ht => ?_, fun t v ht => scP_mem hsc (evFr_mem ht), hfr1.len, hfr1.defers⟩
    rw [hfr1.den t (v.ren σ) (by rw [evFr_ren, ht]; rfl), den_ren]
  refine hL _ _ w w _ a Q (hcon.inner hlocs hW) hfr0 ?_
  unfold embedX at hT
  rw [Tree.all_bind] at hT
  refine Tree.all_mono hT ?_
  rintro ⟨e, fr', sets, news⟩ h1
  simp only at h1
  split at h1
  · rename_i hs
    rw [Bool.and_eq_true, escq_eq] at hs
    obtain ⟨hp, hes⟩ := hs
    intro ρl Fl w' a' hag hcl hfl
    simp only at hag hcl hfl
    rw [app_ext] at hag hcl hfl hes hp
    simp only [Eff.sc, Bool.and_eq_true] at hes
    obtain ⟨ρ', F', hag', hcon', hcomp, hvis⟩ := hcon.outer hlocs hW hes hag hcl
    simp only [lenH_eq] at h1
    have h2 := h1 ρ' F' w' a' (by simp only; rw [app_ext]; exact hag') (by simp only; rw [app_ext]; exact hcon') ?_
    · exact h2
    · simp only
      rw [app_ext]
      refine ⟨fun t v ht => ?_, fun t v ht => ?_, hfl.len, hfl.defers⟩
      · rw [evFr_ren] at ht
        cases hu : evFr fr' t with
        | none => rw [hu] at ht; cases ht
        | some u =>
          rw [hu] at ht
          simp only [Option.map_some, Option.some.injEq] at ht
          subst ht
          rw [hfl.den t u hu, den_ren, hcomp]
      · rw [evFr_ren] at ht
        cases hu : evFr fr' t with
        | none => rw [hu] at ht; cases ht
        | some u =>
          rw [hu] at ht
          simp only [Option.map_some, Option.some.injEq] at ht
          subst ht
          rw [sc_ren]
          exact sc_mono _ _ hvis u (scP_mem hp (evFr_mem hu))
  · exact h1.elim
end
end Go.SX
