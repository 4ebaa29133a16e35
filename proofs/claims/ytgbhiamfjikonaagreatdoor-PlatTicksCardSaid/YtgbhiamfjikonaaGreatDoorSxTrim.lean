/- SX: rounds of a loop, with what is told of few slots. -/
import Derived.Test.YtgbhiamfjikonaaGreatDoorSxMatchX
set_option linter.unusedVariables false
set_option linter.unusedSimpArgs false
namespace Go.SX
section
variable {M : Type} {S : Seal M}

def trimL (fr : Fr) : List Nat → List (Nat × AV)
  | [] => []
  | t :: l => match evFr fr t with
    | some v => (t, v) :: trimL fr l
    | none => trimL fr l

/-- Of all slots these. -/
def trimFr (l : List Nat) (fr : Fr) : Fr := ⟨fr.n, trimL fr l⟩

theorem trimL_mem {fr : Fr} : ∀ {l : List Nat} {t : Nat} {v : AV}, (t, v) ∈ trimL fr l → evFr fr t = some v
  | [], t, v, h => by simp [trimL] at h
  | k :: l, t, v, h => by
    simp only [trimL] at h
    split at h
    · rename_i u hu
      simp only [List.mem_cons, Prod.mk.injEq] at h
      rcases h with ⟨rfl, rfl⟩ | h
      · exact hu
      · exact trimL_mem h
    · exact trimL_mem h

theorem trim_sub (l : List Nat) (fr : Fr) : FrSub (trimFr l fr) fr :=
  ⟨Nat.le_refl _, fun t v h => ⟨v, trimL_mem (evFr_mem h), rfl⟩⟩

theorem FrSub.trans {a b c : Fr} (h1 : FrSub a b) (h2 : FrSub b c) : FrSub a c :=
  ⟨Nat.le_trans h1.n h2.n, fun t v h => by
    obtain ⟨u, hu, e1⟩ := h1.ev t v h
    obtain ⟨x, hx, e2⟩ := h2.ev t u hu
    exact ⟨x, hx, e2.trans e1⟩⟩

def trimT (l : List Nat) (t : Tree (Ex × Fr × Hs M)) : Tree (Ex × Fr × Hs M) := t.bind fun (e, fr, X) => .leaf (e, trimFr l fr, X)

theorem hitsX_sub {H0 : Hp M} {e : Ex} {fr fr' : Fr} {H : Hp M} (hs : FrSub fr fr') : ∀ {T : Tree (Ex × Fr × Eff M)}, hitsX H0 (e, fr, H) T → hitsX H0 (e, fr', H) T
  | .leaf (e', fr'', ef), ⟨h1, h2, h3⟩ => ⟨h1, h2.trans hs, h3⟩
  | .ite b t u, h => by
    rcases h with ⟨hb, h⟩ | ⟨hb, h⟩
    · exact .inl ⟨hb, hitsX_sub hs h⟩
    · exact .inr ⟨hb, hitsX_sub hs h⟩
  | .any f, ⟨n, h⟩ => ⟨n, hitsX_sub hs h⟩
  | .stuck _, _ => trivial

theorem round_trim {ι : Type} {fr : ι → Fr} {H : ι → Hp M} {lt : ι → Prop} {H0 : Hp M} {T : Tree (Ex × Fr × Eff M)} (l : List Nat) {t : Tree (Ex × Fr × Hs M)} (h : (trimT l t).all (roundOK fr H lt H0 T)) : t.all (roundOK fr H lt H0 T) := by
  unfold trimT at h
  rw [Tree.all_bind] at h
  refine Tree.all_mono h ?_
  rintro ⟨e, fr', X⟩ h1
  simp only [Tree.all] at h1
  cases e with
  | normal =>
    obtain ⟨j, a, b, c⟩ := h1
    exact ⟨j, a, b.trans (trim_sub l fr'), c⟩
  | exit id => exact hitsX_sub (trim_sub l fr') h1
  | ret => exact hitsX_sub (trim_sub l fr') h1

/-! Ways out where something is forgotten. -/

theorem Con.lose {H : Hp M} {ρ : Nat → Nat} {F : Nat → Nat → Prop} {w w0 : World} {F0 : Nat → Prop} (m : Nat → Bool) (hcon : Con S w0 F0 H ρ F w) : Con S w0 F0 (maskH m 0 H) ρ (fun l x => m l = false ∧ F l x) w := by
  have h := hcon.mask m
  exact ⟨h.rep, h.scp, h.out, h.dis, fun l x hx => hcon.lt l x hx.2, fun l x hx => hcon.own l x hx.2, hcon.old, hcon.size, hcon.os, hcon.tape, hcon.output⟩

def roundOK2 {ι : Type} (fr : ι → Fr) (H : ι → Hp M) (lt : ι → Prop) (H0 : Hp M) (T : Tree (Ex × Fr × Eff M)) : Ex × Fr × Hs M → Prop
  | (.normal, fr', X) => ∃ j, lt j ∧ FrSub (fr j) fr' ∧ erH (H j) = erH X.h
  | (e, fr', X) => ∃ m, hitsX H0 (e, fr', maskH m 0 X.h) T

theorem leaf_lose {w0 : World} {F0 : Nat → Prop} {H0 : Hp M} {ρ : Nat → Nat} {Q : Exit → Act → World → Prop} {e : Ex} {fr : Fr} {X : Hs M} {m : Nat → Bool} (h : CodeLeaf S w0 F0 H0 ρ Q (e, fr, ⟨maskH m 0 X.h, []⟩)) : CodeLeaf S w0 F0 H0 ρ Q (e, fr, X) := by
  intro ρ' F' w' a' hag hcon hfr
  have hv := maskH_vis m X.h
  exact h ρ' _ w' a' (agree_vis hv.symm hag) (hcon.lose m) ⟨hfr.den, by simp only; rw [hv]; exact hfr.sc, hfr.len, hfr.defers⟩

/-- A loop by an invariant, where its ways out may forget. -/
theorem loop_inv2 {cfg : Cfg M} (hcfg : CfgOK S cfg) {fid : FuncId} {b : Code} (hb : LoopsIn cfg.P S (cfg.loop fid) b) (n : Nat) {ι : Type} (fr : ι → Fr) (H : ι → Hp M) (ms : ι → Nat) (i0 : ι) (T : Tree (Ex × Fr × Eff M))
    (hround : ∀ i, (code cfg S.locs n fid b (fr i) ⟨H i, []⟩).all (roundOK2 fr H (fun j => ms j < ms i) (H i0) T)) : LoopSound cfg.P S b (fr i0) (H i0) T := by
  intro ρ F w w0 F0 a Q hcon hfr hT
  have key : ∀ (m : Nat) (i : ι) (ρ' : Nat → Nat) (F' : Nat → Nat → Prop) (w' : World) (a' : Act), ms i < m → Agree (H i0) (H i) ρ ρ' → Con S w0 F0 (H i) ρ' F' w' → FrRel (H i) ρ' (fr i) a' → Code.rounds cfg.P b Q m a' w' := by
    intro m
    induction m with
    | zero => intro i ρ' F' w' a' h; omega
    | succ m ih =>
      intro i ρ' F' w' a' hlt hag hcon' hfr'
      rw [rounds_succ]
      refine code_sound hcfg n fid b (fr i) ⟨H i, []⟩ ρ' F' w' w0 F0 a' _ hb hcon' hfr' (Tree.all_mono (hround i) ?_)
      rintro ⟨e, fr', X⟩ h1
      have out : ∀ e, (∃ m, hitsX (H i0) (e, fr', maskH m 0 X.h) T) → CodeLeaf S w0 F0 (H i0) ρ Q (e, fr', X) := fun e ⟨m, h⟩ => leaf_lose (hitsX_all h hT)
      cases e with
      | normal =>
        intro ρ2 F2 w2 a2 hag2 hcon2 hfr2
        obtain ⟨j, hj, hsub, heq⟩ := h1
        have hv := vis_of_er heq
        exact ih j ρ2 F2 w2 a2 (by omega) (hag.trans (agree_vis hv.symm hag2)) (con_er.1 (by rw [heq]; exact con_er.2 hcon2)) (hfr2.sub hsub hv)
      | exit id => exact fun ρ2 F2 w2 a2 hag2 hcon2 hfr2 => out (.exit id) h1 ρ2 F2 w2 a2 (hag.trans hag2) hcon2 hfr2
      | ret => exact fun ρ2 F2 w2 a2 hag2 hcon2 hfr2 => out .ret h1 ρ2 F2 w2 a2 (hag.trans hag2) hcon2 hfr2
  exact wp_loop_rounds (ms i0 + 1) (key _ i0 ρ F w a (Nat.lt_succ_self _) (Agree.refl _ _) hcon hfr)

theorem round_trim2 {ι : Type} {fr : ι → Fr} {H : ι → Hp M} {lt : ι → Prop} {H0 : Hp M} {T : Tree (Ex × Fr × Eff M)} (l : List Nat) {t : Tree (Ex × Fr × Hs M)} (h : (trimT l t).all (roundOK2 fr H lt H0 T)) : t.all (roundOK2 fr H lt H0 T) := by
  unfold trimT at h
  rw [Tree.all_bind] at h
  refine Tree.all_mono h ?_
  rintro ⟨e, fr', X⟩ h1
  simp only [Tree.all] at h1
  cases e with
  | normal =>
    obtain ⟨j, a, b, c⟩ := h1
    exact ⟨j, a, b.trans (trim_sub l fr'), c⟩
  | exit id => obtain ⟨m, h⟩ := h1; exact ⟨m, hitsX_sub (trim_sub l fr') h⟩
  | ret => obtain ⟨m, h⟩ := h1; exact ⟨m, hitsX_sub (trim_sub l fr') h⟩

theorem FrSub.refl (fr : Fr) : FrSub fr fr := ⟨Nat.le_refl _, fun t v h => ⟨v, h, rfl⟩⟩

/-- All leaves are so (not to be unfolded by chance). -/
structure Ok {α : Type} (t : Tree α) (Q : α → Prop) : Prop where
  h : t.all Q

/-- A number set. -/
def updI (E : Env) (h : Nat) (v : Int) : Env := { E with I := fun k => cond (Nat.beq k h) v (E.I k) }

/-- Some objects of a heap, to be set. -/
def setsAt (H : Hp M) : List Nat → List (Nat × AO M)
  | [] => []
  | l :: r => match lget H l with
    | some o => (l, o) :: setsAt H r
    | none => setsAt H r
def losesAt : List Nat → List (Nat × AO M)
  | [] => []
  | l :: r => (l, .none) :: losesAt r
end
end Go.SX
