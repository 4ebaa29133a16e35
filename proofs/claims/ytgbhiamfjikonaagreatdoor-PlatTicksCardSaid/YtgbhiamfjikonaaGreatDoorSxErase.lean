/- SX: flags of what is symbolic do not matter to what is meant. -/
import Derived.Test.YtgbhiamfjikonaaGreatDoorSxMemo
set_option linter.unusedVariables false
set_option linter.unusedSimpArgs false
namespace Go.SX
section
variable {M : Type} {S : Seal M}

mutual
/-- With all flags up. -/
def AV.er : AV → AV
  | .bool _ b => .bool true b
  | .int _ k n => .int true k n
  | .str _ b => .str true b
  | .slice _ l i z n c => .slice true l i z n c
  | .fn f a b => .fn f (erL a) (erL b)
  | .agg l => .agg (erL l)
  | .tup l => .tup (erL l)
  | v => v
def erL : List AV → List AV
  | [] => []
  | a :: l => a.er :: erL l
end

def erM : List (AV × AV) → List (AV × AV)
  | [] => []
  | (a, b) :: l => (a.er, b.er) :: erM l

def AO.er : AO M → AO M
  | .cells c e => .cells (erL c) e
  | .rows n z g e => .rows n z (fun i => erL (g i)) e
  | .at1 i v e => .at1 i v.er e
  | .buf c lc z e => .buf (erL c) lc z e
  | .map es => .map (erM es)
  | .ints k _ n _ g e => .ints k true n (fun _ => true) g e
  | o => o

theorem erL_eq (l : List AV) : erL l = l.map AV.er := by
  induction l with
  | nil => rfl
  | cons a l ih => simp [erL, ih]

theorem erM_eq (l : List (AV × AV)) : erM l = l.map fun p => (p.1.er, p.2.er) := by
  induction l with
  | nil => rfl
  | cons a l ih => simp [erM, ih]

mutual
theorem den_er (ρ : Nat → Nat) : ∀ v : AV, v.er.den ρ = v.den ρ
  | .bool _ _ => rfl
  | .int _ _ _ => rfl
  | .str _ _ => rfl
  | .ptr _ _ _ _ => rfl
  | .ptrx _ _ _ _ _ _ => rfl
  | .nilp => rfl
  | .slice _ _ _ _ _ _ => rfl
  | .nils => rfl
  | .own _ _ _ _ => rfl
  | .map _ => rfl
  | .nilm => rfl
  | .fn f a b => by simp only [AV.er, AV.den, denL_er ρ a, denL_er ρ b]
  | .nilfn => rfl
  | .agg l => by simp only [AV.er, AV.den, denL_er ρ l]
  | .tup l => by simp only [AV.er, AV.den, denL_er ρ l]
  | .raw _ => rfl
theorem denL_er (ρ : Nat → Nat) : ∀ l : List AV, denL ρ (erL l) = denL ρ l
  | [] => rfl
  | a :: l => by simp only [erL, denL, den_er ρ a, denL_er ρ l]
end

mutual
theorem sc_er (V : Nat → Bool) : ∀ v : AV, v.er.sc V = v.sc V
  | .bool _ _ => rfl
  | .int _ _ _ => rfl
  | .str _ _ => rfl
  | .ptr _ _ _ _ => rfl
  | .ptrx _ _ _ _ _ _ => rfl
  | .nilp => rfl
  | .slice _ _ _ _ _ _ => rfl
  | .nils => rfl
  | .own _ _ _ _ => rfl
  | .map _ => rfl
  | .nilm => rfl
  | .fn f a b => by simp only [AV.er, AV.sc, scL_er V a, scL_er V b]
  | .nilfn => rfl
  | .agg l => by simp only [AV.er, AV.sc, scL_er V l]
  | .tup l => by simp only [AV.er, AV.sc, scL_er V l]
  | .raw _ => rfl
theorem scL_er (V : Nat → Bool) : ∀ l : List AV, scL V (erL l) = scL V l
  | [] => rfl
  | a :: l => by simp only [erL, scL, sc_er V a, scL_er V l]
end

theorem scM_er (V : Nat → Bool) : ∀ l : List (AV × AV), AO.sc.scM V (erM l) = AO.sc.scM V l
  | [] => rfl
  | (a, b) :: l => by simp only [erM, AO.sc.scM, sc_er, scM_er V l]

theorem vis_er (o : AO M) : o.er.vis = o.vis := by cases o <;> rfl

theorem osc_er (V : Nat → Bool) (locs : M → List Nat) (o : AO M) : o.er.sc V locs = o.sc V locs := by
  cases o <;> simp only [AO.er, AO.sc, scL_er, sc_er, scM_er]

theorem get_erL (ρ : Nat → Nat) (l : List AV) (i : Nat) : ((erL l)[i]?).map (AV.den ρ) = (l[i]?).map (AV.den ρ) := by
  rw [erL_eq, List.getElem?_map, Option.map_map]
  congr 1
  funext v
  exact den_er ρ v

theorem len_erL (l : List AV) : (erL l).length = l.length := by rw [erL_eq, List.length_map]

theorem rep_er (ρ : Nat → Nat) (o : AO M) (b : Nat) (F : Nat → Prop) (w : World) : o.er.rep S ρ b F w ↔ o.rep S ρ b F w := by
  cases o with
  | hid => exact Iff.rfl
  | none => exact Iff.rfl
  | cells c e => simp only [AO.er, AO.rep, len_erL, get_erL]
  | ints k q n sg g e => exact Iff.rfl
  | view k lo n g o => exact Iff.rfl
  | rows n z g e => simp only [AO.er, AO.rep, len_erL, get_erL]
  | at1 i v e => simp only [AO.er, AO.rep, den_er]
  | buf c lc z e => simp only [AO.er, AO.rep, len_erL, get_erL]
  | map es =>
    have : (erM es).map (fun p => (p.1.den ρ, p.2.den ρ)) = es.map fun p => (p.1.den ρ, p.2.den ρ) := by
      rw [erM_eq, List.map_map]
      apply List.map_congr_left
      intro p _
      simp only [Function.comp, den_er]
    simp only [AO.er, AO.rep, this]
  | res m => exact Iff.rfl

theorem Sc_er (V : Nat → Bool) (o : AO M) : o.er.Sc S V ↔ o.Sc S V := by
  cases o with
  | rows n z g e => simp only [AO.er, AO.Sc, scL_er]
  | view k lo n g o => exact Iff.rfl
  | hid => exact Iff.rfl
  | none => exact Iff.rfl
  | res m => exact Iff.rfl
  | ints k q n sg g e => exact Iff.rfl
  | cells c e => simp only [AO.er, AO.Sc, AO.sc, scL_er]
  | at1 i v e => simp only [AO.er, AO.Sc, AO.sc, sc_er]
  | buf c lc z e => simp only [AO.er, AO.Sc, AO.sc, scL_er]
  | map es => simp only [AO.er, AO.Sc, AO.sc, scM_er]

def erS : List (Nat × AO M) → List (Nat × AO M)
  | [] => []
  | (l, o) :: r => (l, o.er) :: erS r

def erH : Hp M → Hp M
  | [] => []
  | o :: r => o.er :: erH r

def Eff.er : Eff M → Eff M
  | .ext s n => .ext (erS s) (erH n)

theorem erH_eq (H : Hp M) : erH H = H.map AO.er := by
  induction H with
  | nil => rfl
  | cons a l ih => simp [erH, ih]

theorem erH_get (H : Hp M) (l : Nat) : (erH H)[l]? = (H[l]?).map AO.er := by rw [erH_eq, List.getElem?_map]

theorem visH_er (H : Hp M) : vis (erH H) = vis H := by
  funext l
  rw [vis_eq, vis_eq, erH_get]
  cases H[l]? with
  | none => rfl
  | some o => exact vis_er o

theorem erH_set (H : Hp M) (l : Nat) (o : AO M) : erH (H.set l o) = (erH H).set l o.er := by
  rw [erH_eq, erH_eq, List.map_set]

theorem erH_sets : ∀ (s : List (Nat × AO M)) (H : Hp M), erH (applySets s H) = applySets (erS s) (erH H)
  | [], H => rfl
  | (l, o) :: r, H => by
    show erH (applySets r (lset H l o)) = applySets (erS r) (lset (erH H) l o.er)
    rw [erH_sets r, lset_eq, lset_eq, erH_set]

theorem erH_app (e : Eff M) (H : Hp M) : erH (e.app H) = e.er.app (erH H) := by
  cases e with
  | ext s n =>
    simp only [Eff.er]
    rw [app_ext, app_ext, erH_eq, List.map_append, ← erH_eq, ← erH_eq, erH_sets]

theorem scSets_er (V : Nat → Bool) (locs : M → List Nat) : ∀ s : List (Nat × AO M), scSets V locs (erS s) = scSets V locs s
  | [] => rfl
  | (l, o) :: r => by simp only [erS, scSets, vis_er, osc_er, scSets_er V locs r]

theorem scNews_er (V : Nat → Bool) (locs : M → List Nat) : ∀ n : List (AO M), scNews V locs (erH n) = scNews V locs n
  | [] => rfl
  | o :: r => by simp only [erH, scNews, osc_er, scNews_er V locs r]

theorem esc_er (V : Nat → Bool) (locs : M → List Nat) (e : Eff M) : e.er.sc V locs = e.sc V locs := by
  cases e with
  | ext s n => simp only [Eff.er, Eff.sc, scSets_er, scNews_er]

theorem con_er {w0 : World} {F0 : Nat → Prop} {H : Hp M} {ρ : Nat → Nat} {F : Nat → Nat → Prop} {w : World} : Con S w0 F0 (erH H) ρ F w ↔ Con S w0 F0 H ρ F w := by
  constructor
  · intro h
    refine ⟨fun l o hl => (rep_er ρ o _ _ w).1 (h.rep l o.er (by rw [erH_get, hl]; rfl)), fun l o hl => ?_, fun l hl => h.out l (by rw [erH_get, hl]; rfl), h.dis, h.lt, h.own, h.old, h.size, h.os, h.tape, h.output⟩
    have := h.scp l o.er (by rw [erH_get, hl]; rfl)
    rw [visH_er] at this
    exact (Sc_er _ o).1 this
  · intro h
    refine ⟨fun l o hl => ?_, fun l o hl => ?_, fun l hl => ?_, h.dis, h.lt, h.own, h.old, h.size, h.os, h.tape, h.output⟩
    · rw [erH_get] at hl
      cases ho : H[l]? with
      | none => rw [ho] at hl; cases hl
      | some o' =>
        rw [ho] at hl
        simp only [Option.map_some, Option.some.injEq] at hl
        subst hl
        exact (rep_er ρ o' _ _ w).2 (h.rep l o' ho)
    · rw [erH_get] at hl
      cases ho : H[l]? with
      | none => rw [ho] at hl; cases hl
      | some o' =>
        rw [ho] at hl
        simp only [Option.map_some, Option.some.injEq] at hl
        subst hl
        rw [visH_er]
        exact (Sc_er _ o').2 (h.scp l o' ho)
    · rw [erH_get] at hl
      exact h.out l (by cases ho : H[l]? with | none => rfl | some o => rw [ho] at hl; cases hl)

/-- An answer that means the same. -/
def Ans.same (a b : Ans M) : Prop := a.1.er = b.1.er ∧ a.2.er = b.2.er

theorem eff_same {e e' : Eff M} (h : e.er = e'.er) (H : Hp M) : erH (e.app H) = erH (e'.app H) := by
  rw [erH_app, erH_app, h]

theorem agree_vis {H H1 H2 : Hp M} {ρ ρ' : Nat → Nat} (h : vis H1 = vis H2) (ha : Agree H H1 ρ ρ') : Agree H H2 ρ ρ' :=
  ⟨ha.same, fun l hl => by rw [← h]; exact ha.keep l hl⟩

theorem leaf_same {w0 : World} {F0 : Nat → Prop} {H : Hp M} {ρ : Nat → Nat} {R : Value → World → Prop} {a b : Ans M} (hs : a.same b) (h : LeafOK S w0 F0 H ρ R a) : LeafOK S w0 F0 H ρ R b := by
  obtain ⟨v, e⟩ := a
  obtain ⟨u, g⟩ := b
  obtain ⟨h1, h2⟩ := hs
  simp only at h1 h2
  have hH := eff_same h2 H
  have hv : vis (e.app H) = vis (g.app H) := by rw [← visH_er (e.app H), ← visH_er (g.app H), hH]
  obtain ⟨a1, a2⟩ := h
  refine ⟨?_, fun ρ' F' w' hag hcon => ?_⟩
  · rw [← esc_er, ← h2, esc_er, ← hv]; exact a1
  · have := a2 ρ' F' w' (agree_vis hv.symm hag) (con_er.1 (by rw [hH]; exact con_er.2 hcon))
    rw [← den_er, ← h1, den_er]
    exact this

/-- A contract's tree tells what is told: at each leaf, by what is known on the way. -/
def Tree.hits (a : Ans M) : Tree (Ans M) → Prop
  | .leaf b => b.same a
  | .ite b t e => (b = true ∧ t.hits a) ∨ (b = false ∧ e.hits a)
  | .any f => ∃ n, (f n).hits a
  | .stuck _ => True

theorem hits_all {w0 : World} {F0 : Nat → Prop} {H : Hp M} {ρ : Nat → Nat} {R : Value → World → Prop} : ∀ {t : Tree (Ans M)} {a : Ans M}, t.hits a → t.all (LeafOK S w0 F0 H ρ R) → LeafOK S w0 F0 H ρ R a
  | .leaf b, a, h, ha => leaf_same h ha
  | .ite b t e, a, h, ha => by
    rcases h with ⟨hb, h⟩ | ⟨hb, h⟩
    · exact hits_all h (ha.1 hb)
    · exact hits_all h (ha.2 hb)
  | .any f, a, ⟨n, h⟩, ha => hits_all h (ha n)
  | .stuck n, a, _, ha => ha.elim

/-- A contract by evaluation. -/
theorem local_of {cfg : Cfg M} (hcfg : CfgOK S cfg) (n : Nat) {f : FuncId} {args args' : List AV} {H : Hp M} {t : Tree (Ans M)} (hargs : erL args' = erL args)
    (h : (callB' cfg S.locs n f args' H).all fun a => t.hits a) : LocalOK cfg.P S f args H t := by
  intro ρ F w w0 F0 R hcon hsc ht
  rw [← denL_er, ← hargs, denL_er]
  refine callRun_of_tree hcfg n hcon (fun x hx => ?_) (Tree.all_mono h fun a ha => hits_all ha ht)
  have hx' : x.er ∈ erL args := by rw [← hargs, erL_eq]; exact List.mem_map_of_mem hx
  rw [erL_eq, List.mem_map] at hx'
  obtain ⟨y, hy, he⟩ := hx'
  rw [← sc_er, ← he, sc_er]
  exact hsc y hy
end
end Go.SX
