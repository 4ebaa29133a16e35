/- SX: a contract over a small heap is one over any heap that holds it. -/
import Derived.Test.YtgbhiamfjikonaaGreatDoorSxLaw
set_option linter.unusedVariables false
set_option linter.unusedSimpArgs false
namespace Go.SX
section
variable {M : Type} {S : Seal M}

/-! Other names. -/

mutual
def AV.ren (σ : Nat → Nat) : AV → AV
  | .ptr l i z o => .ptr (σ l) i z o
  | .ptrx l i n z o f => .ptrx (σ l) i n z o f
  | .slice s l i z n c => .slice s (σ l) i z n c
  | .own l lc z n => .own (σ l) (σ lc) z n
  | .map l => .map (σ l)
  | .fn f a b => .fn f (renL σ a) (renL σ b)
  | .agg l => .agg (renL σ l)
  | .tup l => .tup (renL σ l)
  | v => v
def renL (σ : Nat → Nat) : List AV → List AV
  | [] => []
  | a :: l => a.ren σ :: renL σ l
end

def renM (σ : Nat → Nat) : List (AV × AV) → List (AV × AV)
  | [] => []
  | (a, b) :: l => (a.ren σ, b.ren σ) :: renM σ l

def AO.ren (σ : Nat → Nat) : AO M → AO M
  | .cells c e => .cells (renL σ c) e
  | .rows n z g e => .rows n z (fun i => renL σ (g i)) e
  | .at1 i v e => .at1 i (v.ren σ) e
  | .buf c lc z e => .buf (renL σ c) (σ lc) z e
  | .map es => .map (renM σ es)
  | .hid => .hid
  | .none => .none
  | .ints k q n sg g e => .ints k q n sg g e
  | .view k lo n g o => .view k lo n g o
  | .res m => .res m

theorem renL_eq (σ : Nat → Nat) (l : List AV) : renL σ l = l.map (AV.ren σ) := by
  induction l with
  | nil => rfl
  | cons a l ih => simp [renL, ih]

theorem renM_eq (σ : Nat → Nat) (l : List (AV × AV)) : renM σ l = l.map fun p => (p.1.ren σ, p.2.ren σ) := by
  induction l with
  | nil => rfl
  | cons a l ih => simp [renM, ih]

mutual
theorem den_ren (σ ρ : Nat → Nat) : ∀ v : AV, (v.ren σ).den ρ = v.den fun l => ρ (σ l)
  | .bool _ _ => rfl
  | .int _ _ _ => rfl
  | .str _ _ => rfl
  | .ptr _ _ _ _ => rfl
  | .ptrx _ _ _ _ _ _ => rfl
  | .nilp => rfl
  | .slice _ _ _ _ _ _ => rfl
  | .nils => rfl
  | .own _ _ _ _ => rfl
  | .map _ => rfl
  | .nilm => rfl
  | .fn f a b => by simp only [AV.ren, AV.den, denL_ren σ ρ a, denL_ren σ ρ b]
  | .nilfn => rfl
  | .agg l => by simp only [AV.ren, AV.den, denL_ren σ ρ l]
  | .tup l => by simp only [AV.ren, AV.den, denL_ren σ ρ l]
  | .raw _ => rfl
theorem denL_ren (σ ρ : Nat → Nat) : ∀ l : List AV, denL ρ (renL σ l) = denL (fun l => ρ (σ l)) l
  | [] => rfl
  | a :: l => by simp only [renL, denL, den_ren σ ρ a, denL_ren σ ρ l]
end

mutual
theorem sc_ren (σ : Nat → Nat) (V : Nat → Bool) : ∀ v : AV, (v.ren σ).sc V = v.sc fun l => V (σ l)
  | .bool _ _ => rfl
  | .int _ _ _ => rfl
  | .str _ _ => rfl
  | .ptr _ _ _ _ => rfl
  | .ptrx _ _ _ _ _ _ => rfl
  | .nilp => rfl
  | .slice _ _ _ _ _ _ => rfl
  | .nils => rfl
  | .own _ _ _ _ => rfl
  | .map _ => rfl
  | .nilm => rfl
  | .fn f a b => by simp only [AV.ren, AV.sc, scL_ren σ V a, scL_ren σ V b]
  | .nilfn => rfl
  | .agg l => by simp only [AV.ren, AV.sc, scL_ren σ V l]
  | .tup l => by simp only [AV.ren, AV.sc, scL_ren σ V l]
  | .raw _ => rfl
theorem scL_ren (σ : Nat → Nat) (V : Nat → Bool) : ∀ l : List AV, scL V (renL σ l) = scL (fun l => V (σ l)) l
  | [] => rfl
  | a :: l => by simp only [renL, scL, sc_ren σ V a, scL_ren σ V l]
end

theorem scM_ren (σ : Nat → Nat) (V : Nat → Bool) : ∀ l : List (AV × AV), AO.sc.scM V (renM σ l) = AO.sc.scM (fun l => V (σ l)) l
  | [] => rfl
  | (a, b) :: l => by simp only [renM, AO.sc.scM, sc_ren, scM_ren σ V l]

theorem vis_ren (σ : Nat → Nat) (o : AO M) : (o.ren σ).vis = o.vis := by cases o <;> rfl

theorem len_renL (σ : Nat → Nat) (l : List AV) : (renL σ l).length = l.length := by rw [renL_eq, List.length_map]

theorem get_renL (σ ρ : Nat → Nat) (l : List AV) (i : Nat) : ((renL σ l)[i]?).map (AV.den ρ) = (l[i]?).map (AV.den fun l => ρ (σ l)) := by
  rw [renL_eq, List.getElem?_map, Option.map_map]
  congr 1
  funext v
  exact den_ren σ ρ v

theorem rep_ren (hlocs : ∀ m, S.locs m = []) (σ ρ : Nat → Nat) (o : AO M) (b : Nat) (F : Nat → Prop) (w : World) : (o.ren σ).rep S ρ b F w ↔ o.rep S (fun l => ρ (σ l)) b F w := by
  cases o with
  | hid => exact Iff.rfl
  | none => exact Iff.rfl
  | cells c e => simp only [AO.ren, AO.rep, len_renL, get_renL]
  | ints k q n sg g e => exact Iff.rfl
  | view k lo n g o => exact Iff.rfl
  | rows n z g e => simp only [AO.ren, AO.rep, len_renL, get_renL]
  | at1 i v e => simp only [AO.ren, AO.rep, den_ren]
  | buf c lc z e => simp only [AO.ren, AO.rep, len_renL, get_renL]
  | map es =>
    have : (renM σ es).map (fun p => (p.1.den ρ, p.2.den ρ)) = es.map fun p => (p.1.den fun l => ρ (σ l), p.2.den fun l => ρ (σ l)) := by
      rw [renM_eq, List.map_map]
      apply List.map_congr_left
      intro p _
      simp only [Function.comp, den_ren]
    simp only [AO.ren, AO.rep, this]
  | res m =>
    have h0 : ∀ l ∈ S.locs m, ρ (σ l) = ρ l := by rw [hlocs m]; simp
    have h1 : ∀ l ∈ S.locs m, ρ l = ρ (σ l) := by rw [hlocs m]; simp
    exact ⟨fun h => S.ren m ρ (fun l => ρ (σ l)) b F w h h0, fun h => S.ren m (fun l => ρ (σ l)) ρ b F w h h1⟩

theorem Sc_ren (hlocs : ∀ m, S.locs m = []) (σ : Nat → Nat) (V : Nat → Bool) (o : AO M) : (o.ren σ).Sc S V ↔ o.Sc S fun l => V (σ l) := by
  cases o with
  | hid => exact Iff.rfl
  | none => exact Iff.rfl
  | cells c e => simp only [AO.ren, AO.Sc, AO.sc, scL_ren]
  | ints k q n sg g e => exact Iff.rfl
  | view k lo n g o => exact Iff.rfl
  | rows n z g e => simp only [AO.ren, AO.Sc, scL_ren]
  | at1 i v e => simp only [AO.ren, AO.Sc, AO.sc, sc_ren]
  | buf c lc z e => simp only [AO.ren, AO.Sc, AO.sc, scL_ren]
  | map es => simp only [AO.ren, AO.Sc, AO.sc, scM_ren]
  | res m => simp only [AO.ren, AO.Sc, AO.sc, hlocs m, AO.sc.allB]

/-! A small heap within a large one. -/

/-- The places of a small heap's names: the old ones by σ, the new ones behind the large heap's. -/
def inn (σ : Nat → Nat) (n0 n : Nat) : Nat → Nat := fun l => if l < n0 then σ l else n + (l - n0)

structure Within (S : Seal M) (H0 : Hp M) (σ : Nat → Nat) (H : Hp M) : Prop where
  inj : ∀ l l', l < H0.length → l' < H0.length → σ l = σ l' → l = l'
  at_ : ∀ (l : Nat) (o : AO M), H0[l]? = some o → H[σ l]? = some (o.ren σ)
  vis : ∀ (l : Nat) (o : AO M), H0[l]? = some o → o.vis = true
  sc : ∀ (l : Nat) (o : AO M), H0[l]? = some o → o.Sc S (Go.SX.vis H0)

def renSets (σ : Nat → Nat) : List (Nat × AO M) → List (Nat × AO M)
  | [] => []
  | (l, o) :: r => (σ l, o.ren σ) :: renSets σ r

def renNews (σ : Nat → Nat) : List (AO M) → List (AO M)
  | [] => []
  | o :: r => o.ren σ :: renNews σ r

/-- What is told of a small heap, told of a large one. -/
def embed (locs : M → List Nat) (H0 : Hp M) (σ : Nat → Nat) (H : Hp M) (t : Tree (Ans M)) : Tree (Ans M) :=
  t.bind fun (v, e) => match e with
    | .ext sets news => if scq2 (vis (e.app H0)) v && e.scq (vis (e.app H0)) locs then
        .leaf (v.ren (inn σ (lenH H0) (lenH H)), .ext (renSets (inn σ (lenH H0) (lenH H)) sets) (renNews (inn σ (lenH H0) (lenH H)) news)) else .stuck 190

/-- A contract at some arguments and a heap. -/
def LocalOK (P : Program) (S : Seal M) (f : FuncId) (args : List AV) (H : Hp M) (t : Tree (Ans M)) : Prop :=
  ∀ (ρ : Nat → Nat) (F : Nat → Nat → Prop) (w w0 : World) (F0 : Nat → Prop) (R : Value → World → Prop),
    Con S w0 F0 H ρ F w → (∀ x ∈ args, x.sc (vis H) = true) → t.all (LeafOK S w0 F0 H ρ R) → CallRun P f (denL ρ args).toArray w R

theorem Within.lt {H0 H : Hp M} {σ : Nat → Nat} (h : Within S H0 σ H) {l : Nat} (hl : l < H0.length) : σ l < H.length :=
  (List.getElem?_eq_some_iff.1 (h.at_ l _ (List.getElem?_eq_getElem hl))).1

/-- The small heap's own view. -/
theorem Con.inner (hlocs : ∀ m, S.locs m = []) {H0 H : Hp M} {σ : Nat → Nat} (hW : Within S H0 σ H) {w0 : World} {F0 : Nat → Prop} {ρ : Nat → Nat} {F : Nat → Nat → Prop} {w : World} (h : Con S w0 F0 H ρ F w) :
    Con S w (fun x => ∃ l, l < H0.length ∧ F (σ l) x) H0 (fun l => ρ (σ l)) (fun l x => l < H0.length ∧ F (σ l) x) w where
  rep := fun l o hl => by
    have hlt := (List.getElem?_eq_some_iff.1 hl).1
    have := (rep_ren hlocs σ ρ o _ _ w).1 (h.rep _ _ (hW.at_ l o hl))
    have e : (fun x => l < H0.length ∧ F (σ l) x) = F (σ l) := by funext x; simp [hlt]
    rw [e]; exact this
  scp := hW.sc
  out := fun l hl x hx => by have := List.getElem?_eq_none_iff.1 hl; omega
  dis := fun l l' x h1 h2 => hW.inj l l' h1.1 h2.1 (h.dis _ _ x h1.2 h2.2)
  lt := fun l x hx => h.lt _ x hx.2
  own := fun l x hx => .inl ⟨l, hx⟩
  old := fun _ _ _ => rfl
  size := Nat.le_refl _
  os := rfl
  tape := rfl
  output := rfl

theorem renNews_eq (σ : Nat → Nat) (l : List (AO M)) : renNews σ l = l.map (AO.ren σ) := by
  induction l with
  | nil => rfl
  | cons a l ih => simp [renNews, ih]

/-- Each place holds what it held, or what was set last. -/
theorem applySets_in {V : Nat → Bool} (hlocs : ∀ m, S.locs m = []) {σ : Nat → Nat} {n0 n : Nat} (hin : ∀ l l', l < n0 → l' < n0 → σ l = σ l' → l = l') (hlt : ∀ l, l < n0 → σ l < n) :
    ∀ (s : List (Nat × AO M)) (H0 H : Hp M), H0.length = n0 → H.length = n → scSets V S.locs s = true →
    (∀ l (o o' : AO M), (applySets s H0)[l]? = some o → (applySets (renSets (inn σ n0 n) s) H)[σ l]? = some o' → (o' = o.ren (inn σ n0 n) ∧ o.Sc S V ∧ o.vis = true) ∨ (H0[l]? = some o ∧ H[σ l]? = some o')) ∧
    (∀ m, (∀ l, l < n0 → σ l ≠ m) → (applySets (renSets (inn σ n0 n) s) H)[m]? = H[m]?)
  | [], H0, H, _, _, _ => ⟨fun l o o' h1 h2 => .inr ⟨h1, h2⟩, fun m _ => rfl⟩
  | (k, ok) :: r, H0, H, e0, e1, hs => by
    simp only [scSets, Bool.and_eq_true] at hs
    obtain ⟨⟨⟨hVk, hvis⟩, hsc⟩, hr⟩ := hs
    obtain ⟨ih1, ih2⟩ := applySets_in hlocs hin hlt r (lset H0 k ok) (lset H (inn σ n0 n k) (ok.ren (inn σ n0 n))) (by rw [lset_eq, List.length_set, e0]) (by rw [lset_eq, List.length_set, e1]) hr
    constructor
    · intro l o o' h1 h2
      have hl : l < n0 := by
        have := (List.getElem?_eq_some_iff.1 h1).1
        rw [applySets_len] at this
        omega
      rcases ih1 l o o' h1 h2 with h3 | ⟨h3, h4⟩
      · exact .inl h3
      · rw [lset_eq] at h3 h4
        by_cases e : k = l
        · subst e
          have hk : inn σ n0 n k = σ k := by simp [inn, hl]
          rw [hk, List.getElem?_set_self (by have := hlt k hl; omega)] at h4
          rw [List.getElem?_set_self (by omega)] at h3
          simp only [Option.some.injEq] at h3 h4
          subst h3
          exact .inl ⟨h4.symm, Sc_of_sc hsc, hvis⟩
        · have hne : inn σ n0 n k ≠ σ l := by
            by_cases hk : k < n0
            · simp only [inn, hk, if_true]
              exact fun e' => e (hin k l hk hl e')
            · simp only [inn, hk, if_false]
              have := hlt l hl
              omega
          rw [List.getElem?_set_ne hne] at h4
          rw [List.getElem?_set_ne e] at h3
          exact .inr ⟨h3, h4⟩
    · intro m hm
      show (applySets (renSets (inn σ n0 n) r) (lset H (inn σ n0 n k) (ok.ren (inn σ n0 n))))[m]? = _
      rw [ih2 m hm, lset_eq]
      by_cases e : inn σ n0 n k = m
      · by_cases hk : k < n0
        · simp only [inn, hk, if_true] at e
          exact absurd e (hm k hk)
        · simp only [inn, hk, if_false] at e
          rw [List.set_eq_of_length_le (by simp only [inn, hk, if_false]; omega)]
      · rw [List.getElem?_set_ne e]

theorem scNews_mem {V : Nat → Bool} : ∀ (l : List (AO M)), scNews V S.locs l = true → ∀ (i : Nat) (o : AO M), l[i]? = some o → o.Sc S V
  | [], _, i, o, hi => by simp at hi
  | a :: l, h, i, o, hi => by
    simp only [scNews, Bool.and_eq_true] at h
    cases i with
    | zero => simp at hi; subst hi; exact Sc_of_sc h.1
    | succ i => exact scNews_mem l h.2 i o (by simpa using hi)

/-- From the small heap back to the large one. -/
theorem Con.outer (hlocs : ∀ m, S.locs m = []) {H0 H : Hp M} {σ : Nat → Nat} (hW : Within S H0 σ H) {w0 w w' : World} {F0 : Nat → Prop} {ρ ρl : Nat → Nat} {F Fl : Nat → Nat → Prop} (hcon : Con S w0 F0 H ρ F w)
    {sets : List (Nat × AO M)} {news : List (AO M)} (hes : scSets (vis (applySets sets H0 ++ news)) S.locs sets = true ∧ scNews (vis (applySets sets H0 ++ news)) S.locs news = true)
    (hag : Agree H0 (applySets sets H0 ++ news) (fun l => ρ (σ l)) ρl) (hcl : Con S w (fun x => ∃ l, l < H0.length ∧ F (σ l) x) (applySets sets H0 ++ news) ρl Fl w') :
    ∃ (ρ' : Nat → Nat) (F' : Nat → Nat → Prop), Agree H (applySets (renSets (inn σ H0.length H.length) sets) H ++ renNews (inn σ H0.length H.length) news) ρ ρ' ∧
      Con S w0 F0 (applySets (renSets (inn σ H0.length H.length) sets) H ++ renNews (inn σ H0.length H.length) news) ρ' F' w' ∧ (fun l => ρ' (inn σ H0.length H.length l)) = ρl ∧
      (∀ l, vis (applySets sets H0 ++ news) l = true → vis (applySets (renSets (inn σ H0.length H.length) sets) H ++ renNews (inn σ H0.length H.length) news) (inn σ H0.length H.length l) = true) := by
  have hl0 : ∀ l, l < H0.length → vis H0 l = true := fun l hl => vis_some (List.getElem?_eq_getElem hl) (hW.vis l _ (List.getElem?_eq_getElem hl))
  have hρl : ∀ l, l < H0.length → ρl l = ρ (σ l) := fun l hl => hag.same l (hl0 l hl)
  -- the places
  let ρ' : Nat → Nat := fun m => if m < H.length then ρ m else ρl (H0.length + (m - H.length))
  have hcomp : (fun l => ρ' (inn σ H0.length H.length l)) = ρl := by
    funext l
    by_cases hl : l < H0.length
    · have := hW.lt hl
      simp only [inn, hl, if_true, ρ', this]
      exact (hρl l hl).symm
    · simp only [inn, hl, if_false, ρ']
      rw [if_neg (by omega)]
      congr 1; omega
  let F' : Nat → Nat → Prop := fun m x => if m < H.length then (∃ l, l < H0.length ∧ σ l = m ∧ Fl l x) ∨ ((∀ l, l < H0.length → σ l ≠ m) ∧ F m x) else Fl (H0.length + (m - H.length)) x
  obtain ⟨hset1, hset2⟩ := applySets_in (V := vis (applySets sets H0 ++ news)) (S := S) hlocs (n0 := H0.length) (n := H.length) (fun l l' a b c => hW.inj l l' a b c) (fun l hl => hW.lt hl) sets H0 H rfl rfl hes.1
  have hglen : (applySets (renSets (inn σ H0.length H.length) sets) H).length = H.length := applySets_len _ _
  have hllen : (applySets sets H0).length = H0.length := applySets_len _ _
  -- what is seen
  have hvisH : ∀ m, vis H m = true → vis (applySets (renSets (inn σ H0.length H.length) sets) H ++ renNews (inn σ H0.length H.length) news) m = true := by
    intro m hm
    have hlt := vis_lt hm
    rw [vis_eq, List.getElem?_append_left (by omega)]
    by_cases himg : ∃ l, l < H0.length ∧ σ l = m
    · obtain ⟨l, hl, rfl⟩ := himg
      have e1 : (applySets sets H0)[l]? = some (applySets sets H0)[l] := List.getElem?_eq_getElem (by omega)
      have e2 : (applySets (renSets (inn σ H0.length H.length) sets) H)[σ l]? = some (applySets (renSets (inn σ H0.length H.length) sets) H)[σ l] := List.getElem?_eq_getElem (by omega)
      rw [e2]
      rcases hset1 l _ _ e1 e2 with ⟨h3, _, h5⟩ | ⟨h3, h4⟩
      · simp only; rw [h3, vis_ren]; exact h5
      · rw [vis_eq, h4] at hm; exact hm
    · rw [hset2 m (fun l hl e => himg ⟨l, hl, e⟩)]
      rw [vis_eq] at hm; exact hm
  have hvisL : ∀ l, vis (applySets sets H0 ++ news) l = true → vis (applySets (renSets (inn σ H0.length H.length) sets) H ++ renNews (inn σ H0.length H.length) news) (inn σ H0.length H.length l) = true := by
    intro l hl
    by_cases hl0' : l < H0.length
    · simp only [inn, hl0', if_true]
      refine hvisH _ ?_
      have e := hW.at_ l _ (List.getElem?_eq_getElem hl0')
      exact vis_some e (by rw [vis_ren]; exact hW.vis l _ (List.getElem?_eq_getElem hl0'))
    · simp only [inn, hl0', if_false]
      rw [vis_eq, List.getElem?_append_right (by omega)] at hl ⊢
      rw [renNews_eq, List.getElem?_map, hglen, show H.length + (l - H0.length) - H.length = l - H0.length by omega]
      rw [hllen] at hl
      cases hn : news[l - H0.length]? with
      | none => rw [hn] at hl; cases hl
      | some o => rw [hn] at hl; simp only [Option.map_some]; rw [vis_ren]; exact hl
  have hag' : Agree H (applySets (renSets (inn σ H0.length H.length) sets) H ++ renNews (inn σ H0.length H.length) news) ρ ρ' :=
    ⟨fun l hl => by simp only [ρ']; rw [if_pos (vis_lt hl)], hvisH⟩
  have hold : ∀ x, x < w.heap.size → (∀ l, l < H0.length → ¬ F (σ l) x) → w'.heap[x]? = w.heap[x]? := fun x hx hn => hcl.old x hx (fun ⟨l, hl, hx'⟩ => hn l hl hx')
  have hownL : ∀ l x, Fl l x → (∃ l', l' < H0.length ∧ F (σ l') x) ∨ w.heap.size ≤ x := hcl.own
  have hFl : ∀ l x, Fl l x → l < H0.length + news.length := by
    intro l x hx
    rcases Nat.lt_or_ge l (H0.length + news.length) with h' | h'
    · exact h'
    · exact absurd hx (hcl.out l (List.getElem?_eq_none (by rw [List.length_append, hllen]; omega)) x)
  have hcon' : Con S w0 F0 (applySets (renSets (inn σ H0.length H.length) sets) H ++ renNews (inn σ H0.length H.length) news) ρ' F' w' := by
    refine ⟨fun m o hm => ?_, fun m o hm => ?_, fun m hm x hx => ?_, fun m m' x g1 g2 => ?_, fun m x hx => ?_, fun m x hx => ?_, fun x hx hn => ?_, Nat.le_trans hcon.size hcl.size, hcl.os.trans hcon.os, hcl.tape.trans hcon.tape, hcl.output.trans hcon.output⟩
    · by_cases hmH : m < H.length
      · rw [List.getElem?_append_left (by omega)] at hm
        have hρm : ρ' m = ρ m := by simp only [ρ']; rw [if_pos hmH]
        by_cases himg : ∃ l, l < H0.length ∧ σ l = m
        · obtain ⟨l, hl, rfl⟩ := himg
          have hF' : F' (σ l) = Fl l := by
            funext x
            simp only [F', hmH, if_true]
            refine propext ⟨fun hx => ?_, fun hx => .inl ⟨l, hl, rfl, hx⟩⟩
            rcases hx with ⟨l', hl', e', hx⟩ | ⟨hno, _⟩
            · rw [← hW.inj l' l hl' hl e']; exact hx
            · exact absurd rfl (hno l hl)
          have e1 : (applySets sets H0)[l]? = some (applySets sets H0)[l] := List.getElem?_eq_getElem (by omega)
          have hrepL := hcl.rep l (applySets sets H0)[l] (by rw [List.getElem?_append_left (by omega)]; exact e1)
          rw [hF', hρm, ← hρl l hl]
          rcases hset1 l _ _ e1 hm with ⟨h3, h4, _⟩ | ⟨h3, h4⟩
          · rw [h3, rep_ren hlocs, hcomp]
            exact hrepL
          · have h5 := hW.at_ l _ h3
            rw [h4] at h5
            simp only [Option.some.injEq] at h5
            rw [h5, rep_ren hlocs]
            refine rep_agree hrepL (hW.sc l _ h3) fun k hk => ?_
            have hkl := vis_lt hk
            simp only [ρ']
            rw [if_pos (hW.lt hkl)]
            exact (hρl k hkl).symm
        · have hno : ∀ l, l < H0.length → σ l ≠ m := fun l hl e => himg ⟨l, hl, e⟩
          rw [hset2 m hno] at hm
          have hF' : F' m = F m := by
            funext x
            simp only [F', hmH, if_true]
            exact propext ⟨fun hx => by
              rcases hx with ⟨l', hl', e', _⟩ | ⟨_, hx⟩
              · exact absurd e' (hno l' hl')
              · exact hx, fun hx => .inr ⟨hno, hx⟩⟩
          rw [hF', hρm]
          refine rep_agree (rep_here (hcon.rep m o hm) fun x hx => hold x (hcon.lt m x hx) fun l hl hx' => hno l hl (hcon.dis _ _ x hx' hx)) (hcon.scp m o hm) fun k hk => ?_
          simp only [ρ']
          rw [if_pos (vis_lt hk)]
      · rw [List.getElem?_append_right (by omega), hglen, renNews_eq, List.getElem?_map] at hm
        cases hn : news[m - H.length]? with
        | none => rw [hn] at hm; cases hm
        | some o0 =>
          rw [hn] at hm
          simp only [Option.map_some, Option.some.injEq] at hm
          subst hm
          have hF' : F' m = Fl (H0.length + (m - H.length)) := by
            funext x; simp only [F', hmH, if_false]
          have hρm : ρ' m = ρl (H0.length + (m - H.length)) := by simp only [ρ']; rw [if_neg hmH]
          rw [hF', hρm, rep_ren hlocs, hcomp]
          refine hcl.rep _ o0 ?_
          rw [List.getElem?_append_right (by omega), hllen, show H0.length + (m - H.length) - H0.length = m - H.length by omega]
          exact hn
    · by_cases hmH : m < H.length
      · rw [List.getElem?_append_left (by omega)] at hm
        by_cases himg : ∃ l, l < H0.length ∧ σ l = m
        · obtain ⟨l, hl, rfl⟩ := himg
          have e1 : (applySets sets H0)[l]? = some (applySets sets H0)[l] := List.getElem?_eq_getElem (by omega)
          rcases hset1 l _ _ e1 hm with ⟨h3, h4, _⟩ | ⟨h3, h4⟩
          · rw [h3, Sc_ren hlocs]
            exact Sc_mono (fun k hk => hvisL k hk) h4
          · exact Sc_mono hvisH (hcon.scp _ _ h4)
        · rw [hset2 m (fun l hl e => himg ⟨l, hl, e⟩)] at hm
          exact Sc_mono hvisH (hcon.scp _ _ hm)
      · rw [List.getElem?_append_right (by omega), hglen, renNews_eq, List.getElem?_map] at hm
        cases hn : news[m - H.length]? with
        | none => rw [hn] at hm; cases hm
        | some o0 =>
          rw [hn] at hm
          simp only [Option.map_some, Option.some.injEq] at hm
          subst hm
          rw [Sc_ren hlocs]
          exact Sc_mono (fun k hk => hvisL k hk) (scNews_mem news hes.2 _ o0 hn)
    · have hlen := List.getElem?_eq_none_iff.1 hm
      rw [List.length_append, hglen, renNews_eq, List.length_map] at hlen
      simp only [F'] at hx
      rw [if_neg (by omega)] at hx
      have := hFl _ x hx
      omega
    · -- apart
      have key : ∀ m x, F' m x → (∃ l, inn σ H0.length H.length l = m ∧ Fl l x) ∨ (m < H.length ∧ (∀ l, l < H0.length → σ l ≠ m) ∧ F m x) := by
        intro m x hx
        simp only [F'] at hx
        by_cases hmH : m < H.length
        · rw [if_pos hmH] at hx
          rcases hx with ⟨l, hl, e, hx⟩ | hx
          · exact .inl ⟨l, by simp [inn, hl, e], hx⟩
          · exact .inr ⟨hmH, hx⟩
        · rw [if_neg hmH] at hx
          exact .inl ⟨_, by unfold inn; rw [if_neg (by omega)]; omega, hx⟩
      have cross : ∀ l m x, Fl l x → (∀ l, l < H0.length → σ l ≠ m) → F m x → False := by
        intro l m x h1 hno h2
        rcases hownL l x h1 with ⟨l', hl', h3⟩ | h3
        · exact hno l' hl' (hcon.dis _ _ x h3 h2)
        · have := hcon.lt m x h2; omega
      rcases key m x g1 with ⟨l, e1, k1⟩ | ⟨a1, b1, c1⟩ <;> rcases key m' x g2 with ⟨l', e2, k2⟩ | ⟨a2, b2, c2⟩
      · have := hcl.dis l l' x k1 k2
        subst this
        rw [← e1, ← e2]
      · exact (cross l m' x k1 b2 c2).elim
      · exact (cross l' m x k2 b1 c1).elim
      · exact hcon.dis m m' x c1 c2
    · simp only [F'] at hx
      by_cases hmH : m < H.length
      · rw [if_pos hmH] at hx
        rcases hx with ⟨l, hl, e, hx⟩ | ⟨_, hx⟩
        · exact hcl.lt l x hx
        · exact Nat.lt_of_lt_of_le (hcon.lt m x hx) hcl.size
      · rw [if_neg hmH] at hx
        exact hcl.lt _ x hx
    · have fl : ∀ l, Fl l x → F0 x ∨ w0.heap.size ≤ x := by
        intro l hx
        rcases hownL l x hx with ⟨l', _, h3⟩ | h3
        · exact hcon.own _ x h3
        · exact .inr (Nat.le_trans hcon.size h3)
      simp only [F'] at hx
      by_cases hmH : m < H.length
      · rw [if_pos hmH] at hx
        rcases hx with ⟨l, hl, e, hx⟩ | ⟨_, hx⟩
        · exact fl l hx
        · exact hcon.own m x hx
      · rw [if_neg hmH] at hx
        exact fl _ hx
    · rw [hold x (Nat.lt_of_lt_of_le hx hcon.size) (fun l hl hx' => by
        rcases hcon.own _ x hx' with h4 | h4
        · exact hn h4
        · omega)]
      exact hcon.old x hx hn
  exact ⟨ρ', F', hag', hcon', hcomp, hvisL⟩

theorem embed_sound (hlocs : ∀ m, S.locs m = []) {P : Program} {f : FuncId} {args : List AV} {H0 H : Hp M} {t : Tree (Ans M)} {σ : Nat → Nat} (hK : LocalOK P S f args H0 t) (hW : Within S H0 σ H) (hargs : ∀ x ∈ args, x.sc (vis H0) = true) :
    LocalOK P S f (renL σ args) H (embed S.locs H0 σ H t) := by
  intro ρ F w w0 F0 R hcon _ h
  rw [denL_ren]
  have hin := hcon.inner hlocs hW
  refine hK _ _ w w _ R hin hargs ?_
  unfold embed at h
  simp only [scq2_eq, escq_eq] at h
  rw [Tree.all_bind] at h
  refine Tree.all_mono h ?_
  rintro ⟨v, sets, news⟩ h1
  simp only at h1
  · split at h1
    · rename_i hs
      rw [Bool.and_eq_true] at hs
      obtain ⟨hvs, hes⟩ := hs
      refine ⟨hes, fun ρl Fl w' hag hcl => ?_⟩
      obtain ⟨_, hR⟩ := h1
      rw [lenH_eq, lenH_eq] at hR
      rw [app_ext] at hR hag hcl hes hvs
      simp only [Eff.sc, Bool.and_eq_true] at hes
      obtain ⟨ρ', F', hag', hcon', hcomp, _⟩ := hcon.outer hlocs hW hes hag hcl
      have := hR ρ' F' w' hag' hcon'
      rw [den_ren, hcomp] at this
      exact this
    · exact h1.elim
end
end Go.SX
