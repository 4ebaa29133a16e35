/- SX: what a contract does not look at may be hidden from it. -/
import Derived.Test.YtgbhiamfjikonaaGreatDoorSxLoop
set_option linter.unusedVariables false
set_option linter.unusedSimpArgs false
namespace Go.SX
section
variable {M : Type} {S : Seal M}

/-- Some objects by name alone. -/
def maskH (m : Nat → Bool) : Nat → Hp M → Hp M
  | _, [] => []
  | i, o :: H => (match m i with | true => (match o.vis with | true => .none | false => o) | false => o) :: maskH m (i + 1) H

theorem maskH_get (m : Nat → Bool) : ∀ (H : Hp M) (i l : Nat), (maskH m i H)[l]? = (H[l]?).map fun o => match m (i + l) with | true => (match o.vis with | true => .none | false => o) | false => o
  | [], i, l => by simp [maskH]
  | o :: H, i, 0 => by simp [maskH]
  | o :: H, i, l + 1 => by
    simp only [maskH, List.getElem?_cons_succ]
    rw [maskH_get m H (i + 1) l, show i + 1 + l = i + (l + 1) by omega]

theorem maskH_len (m : Nat → Bool) : ∀ (H : Hp M) (i : Nat), (maskH m i H).length = H.length
  | [], _ => rfl
  | o :: H, i => by simp [maskH, maskH_len m H (i + 1)]

theorem maskH_vis (m : Nat → Bool) (H : Hp M) : vis (maskH m 0 H) = vis H := by
  funext l
  rw [vis_eq, vis_eq, maskH_get]
  cases H[l]? with
  | none => rfl
  | some o =>
    simp only [Option.map_some]
    cases m (0 + l) with
    | false => rfl
    | true => cases o <;> rfl

/-- Nothing hidden is set. -/
def okSets (m : Nat → Bool) : List (Nat × AO M) → Bool
  | [] => true
  | (l, _) :: r => match m l with
    | true => false
    | false => okSets m r

theorem okSets_mem {m : Nat → Bool} : ∀ {s : List (Nat × AO M)}, okSets m s = true → ∀ p ∈ s, m p.1 = false
  | [], _, p, hp => by simp at hp
  | (l, o) :: r, h, p, hp => by
    simp only [okSets] at h
    split at h
    · cases h
    · rename_i hm
      simp only [List.mem_cons] at hp
      rcases hp with rfl | hp
      · exact hm
      · exact okSets_mem h p hp

def guardM (m : Nat → Bool) (t : Tree (Ans M)) : Tree (Ans M) :=
  t.bind fun (v, e) => match e with
    | .ext s n => match okSets m s with
      | true => .leaf (v, .ext s n)
      | false => .stuck 192

theorem sets_mask {m : Nat → Bool} : ∀ {s : List (Nat × AO M)} {H : Hp M}, okSets m s = true → ∀ l, m l = false → (applySets s (maskH m 0 H))[l]? = (applySets s H)[l]?
  | [], H, _, l, hl => by
    show (maskH m 0 H)[l]? = H[l]?
    rw [maskH_get]
    cases H[l]? with
    | none => rfl
    | some o => simp [hl]
  | (k, ok) :: r, H, h, l, hl => by
    have hk := okSets_mem h (k, ok) (by simp)
    have hr : okSets m r = true := by
      simp only [okSets] at h
      rw [show m k = false from hk] at h
      exact h
    have e : lset (maskH m 0 H) k ok = maskH m 0 (lset H k ok) := by
      rw [lset_eq, lset_eq]
      apply List.ext_getElem?
      intro i
      rw [maskH_get, List.getElem?_set, List.getElem?_set, maskH_get, maskH_len]
      by_cases hi : k = i
      · subst hi
        simp only [if_true]
        by_cases hlen : k < H.length
        · simp [hlen, show m k = false from hk]
        · simp [hlen]
      · simp [hi]
    show (applySets r (lset (maskH m 0 H) k ok))[l]? = (applySets r (lset H k ok))[l]?
    rw [e]
    exact sets_mask hr l hl

theorem Con.mask {H : Hp M} {ρ : Nat → Nat} {F : Nat → Nat → Prop} {w w0 : World} {F0 : Nat → Prop} (m : Nat → Bool) (hcon : Con S w0 F0 H ρ F w) :
    Con S w (fun x => ∃ l, m l = false ∧ F l x) (maskH m 0 H) ρ (fun l x => m l = false ∧ F l x) w := by
  have hv := maskH_vis m H
  let Fm : Nat → Nat → Prop := fun l x => m l = false ∧ F l x
  show Con S w (fun x => ∃ l, Fm l x) (maskH m 0 H) ρ Fm w
  refine ⟨fun l o hl => ?_, fun l o hl => ?_, fun l hl x hx => ?_, fun l l' x h1 h2 => hcon.dis l l' x h1.2 h2.2, fun l x hx => hcon.lt l x hx.2, fun l x hx => .inl ⟨l, hx⟩, fun _ _ _ => rfl, Nat.le_refl _, rfl, rfl, rfl⟩
  · rw [maskH_get, Nat.zero_add] at hl
    cases ho : H[l]? with
    | none => rw [ho] at hl; cases hl
    | some o' =>
      rw [ho] at hl
      simp only [Option.map_some, Option.some.injEq] at hl
      have hrep := hcon.rep l o' ho
      cases hm : m l with
      | false =>
        rw [hm] at hl
        simp only at hl
        subst hl
        have e : Fm l = F l := by funext x; simp [Fm, hm]
        rw [e]; exact hrep
      | true =>
        rw [hm] at hl
        simp only at hl
        split at hl
        · subst hl
          intro x hx
          have := hx.1
          rw [hm] at this
          cases this
        · rename_i hov
          subst hl
          have e : Fm l = fun _ => False := by funext x; simp [Fm, hm]
          rw [e]
          cases o' <;> first | (cases hov; done) | skip
          intro x hx; exact hx
  · rw [hv]
    rw [maskH_get, Nat.zero_add] at hl
    cases ho : H[l]? with
    | none => rw [ho] at hl; cases hl
    | some o' =>
      rw [ho] at hl
      simp only [Option.map_some, Option.some.injEq] at hl
      have hsc := hcon.scp l o' ho
      cases hm : m l with
      | false => rw [hm] at hl; simp only at hl; subst hl; exact hsc
      | true =>
        rw [hm] at hl
        simp only at hl
        split at hl
        · subst hl; exact rfl
        · subst hl; exact hsc
  · have hn : H[l]? = none := by
      rw [maskH_get] at hl
      cases ho : H[l]? with
      | none => rfl
      | some o' => rw [ho] at hl; cases hl
    exact hcon.out l hn x hx.2

theorem vis_mask {H : Hp M} (m : Nat → Bool) {s : List (Nat × AO M)} {n : List (AO M)} (hok : okSets m s = true) : vis (applySets s (maskH m 0 H) ++ n) = vis (applySets s H ++ n) ∧
    (∀ l, m l = false ∨ H.length ≤ l → (applySets s (maskH m 0 H) ++ n)[l]? = (applySets s H ++ n)[l]?) ∧
    (∀ l, m l = true → l < H.length → (applySets s H ++ n)[l]? = H[l]? ∧ (applySets s (maskH m 0 H) ++ n)[l]? = (maskH m 0 H)[l]?) := by
  have hv := maskH_vis m H
  have hlenS : (applySets s (maskH m 0 H)).length = (applySets s H).length := by rw [applySets_len, applySets_len, maskH_len]
  have hlenH : (applySets s H).length = H.length := applySets_len _ _
  have hget : ∀ l, m l = false ∨ H.length ≤ l → (applySets s (maskH m 0 H) ++ n)[l]? = (applySets s H ++ n)[l]? := by
    intro l hl
    by_cases hlt : l < H.length
    · rw [List.getElem?_append_left (by omega), List.getElem?_append_left (by omega)]
      rcases hl with hl | hl
      · exact sets_mask hok l hl
      · omega
    · rw [List.getElem?_append_right (by omega), List.getElem?_append_right (by omega), hlenS]
  have hkept : ∀ l, m l = true → l < H.length → (applySets s H ++ n)[l]? = H[l]? ∧ (applySets s (maskH m 0 H) ++ n)[l]? = (maskH m 0 H)[l]? := by
    intro l hm hlt
    have hne : ∀ p ∈ s, p.1 ≠ l := by
      intro p hp e
      have := okSets_mem hok p hp
      rw [e, hm] at this
      cases this
    rw [List.getElem?_append_left (by omega), List.getElem?_append_left (by rw [applySets_len, maskH_len]; exact hlt), applySets_get l s H hne, applySets_get l s (maskH m 0 H) hne]
    exact ⟨rfl, rfl⟩
  have hvis : vis (applySets s (maskH m 0 H) ++ n) = vis (applySets s H ++ n) := by
    funext l
    rw [vis_eq, vis_eq]
    by_cases hc : m l = false ∨ H.length ≤ l
    · rw [hget l hc]
    · have hm : m l = true := by
        cases hm : m l with
        | true => rfl
        | false => exact absurd (.inl hm) hc
      have hlt : l < H.length := by
        rcases Nat.lt_or_ge l H.length with h' | h'
        · exact h'
        · exact absurd (.inr h') hc
      obtain ⟨e1, e2⟩ := hkept l hm hlt
      rw [e1, e2, ← vis_eq, ← vis_eq, hv]
  exact ⟨hvis, hget, hkept⟩

theorem Con.unmask {H : Hp M} {ρ ρ' : Nat → Nat} {F F' : Nat → Nat → Prop} {w w' w0 : World} {F0 : Nat → Prop} (m : Nat → Bool) (hcon : Con S w0 F0 H ρ F w) {s : List (Nat × AO M)} {n : List (AO M)} (hok : okSets m s = true)
    (hag : Agree (maskH m 0 H) (applySets s (maskH m 0 H) ++ n) ρ ρ') (hcl : Con S w (fun x => ∃ l, m l = false ∧ F l x) (applySets s (maskH m 0 H) ++ n) ρ' F' w') :
    ∃ F2, Agree H (applySets s H ++ n) ρ ρ' ∧ Con S w0 F0 (applySets s H ++ n) ρ' F2 w' := by
  have hv := maskH_vis m H
  obtain ⟨hvis, hget, hkept⟩ := vis_mask (H := H) m (n := n) hok
  have hlenS : (applySets s (maskH m 0 H)).length = (applySets s H).length := by rw [applySets_len, applySets_len, maskH_len]
  have hlenH : (applySets s H).length = H.length := applySets_len _ _
  let F2 : Nat → Nat → Prop := fun l x => (m l = true ∧ l < H.length ∧ F l x) ∨ (¬ (m l = true ∧ l < H.length) ∧ F' l x)
  have hold : ∀ l x, m l = true → F l x → w'.heap[x]? = w.heap[x]? := fun l x hm hx => hcl.old x (hcon.lt l x hx) (fun ⟨l', hl'⟩ => by
    have e := hcon.dis l l' x hx hl'.2
    subst e
    have := hl'.1
    rw [hm] at this
    cases this)
  have hkeep : ∀ l, vis H l = true → vis (applySets s H ++ n) l = true := fun l hl => by rw [← hvis]; exact hag.keep l (by rw [hv]; exact hl)
  have hsame : ∀ l, vis H l = true → ρ' l = ρ l := fun l hl => hag.same l (by rw [hv]; exact hl)
  refine ⟨F2, ⟨hsame, hkeep⟩, ⟨fun l o hl => ?_, fun l o hl => ?_, fun l hl x hx => ?_, fun l l' x h1 h2 => ?_, fun l x hx => ?_, fun l x hx => ?_, fun x hx hn => ?_, Nat.le_trans hcon.size hcl.size, hcl.os.trans hcon.os, hcl.tape.trans hcon.tape, hcl.output.trans hcon.output⟩⟩
  · by_cases hc : m l = true ∧ l < H.length
    · rw [(hkept l hc.1 hc.2).1] at hl
      have e : F2 l = F l := by
        funext x
        exact propext ⟨fun h => by
          rcases h with ⟨_, _, h⟩ | ⟨h, _⟩
          · exact h
          · exact absurd hc h, fun h => .inl ⟨hc.1, hc.2, h⟩⟩
      rw [e]
      cases hov : o.vis with
      | true =>
        have h2 := rep_here (hcon.rep l o hl) fun x hx => hold l x hc.1 hx
        rw [hsame l (vis_some hl hov)]
        exact rep_agree h2 (hcon.scp l o hl) fun k hk => hsame k hk
      | false =>
        have hrep := hcon.rep l o hl
        cases o <;> first | (cases hov; done) | skip
        exact hrep
    · have e : F2 l = F' l := by funext x; exact propext ⟨fun h => by
        rcases h with ⟨a, b, _⟩ | h
        · exact absurd ⟨a, b⟩ hc
        · exact h.2, fun h => .inr ⟨hc, h⟩⟩
      rw [e]
      refine hcl.rep l o ?_
      rw [hget l ?_]
      · exact hl
      · cases hm : m l with
        | false => exact .inl rfl
        | true => exact .inr (Nat.le_of_not_lt fun h' => hc ⟨hm, h'⟩)
  · by_cases hc : m l = true ∧ l < H.length
    · rw [(hkept l hc.1 hc.2).1] at hl
      exact Sc_mono hkeep (hcon.scp l o hl)
    · rw [← hvis]
      refine hcl.scp l o ?_
      rw [hget l ?_]
      · exact hl
      · cases hm : m l with
        | false => exact .inl rfl
        | true => exact .inr (Nat.le_of_not_lt fun h' => hc ⟨hm, h'⟩)
  · have hge := List.getElem?_eq_none_iff.1 hl
    rw [List.length_append, hlenH] at hge
    rcases hx with ⟨_, hlt, _⟩ | ⟨_, hx⟩
    · omega
    · exact hcl.out l (List.getElem?_eq_none (by rw [List.length_append, hlenS, hlenH]; exact hge)) x hx
  · have cross : ∀ a b, m a = true → F a x → F' b x → ¬ (m b = true ∧ b < H.length) → False := by
      intro a b ha h3 h4 h5
      rcases hcl.own b x h4 with ⟨c, hc⟩ | hge
      · have e := hcon.dis a c x h3 hc.2
        subst e
        have := hc.1
        rw [ha] at this
        cases this
      · have := hcon.lt a x h3; omega
    rcases h1 with ⟨a1, b1, c1⟩ | ⟨a1, b1⟩ <;> rcases h2 with ⟨a2, b2, c2⟩ | ⟨a2, b2⟩
    · exact hcon.dis _ _ x c1 c2
    · exact (cross l l' a1 c1 b2 a2).elim
    · exact (cross l' l a2 c2 b1 a1).elim
    · exact hcl.dis _ _ x b1 b2
  · rcases hx with ⟨_, _, hx⟩ | ⟨_, hx⟩
    · exact Nat.lt_of_lt_of_le (hcon.lt l x hx) hcl.size
    · exact hcl.lt l x hx
  · rcases hx with ⟨_, _, hx⟩ | ⟨_, hx⟩
    · exact hcon.own l x hx
    · rcases hcl.own l x hx with ⟨l', hl'⟩ | hge
      · exact hcon.own l' x hl'.2
      · exact .inr (Nat.le_trans hcon.size hge)
  · rw [hcl.old x (Nat.lt_of_lt_of_le hx hcon.size) (fun ⟨l', hl'⟩ => by
      rcases hcon.own l' x hl'.2 with h4 | h4
      · exact hn h4
      · omega)]
    exact hcon.old x hx hn

theorem mask_sound {P : Program} {f : FuncId} {args : List AV} {H : Hp M} {t : Tree (Ans M)} (m : Nat → Bool) (h : LocalOK P S f args (maskH m 0 H) t) : LocalOK P S f args H (guardM m t) := by
  intro ρ F w w0 F0 R hcon hargs ht
  refine h ρ _ w w _ R (hcon.mask m) (by rw [maskH_vis]; exact hargs) ?_
  unfold guardM at ht
  rw [Tree.all_bind] at ht
  refine Tree.all_mono ht ?_
  rintro ⟨v, s, n⟩ h1
  simp only at h1
  split at h1
  · rename_i hok
    obtain ⟨hs1, hR⟩ := h1
    rw [app_ext] at hs1 hR
    refine ⟨by rw [app_ext, (vis_mask m hok).1]; exact hs1, fun ρ' F' w' hag hcl => ?_⟩
    rw [app_ext] at hag hcl
    obtain ⟨F2, h2, h3⟩ := hcon.unmask m hok hag hcl
    exact hR ρ' F2 w' h2 h3
  · exact h1.elim

def guardX (m : Nat → Bool) (t : Tree (Ex × Fr × Eff M)) : Tree (Ex × Fr × Eff M) :=
  t.bind fun (e, fr, ef) => match ef with
    | .ext s n => match okSets m s with
      | true => .leaf (e, fr, .ext s n)
      | false => .stuck 193

theorem mask_loop {P : Program} {b : Code} {fr : Fr} {H : Hp M} {T : Tree (Ex × Fr × Eff M)} (m : Nat → Bool) (h : LoopSound P S b fr (maskH m 0 H) T) : LoopSound P S b fr H (guardX m T) := by
  intro ρ F w w0 F0 a Q hcon hfr hT
  refine h ρ _ w w _ a Q (hcon.mask m) ⟨hfr.den, by rw [maskH_vis]; exact hfr.sc, hfr.len, hfr.defers⟩ ?_
  unfold guardX at hT
  rw [Tree.all_bind] at hT
  refine Tree.all_mono hT ?_
  rintro ⟨e, fr', s, n⟩ h1
  simp only at h1
  split at h1
  · rename_i hok
    intro ρ' F' w' a' hag hcl hfl
    simp only at hag hcl hfl
    rw [app_ext] at hag hcl hfl
    obtain ⟨F2, h2, h3⟩ := hcon.unmask m hok hag hcl
    exact h1 ρ' F2 w' a' (by simp only; rw [app_ext]; exact h2) (by simp only; rw [app_ext]; exact h3) ⟨hfl.den, by simp only; rw [app_ext, ← (vis_mask m hok).1]; exact hfl.sc, hfl.len, hfl.defers⟩
  · exact h1.elim
end
end Go.SX
