/- SX: a region that draws its order, the theorem. -/
import Derived.Test.YtgbhiamfjikonaaGreatDoorSxDraw
set_option linter.unusedVariables false
set_option linter.unusedSimpArgs false
set_option linter.unusedSectionVars false
namespace Go.SX
section
variable {P : Program} {M : Type} {S : Seal M}
variable (ops : List Oper) (fr : Fr)

theorem AOK.less {L : Array Bool} {vals vals' : Vals} {ρ : Nat → Nat} {a : Act} (h : AOK ops fr L vals' ρ a) (hm : More vals vals') : AOK ops fr L vals ρ a :=
  ⟨fun i o d v hi ho hd hv => by
    obtain ⟨v', h1, h2, _⟩ := hm.val i v hv
    rw [h.done i o d v' hi ho hd h1, h2], h.old, h.len, h.all, h.defers⟩

/-- What a light operation is good for. -/
def LightF (P : Program) (x : Nat) (vals : Vals) : Prop :=
  ∃ o v, ops[x]? = some o ∧ valOf vals x = some v ∧ ∀ L ρ a, AOK ops fr L vals ρ a → ShutL ops L → ¬ lst L x → (∀ i, hasDep (depsD ops) x i = true → lst L i) → Yields P ops.toArray o (v.den ρ) a

/-- What an operation is good for that looks at the world and leaves it. -/
def QuietF (P : Program) (S : Seal M) (x : Nat) (vals : Vals) (base : Hp M) : Prop :=
  ∃ o v, ops[x]? = some o ∧ valOf vals x = some v ∧ ∀ w0 F0 L ρ a F w next Q, AOK ops fr L vals ρ a → ShutL ops L → ¬ lst L x → (∀ i, hasDep (depsD ops) x i = true → lst L i) →
    Con S w0 F0 base ρ F w → (∀ ρ' F' w', Agree base base ρ ρ' → Con S w0 F0 base ρ' F' w' → next (a.put o.dst (v.den ρ')) w') → Region.wanted o (yielded ops.toArray a.tmps) = true ∧ o.wp P a w next Q

theorem LightF.more {x : Nat} {vals vals' : Vals} (h : LightF ops fr P x vals) (hm : More vals vals') : LightF ops fr P x vals' := by
  obtain ⟨o, v, h1, h2, h3⟩ := h
  obtain ⟨v', h4, h5, _⟩ := hm.val x v h2
  exact ⟨o, v', h1, h4, fun L ρ a ha hs hx hd => by rw [h5]; exact h3 L ρ a (ha.less ops fr hm) hs hx hd⟩

theorem QuietF.more {x : Nat} {vals vals' : Vals} {base : Hp M} (h : QuietF ops fr P S x vals base) (hm : More vals vals') : QuietF ops fr P S x vals' base := by
  obtain ⟨o, v, h1, h2, h3⟩ := h
  obtain ⟨v', h4, h5, _⟩ := hm.val x v h2
  exact ⟨o, v', h1, h4, fun w0 F0 L ρ a F w next Q ha hs hx hd hc hn => h3 w0 F0 L ρ a F w next Q (ha.less ops fr hm) hs hx hd hc fun ρ' F' w' hag hc' => by rw [← h5]; exact hn ρ' F' w' hag hc'⟩

/-- From a larger heap to a smaller one. -/
theorem Con.sub {w0 : World} {F0 : Nat → Prop} {base news : Hp M} {ρ : Nat → Nat} {F : Nat → Nat → Prop} {w : World} (h : Con S w0 F0 (base ++ news) ρ F w) (hsc : ∀ (l : Nat) (o : AO M), base[l]? = some o → o.Sc S (vis base)) :
    Con S w (fun x => ∃ l, l < base.length ∧ F l x) base ρ (fun l x => l < base.length ∧ F l x) w where
  rep := fun l o hl => by
    have hlt := (List.getElem?_eq_some_iff.1 hl).1
    have e : (fun x => l < base.length ∧ F l x) = F l := by funext x; simp [hlt]
    rw [e]
    exact h.rep l o (by rw [List.getElem?_append_left hlt]; exact hl)
  scp := hsc
  out := fun l hl x hx => by have := List.getElem?_eq_none_iff.1 hl; omega
  dis := fun l l' x h1 h2 => h.dis _ _ x h1.2 h2.2
  lt := fun l x hx => h.lt _ x hx.2
  own := fun l x hx => .inl ⟨l, hx⟩
  old := fun _ _ _ => rfl
  size := Nat.le_refl _
  os := rfl
  tape := rfl
  output := rfl

/-- .. and back. -/
theorem Con.super {w0 : World} {F0 : Nat → Prop} {base news : Hp M} {ρ ρ' : Nat → Nat} {F F' : Nat → Nat → Prop} {w w' : World} (h : Con S w0 F0 (base ++ news) ρ F w) (hsc : ∀ (l : Nat) (o : AO M), base[l]? = some o → o.Sc S (vis base))
    (hag : Agree base base ρ ρ') (h' : Con S w (fun x => ∃ l, l < base.length ∧ F l x) base ρ' F' w') :
    ∃ ρ'' F'', Agree (base ++ news) (base ++ news) ρ ρ'' ∧ Con S w0 F0 (base ++ news) ρ'' F'' w' ∧ ∀ l, vis base l = true → ρ'' l = ρ' l := by
  have hF' : ∀ l x, F' l x → l < base.length := by
    intro l x hx
    rcases Nat.lt_or_ge l base.length with h1 | h1
    · exact h1
    · exact absurd hx (h'.out l (List.getElem?_eq_none h1) x)
  have hag1 : ∀ l, vis (base ++ news) l = true → (fun l => if l < base.length then ρ' l else ρ l) l = ρ l := by
    intro l hl
    simp only
    split
    · rename_i hlt
      refine hag.same l ?_
      rw [vis_eq] at hl ⊢
      rw [List.getElem?_append_left hlt] at hl
      exact hl
    · rfl
  have hag2 : ∀ l, vis base l = true → (fun l => if l < base.length then ρ' l else ρ l) l = ρ' l := by
    intro l hl
    simp only
    rw [if_pos (vis_lt hl)]
  have hfar : ∀ l x, base.length ≤ l → F l x → ∀ k, ¬ (k < base.length ∧ F k x) := by
    intro l x hl hx k hk
    have := h.dis _ _ x hx hk.2
    omega
  have hcase : ∀ l x, (if l < base.length then F' l else F l) x → (F' l x ∧ l < base.length) ∨ (F l x ∧ base.length ≤ l) := by
    intro l x hx
    by_cases e : l < base.length
    · rw [if_pos e] at hx; exact .inl ⟨hx, e⟩
    · rw [if_neg e] at hx; exact .inr ⟨hx, by omega⟩
  have cross : ∀ l l' x, F' l x → F l' x → base.length ≤ l' → False := by
    intro l l' x h1 h2 h3
    rcases h'.own l x h1 with ⟨k, hk, hk'⟩ | h4
    · exact hfar l' x h3 h2 k ⟨hk, hk'⟩
    · have := h.lt l' x h2; omega
  refine ⟨fun l => if l < base.length then ρ' l else ρ l, fun l => if l < base.length then F' l else F l, ⟨hag1, fun _ h => h⟩, ?_, hag2⟩
  refine ⟨fun l o hl => ?_, h.scp, fun l hl x hx => ?_, fun l l' x g1 g2 => ?_, fun l x hx => ?_, fun l x hx => ?_, fun x hx hn => ?_, Nat.le_trans h.size h'.size, h'.os.trans h.os, h'.tape.trans h.tape, h'.output.trans h.output⟩
  · by_cases e : l < base.length
    · rw [List.getElem?_append_left e] at hl
      simp only [e, if_true]
      exact rep_agree (h'.rep l o hl) (hsc l o hl) hag2
    · simp only [e, if_false]
      refine rep_agree (rep_here (h.rep l o hl) fun x hx => ?_) (h.scp l o hl) hag1
      exact h'.old x (h.lt l x hx) (fun ⟨k, hk⟩ => hfar l x (by omega) hx k hk)
  · rcases hcase l x hx with ⟨h1, h2⟩ | ⟨h1, h2⟩
    · have := List.getElem?_eq_none_iff.1 hl
      rw [List.length_append] at this; omega
    · exact h.out l hl x h1
  · rcases hcase l x g1 with ⟨h1, h2⟩ | ⟨h1, h2⟩ <;> rcases hcase l' x g2 with ⟨h3, h4⟩ | ⟨h3, h4⟩
    · exact h'.dis l l' x h1 h3
    · exact (cross l l' x h1 h3 h4).elim
    · exact (cross l' l x h3 h1 h2).elim
    · exact h.dis l l' x h1 h3
  · rcases hcase l x hx with ⟨h1, h2⟩ | ⟨h1, h2⟩
    · exact h'.lt l x h1
    · exact Nat.lt_of_lt_of_le (h.lt l x h1) h'.size
  · rcases hcase l x hx with ⟨h1, h2⟩ | ⟨h1, h2⟩
    · rcases h'.own l x h1 with ⟨k, _, hk'⟩ | h4
      · exact h.own k x hk'
      · exact .inr (Nat.le_trans h.size h4)
    · exact h.own l x h1
  · rw [h'.old x (Nat.lt_of_lt_of_le hx h.size) (fun ⟨k, _, hk'⟩ => by
      rcases h.own k x hk' with h4 | h4
      · exact hn h4
      · omega)]
    exact h.old x hx hn

theorem app_news (news H : Hp M) : (Eff.ext [] news : Eff M).app H = H ++ news := by
  cases news <;> simp [Eff.app, applySets, lapp_eq]

theorem QuietF.grow {x : Nat} {vals : Vals} {base news : Hp M} (h : QuietF ops fr P S x vals base) (hs : ∀ v, valOf vals x = some v → v.sc (vis base) = true) (hsc : ∀ (l : Nat) (o : AO M), base[l]? = some o → o.Sc S (vis base)) : QuietF ops fr P S x vals (base ++ news) := by
  obtain ⟨o, v, h1, h2, h3⟩ := h
  refine ⟨o, v, h1, h2, fun w0 F0 L ρ a F w next Q ha hl hx hd hc hn => ?_⟩
  refine h3 w _ L ρ a _ w next Q ha hl hx hd (hc.sub hsc) fun ρ' F' w' hag hc' => ?_
  obtain ⟨ρ'', F'', g1, g2, g3⟩ := hc.super hsc hag hc'
  rw [← den_agree (vis base) ρ' ρ'' g3 v (hs v h2)]
  exact hn ρ'' F'' w' g1 g2


/-- What is known of an operation that read, by what it read. -/
def QF (P : Program) (S : Seal M) (x : Nat) (vals : Vals) (base : Hp M) : Rd → Prop
  | .nothing => QuietF ops fr P S x vals [] ∧ ∃ v, valOf vals x = some v ∧ v.sc (fun _ => false) = true
  | .one l => ∀ H' : Hp M, lget H' l = lget base l → (∀ l', vis base l' = true → vis H' l' = true) → QuietF ops fr P S x vals H'
  | .all => QuietF ops fr P S x vals base

theorem QF.more {x : Nat} {vals vals' : Vals} {base : Hp M} : ∀ {r : Rd}, QF ops fr P S x vals base r → More vals vals' → QF ops fr P S x vals' base r
  | .nothing, ⟨h, v, h1, h2⟩, hm => ⟨h.more ops fr hm, by
      obtain ⟨v', g1, _, g3⟩ := hm.val x v h1
      exact ⟨v', g1, g3 _ h2⟩⟩
  | .one l, h, hm => fun H' h1 h2 => (h H' h1 h2).more ops fr hm
  | .all, h, hm => QuietF.more ops fr h hm

theorem QF.quiet {x : Nat} {vals : Vals} {base : Hp M} : ∀ {r : Rd}, QF ops fr P S x vals base r → QuietF ops fr P S x vals base
  | .nothing, ⟨h, v, h1, h2⟩ => by
    have := h.grow ops fr (news := base) (fun v' hv' => by
      rw [h1] at hv'; cases hv'
      refine sc_mono _ _ (fun l hl => ?_) v h2
      cases hl) (fun l o hl => by simp at hl)
    simpa using this
  | .one l, h => h base rfl fun _ h => h
  | .all, h => h

theorem memS_spec {l : Nat} : ∀ {s : List (Nat × AO M)}, memS l s = false → ∀ p ∈ s, p.1 ≠ l
  | [], _, p, hp => by simp at hp
  | (k, o) :: r, h, p, hp => by
    simp only [memS, Bool.or_eq_false_iff] at h
    rcases List.mem_cons.1 hp with rfl | hp
    · intro e; simp only at e; subst e; simp at h
    · exact memS_spec h.2 p hp

theorem applySets_get' (l : Nat) : ∀ (s : List (Nat × AO M)) (H : Hp M), (∀ p ∈ s, p.1 ≠ l) → (applySets s H)[l]? = H[l]?
  | [], H, _ => rfl
  | (k, o) :: r, H, h => by
    simp only [applySets]
    rw [applySets_get' l r _ (fun p hp => h p (by simp [hp])), lset_eq, List.getElem?_set_ne (h (k, o) (by simp))]

theorem QF.last {x : Nat} {vals : Vals} {base : Hp M} {e : Eff M} (hsc : ∀ v, valOf vals x = some v → v.sc (vis base) = true) (hscp : ∀ (l : Nat) (o : AO M), base[l]? = some o → o.Sc S (vis base))
    (hkeep : ∀ l, vis base l = true → vis (e.app base) l = true) : ∀ {r : Rd}, lasts e.sets r = true → (∀ l, r = .one l → ∃ o, base[l]? = some o) → QF ops fr P S x vals base r → QF ops fr P S x vals (e.app base) r
  | .nothing, _, _, h => h
  | .one l, hl, hat, h => by
    intro H' h1 h2
    refine h H' ?_ (fun l' hl' => h2 l' (hkeep l' hl'))
    obtain ⟨o, ho⟩ := hat l rfl
    have hlt := (List.getElem?_eq_some_iff.1 ho).1
    rw [h1]
    obtain ⟨sets, news⟩ := e
    have hm : memS l sets = false := by simpa [lasts, Eff.sets] using hl
    have hlen : ∀ (s : List (Nat × AO M)) (H : Hp M), (applySets s H).length = H.length := by
      intro s
      induction s with
      | nil => intro H; rfl
      | cons p r ih => intro H; obtain ⟨k, o⟩ := p; simp [applySets, ih, lset_eq]
    have happ : (Eff.ext sets news : Eff M).app base = applySets sets base ++ news := by
      cases sets <;> cases news <;> simp [Eff.app, applySets, lapp_eq]
    rw [happ, lget_eq, lget_eq, List.getElem?_append_left (by rw [hlen]; exact hlt), applySets_get' l sets base (memS_spec hm)]
  | .all, hl, _, h => by
    obtain ⟨sets, news⟩ := e
    cases sets with
    | cons p r => simp [lasts, Eff.sets] at hl
    | nil =>
      show QuietF ops fr P S x vals ((Eff.ext [] news : Eff M).app base)
      rw [app_news]
      exact QuietF.grow ops fr h hsc hscp

/-- Where the operations of one phase stand. -/
structure Pend (cfg : Cfg M) (P : Program) (S : Seal M) (vals0 vals : Vals) (base : Hp M) (win : Win) : Prop where
  len : vals.length = ops.length
  sc : ∀ x v, valOf vals x = some v → v.sc (vis base) = true
  fact : ∀ x v, valOf vals0 x = none → valOf vals x = some v → LightF ops fr P x vals ∨ ∃ r, (x, r) ∈ win ∧ (∀ l, r = .one l → ∃ o, base[l]? = some o) ∧ QF ops fr P S x vals base r
  min : ∀ L, (∀ i v, valOf vals0 i = some v → lst L i) → (∃ x v, valOf vals x = some v ∧ ¬ lst L x) → ∃ x o v, valOf vals x = some v ∧ ¬ lst L x ∧ ops[x]? = some o ∧ ∀ e ∈ o.after, Region.binds .any e = true → lst L e.on
  more : More vals0 vals
  noall : ∀ x v o, valOf vals0 x = none → valOf vals x = some v → ops[x]? = some o → isAlloc cfg o = false

variable {cfg : Cfg M}

theorem Pend.start {vals : Vals} {base : Hp M} (hl : vals.length = ops.length) (hs : ∀ x v, valOf vals x = some v → v.sc (vis base) = true) : Pend ops fr cfg P S vals vals base [] :=
  ⟨hl, hs, fun x v h0 h1 => (by rw [h0] at h1; cases h1), fun L hL ⟨x, v, h1, h2⟩ => absurd (hL x v h1) h2, More.refl _, fun x v o h0 h1 => (by rw [h0] at h1; cases h1)⟩

theorem Pend.step {vals0 vals : Vals} {base : Hp M} {win win' : Win} (h : Pend ops fr cfg P S vals0 vals base win) {j : Nat} {o : Oper} {v : AV} (ho : ops[j]? = some o)
    (hj : valOf vals j = none) (hr : readyB vals o.after.toList = true) (hv : v.sc (vis base) = true) (hna : isAlloc cfg o = false) (hw : ∀ x, x ∈ win → x ∈ win')
    (hf : LightF ops fr P j (lset vals j (some v)) ∨ ∃ r, (j, r) ∈ win' ∧ (∀ l, r = .one l → ∃ o, base[l]? = some o) ∧ QF ops fr P S j (lset vals j (some v)) base r) : Pend ops fr cfg P S vals0 (lset vals j (some v)) base win' := by
  have hm := More.new (v := v) hj
  have hlt : j < vals.length := by rw [h.len]; exact (List.getElem?_eq_some_iff.1 ho).1
  refine ⟨by rw [hm.len, h.len], fun x u hu => ?_, fun x u h0 hu => ?_, fun L hL hex => ?_, h.more.trans hm, fun x u o' h0 hu ho' => ?_⟩
  rotate_left 3
  · rw [valOf_set] at hu
    split at hu
    · rename_i e; subst e; rw [ho] at ho'; cases ho'; exact hna
    · exact h.noall x u o' h0 hu ho'
  · rw [valOf_set] at hu
    split at hu
    · rename_i e; simp only [if_pos hlt, Option.some.injEq] at hu; subst hu; exact hv
    · exact h.sc x u hu
  · rw [valOf_set] at hu
    split at hu
    · rename_i e; subst e; exact hf
    · rcases h.fact x u h0 hu with h1 | ⟨h1, h2⟩
      · exact .inl (h1.more ops fr hm)
      · obtain ⟨h2, h3⟩ := h2
        exact .inr ⟨h1, hw _ h2, h3.1, h3.2.more ops fr hm⟩
  · by_cases hex' : ∃ x v, valOf vals x = some v ∧ ¬ lst L x
    · obtain ⟨x, o', u, h1, h2, h3, h4⟩ := h.min L hL hex'
      obtain ⟨u', hu', _⟩ := hm.val x u h1
      exact ⟨x, o', u', hu', h2, h3, h4⟩
    · obtain ⟨x, u, h1, h2⟩ := hex
      rw [valOf_set] at h1
      split at h1
      · rename_i e
        subst e
        refine ⟨x, o, v, by rw [valOf_set, if_pos rfl, if_pos hlt], h2, ho, fun e he hb => ?_⟩
        obtain ⟨u', hu'⟩ := readyB_spec hr e (Array.mem_toList_iff.2 he) hb
        rcases Classical.em (lst L e.on) with h | h
        · exact h
        · exact absurd ⟨e.on, u', hu', h⟩ hex'
      · exact absurd ⟨x, u, h1, h2⟩ hex'

theorem Pend.retell {vals0 vals : Vals} {base : Hp M} {win : Win} (h : Pend ops fr cfg P S vals0 vals base win) {g : Nat} {v u : AV} (hg : valOf vals g = some u) (hd : ∀ ρ, v.den ρ = u.den ρ) (hs : ∀ V, v.sc V = true) :
    Pend ops fr cfg P S vals0 (lset vals g (some v)) base win := by
  have hm := More.retell hg hd hs
  have hback : ∀ x y, valOf (lset vals g (some v)) x = some y → ∃ z, valOf vals x = some z := by
    intro x y hy
    rw [valOf_set] at hy
    split at hy
    · rename_i e; subst e; exact ⟨u, hg⟩
    · exact ⟨y, hy⟩
  refine ⟨by rw [hm.len, h.len], fun x y hy => ?_, fun x y h0 hy => ?_, fun L hL hex => ?_, h.more.trans hm, fun x y o' h0 hy ho' => ?_⟩
  rotate_left 3
  · obtain ⟨z, hz⟩ := hback x y hy
    exact h.noall x z o' h0 hz ho'
  · rw [valOf_set] at hy
    split at hy
    · split at hy
      · simp only [Option.some.injEq] at hy; subst hy; exact hs _
      · cases hy
    · exact h.sc x y hy
  · obtain ⟨z, hz⟩ := hback x y hy
    rcases h.fact x z h0 hz with h1 | ⟨h1, h2⟩
    · exact .inl (h1.more ops fr hm)
    · exact .inr ⟨h1, h2.1, h2.2.1, h2.2.2.more ops fr hm⟩
  · obtain ⟨x, y, hy, hx⟩ := hex
    obtain ⟨z, hz⟩ := hback x y hy
    obtain ⟨x, o', u', h1, h2, h3, h4⟩ := h.min L hL ⟨x, z, hz, hx⟩
    obtain ⟨u'', hu', _⟩ := hm.val x u' h1
    exact ⟨x, o', u'', hu', h2, h3, h4⟩

theorem wanted_AOK {L : Array Bool} {vals : Vals} {ρ : Nat → Nat} {a : Act} (h : AOK ops fr L vals ρ a) {o : Oper} {g : Nat} {want : Bool} (hg : o.guard = some (g, want)) (hl : lst L g) (hd : (dstOf ops g).isSome = true) :
    (∀ s b, valOf vals g = some (.bool s b) → Region.wanted o (yielded ops.toArray a.tmps) = (b == want)) ∧
    (valOf vals g = some (.tup []) → Region.wanted o (yielded ops.toArray a.tmps) = false) := by
  obtain ⟨d, hd⟩ := Option.isSome_iff_exists.1 hd
  have hy := yielded_eq hd a.tmps
  have hop : ∃ og, ops[g]? = some og ∧ og.dst = some d := by
    unfold dstOf at hd
    rw [lget_eq] at hd
    cases ho : ops[g]? with
    | none => rw [ho] at hd; cases hd
    | some og => rw [ho] at hd; exact ⟨og, rfl, hd⟩
  obtain ⟨og, hog, hdst⟩ := hop
  have hlt : d < a.tmps.size := Nat.lt_of_lt_of_le (h.all g og d hog hdst) h.len
  have slot : ∀ v, valOf vals g = some v → a.tmps[d]? = some (v.den ρ) := by
    intro v hv
    have h1 := h.done g og d v hl hog hdst hv
    rw [Array.getD_eq_getD_getElem?, Array.getElem?_eq_getElem hlt] at h1
    rw [Array.getElem?_eq_getElem hlt]
    simpa using h1
  refine ⟨fun s b hv => ?_, fun hv => ?_⟩
  · unfold Region.wanted
    rw [hg]
    simp only
    rw [hy, slot _ hv]
    simp [AV.den]
  · unfold Region.wanted
    rw [hg]
    simp only
    rw [hy, slot _ hv]
    simp [AV.den, denL]

/-- The operation runs, as its guard stands. -/
def WantF (x : Nat) (vals : Vals) (o : Oper) : Prop :=
  ∀ L ρ a, AOK ops fr L vals ρ a → (∀ i, hasDep (depsD ops) x i = true → lst L i) → Region.wanted o (yielded ops.toArray a.tmps) = true

variable {call : FuncId → List AV → Hp M → Tree (Ans M)}

/-- How a phase ends: all is done, or an operation that changes the world is next. -/
def EndOK (S : Seal M) (cfg : Cfg M) (call : FuncId → List AV → Hp M → Tree (Ans M)) (Φ : Fr × Hs M → Prop) (b : Nat) (vals : Vals) (base : Hs M) (win : Win) : Prop :=
  (allSome vals = true ∧ Φ (endFr fr ops vals, base)) ∨
  ∃ k o n, n < b ∧ ops[k]? = some o ∧ valOf vals k = none ∧ readyB vals o.after.toList = true ∧ WantF ops fr k vals o ∧ noLight vals ops 0 = true ∧ allHang cfg (depsD ops) vals k ops 0 = true ∧
    (opB cfg call o.op (evAt ops (depsD ops) fr vals k) base.h).all fun x => x.1.sc (vis (x.2.app base.h)) = true ∧ x.2.sc (vis (x.2.app base.h)) S.locs = true ∧
      ∃ win', (drawOps cfg S.locs call ops (depsD ops) fr n (lset vals k (some x.1)) (base.app x.2) win').all Φ ∧ win' = keepWin (depsD ops) k win ∧ okWin (depsD ops) k x.2.sets win = true

theorem EndOK.le {Φ : Fr × Hs M → Prop} {b b' : Nat} {vals : Vals} {base : Hs M} {win : Win} (h : EndOK ops fr S cfg call Φ b vals base win) (hb : b ≤ b') : EndOK ops fr S cfg call Φ b' vals base win := by
  rcases h with h | ⟨k, o, n, hn, h⟩
  · exact .inl h
  · exact .inr ⟨k, o, n, by omega, h⟩

theorem isAlloc_pure {o : Oper} (h : isPure o.op = true) : isAlloc cfg o = false := by
  unfold isAlloc
  cases ho : o.op <;> rw [ho] at h <;> first | rfl | simp [isPure] at h

theorem isAlloc_guard {o : Oper} {g : Nat × Bool} (h : o.guard = some g) : isAlloc cfg o = false := by
  unfold isAlloc
  rw [h]
  split
  · rename_i h1 h2; cases h2
  · rfl

theorem isAlloc_spec {o : Oper} (h : isAlloc cfg o = true) : ∃ t z, o.op = .alloc t ∧ o.guard = none ∧ zeroB cfg.P t = some z := by
  unfold isAlloc at h
  split at h
  · rename_i t h1 h2
    obtain ⟨z, hz⟩ := Option.isSome_iff_exists.1 h
    exact ⟨t, z, h1, h2, hz⟩
  · cases h

theorem isAlloc_loud {o : Oper} {ev : Ev} {H : Hp M} {v : AV} (h : (opB cfg call o.op ev H).run = some (v, .ext [] [])) : isAlloc cfg o = false := by
  cases hi : isAlloc cfg o with
  | false => rfl
  | true =>
    obtain ⟨t, z, h1, _, h3⟩ := isAlloc_spec hi
    rw [h1] at h
    simp [opB, h3, with1, Tree.run] at h

/-- What is known of slots, but for what names places. -/
def bare (ev : Ev) : Ev := fun t => match ev t with
  | some u => if u.sc (fun _ => false) then some u else none
  | none => none

theorem bare_some {ev : Ev} {t : Tmp} {u : AV} (h : bare ev t = some u) : ev t = some u ∧ u.sc (fun _ => false) = true := by
  unfold bare at h
  split at h
  · rename_i v hv
    split at h
    · rename_i hs
      cases h
      exact ⟨hv, hs⟩
    · cases h
  · cases h

theorem bare_operand {ev : Ev} {x : Operand} {v : AV} (h : operand ev x = some v) (hs : v.sc (fun _ => false) = true) : operand (bare ev) x = some v := by
  cases x with
  | tmp t =>
    simp only [operand] at h ⊢
    unfold bare
    rw [h]; simp [hs]
  | const c => exact h
  | global g => exact h
  | func f => exact h

theorem bare_operands {ev : Ev} : ∀ {xs : List Operand} {vs : List AV}, operands ev xs = some vs → scL (fun _ => false) vs = true → operands (bare ev) xs = some vs
  | [], vs, h, _ => h
  | x :: xs, vs, h, hs => by
    simp only [operands] at h ⊢
    split at h
    · rename_i v hv
      simp only [Option.map_eq_some_iff] at h
      obtain ⟨l, hl, rfl⟩ := h
      simp only [scL, Bool.and_eq_true] at hs
      rw [bare_operand hv hs.1]
      simp only [bare_operands hl hs.2, Option.map_some]
    · cases h

theorem rdOf_some {ev : Ev} {H : Hp M} {op : Op} : ∀ l, rdOf ev H op = .one l → ∃ o, H[l]? = some o := by
  have key : ∀ l l' : Nat, seenAt H l = .one l' → ∃ o, H[l']? = some o := by
    intro l l' h
    unfold seenAt at h
    split at h
    · rename_i o ho
      cases h
      exact ⟨o, by rw [← lget_eq]; exact ho⟩
    · cases h
  intro l h
  unfold rdOf at h
  split at h
  · split at h
    · exact key _ l h
    · exact key _ l h
    · cases h
  · split at h
    · exact key _ l h
    · cases h
  · cases h

theorem rdOf_run {ev : Ev} {H H' : Hp M} {op : Op} {l : Nat} (hr : rdOf ev H op = .one l) (hl : lget H' l = lget H l) : opB cfg call op ev H' = opB cfg call op ev H := by
  have key : ∀ k : Nat, seenAt H k = .one l → k = l := by
    intro k h
    unfold seenAt at h
    split at h
    · cases h; rfl
    · cases h
  unfold rdOf at hr
  split at hr
  · rename_i t a
    split at hr
    · rename_i k i z o hv
      obtain rfl := key _ hr
      simp only [opB, hv, with1, loadAt, hl]
    · rename_i k i m z o f hv
      obtain rfl := key _ hr
      simp only [opB, hv, with1, loadAt, hl]
    · cases hr
  · rename_i t x k ok
    split at hr
    · rename_i m hv
      obtain rfl := key _ hr
      simp only [opB, hv, with2]
      cases operand ev k with
      | none => rfl
      | some u => simp only [lookupB, hl]
    · cases hr
  · cases hr

section
variable (hP : cfg.P = P) (hok : ∀ t, cfg.okt t = true → OkType P t) (hcall : CallOK P S call) (hdis : distinct ops = true)
include hP hok hcall hdis

theorem light_fact {vals : Vals} {j : Nat} {o : Oper} {v : AV} (ho : ops[j]? = some o) (hlt : j < vals.length) (hp : isPure o.op = true) (hj : valOf vals j = none) (hw : WantF ops fr j vals o)
    (hrun : (opB cfg call o.op (evAt ops (depsD ops) fr vals j) []).run = some (v, .ext [] [])) : LightF ops fr P j (lset vals j (some v)) := by
  refine ⟨o, v, ho, by rw [valOf_set, if_pos rfl, if_pos hlt], fun L ρ a ha hs hx hd => ?_⟩
  have ha' := ha.less ops fr (More.new (v := v) hj)
  refine .inl ⟨hw L ρ a ha' hd, fun w => ?_⟩
  obtain ⟨u, hu, hr⟩ := pure_sound hP hok hp (ha'.ev ops fr hdis hs hx hd) w (Tree.all_of_run hrun)
  have : u = v := by
    have := congrArg Prod.fst hu
    exact this
  rw [← this]; exact hr

theorem pass_fact {vals : Vals} {j g : Nat} {o : Oper} {want : Bool} (ho : ops[j]? = some o) (hlt : j < vals.length) (hj : valOf vals j = none) (hg : o.guard = some (g, want)) (hdep : hasDep (depsD ops) j g = true) (hdst : (dstOf ops g).isSome = true)
    (hpass : (∃ s b, valOf vals g = some (.bool s b) ∧ (b == want) = false) ∨ valOf vals g = some (.tup [])) : LightF ops fr P j (lset vals j (some (.tup []))) := by
  refine ⟨o, .tup [], ho, by rw [valOf_set, if_pos rfl, if_pos hlt], fun L ρ a ha hs hx hd => .inr ⟨?_, rfl⟩⟩
  have ha' := ha.less ops fr (More.new (v := .tup []) hj)
  obtain ⟨h1, h2⟩ := wanted_AOK ops fr ha' hg (hd g hdep) hdst
  rcases hpass with ⟨s, b, h3, h4⟩ | h3
  · rw [h1 s b h3]; exact h4
  · exact h2 h3

theorem quiet_fact {vals : Vals} {base : Hp M} {j : Nat} {o : Oper} {v : AV} (ho : ops[j]? = some o) (hlt : j < vals.length) (hj : valOf vals j = none) (hw : WantF ops fr j vals o)
    (hsc : ∀ x v, valOf vals x = some v → v.sc (vis base) = true) (hfsc : ∀ t v, evFr fr t = some v → v.sc (vis base) = true)
    (hrun : (opB cfg call o.op (evAt ops (depsD ops) fr vals j) base).run = some (v, .ext [] [])) : QuietF ops fr P S j (lset vals j (some v)) base := by
  refine ⟨o, v, ho, by rw [valOf_set, if_pos rfl, if_pos hlt], fun w0 F0 L ρ a F w next Q ha hs hx hd hc hn => ?_⟩
  have ha' := ha.less ops fr (More.new (v := v) hj)
  refine ⟨hw L ρ a ha' hd, ?_⟩
  have hevsc : EvSc (evAt ops (depsD ops) fr vals j) base := by
    intro t u hu
    unfold evAt at hu
    split at hu
    · exact hfsc t u hu
    · split at hu
      · exact hsc _ u hu
      · split at hu
        · exact hfsc t u hu
        · cases hu
  refine opB_sound hP hok hcall hc (ha'.ev ops fr hdis hs hx hd) hevsc (Tree.all_mono (Tree.all_of_run hrun) ?_)
  rintro ⟨u, e⟩ hu
  cases hu
  exact ⟨rfl, fun ρ' F' w' hag hc' => hn ρ' F' w' hag hc'⟩

theorem rd_fact {vals : Vals} {base : Hp M} {j : Nat} {o : Oper} {v : AV} (ho : ops[j]? = some o) (hlt : j < vals.length) (hj : valOf vals j = none) (hw : WantF ops fr j vals o)
    (hsc : ∀ x v, valOf vals x = some v → v.sc (vis base) = true) (hfsc : ∀ t v, evFr fr t = some v → v.sc (vis base) = true)
    (hrun : (opB cfg call o.op (evAt ops (depsD ops) fr vals j) base).run = some (v, .ext [] [])) : QF ops fr P S j (lset vals j (some v)) base (rdOf (evAt ops (depsD ops) fr vals j) base o.op) := by
  cases hr : rdOf (evAt ops (depsD ops) fr vals j) base o.op with
  | nothing =>
    exfalso
    have hs : ∀ l, seenAt base l ≠ .nothing := by
      intro l h
      unfold seenAt at h
      split at h <;> cases h
    unfold rdOf at hr
    split at hr
    · split at hr
      · exact hs _ hr
      · exact hs _ hr
      · cases hr
    · split at hr
      · exact hs _ hr
      · cases hr
    · cases hr
  | one l =>
    intro H' h1 h2
    exact quiet_fact ops fr hP hok hcall hdis ho hlt hj hw (fun x v hv => sc_mono _ _ h2 v (hsc x v hv)) (fun t v hv => sc_mono _ _ h2 v (hfsc t v hv)) (by rw [rdOf_run hr h1]; exact hrun)
  | all => exact quiet_fact ops fr hP hok hcall hdis ho hlt hj hw hsc hfsc hrun

/-- An operation whose operands are seen. -/
theorem quiet_fact' {vals : Vals} {base : Hp M} {j : Nat} {o : Oper} {v : AV} (ho : ops[j]? = some o) (hlt : j < vals.length) (hj : valOf vals j = none) (hw : WantF ops fr j vals o) {ev : Ev}
    (hev : ∀ t u, ev t = some u → evAt ops (depsD ops) fr vals j t = some u) (hsc : EvSc ev base)
    (hrun : (opB cfg call o.op ev base).run = some (v, .ext [] [])) : QuietF ops fr P S j (lset vals j (some v)) base := by
  refine ⟨o, v, ho, by rw [valOf_set, if_pos rfl, if_pos hlt], fun w0 F0 L ρ a F w next Q ha hs hx hd hc hn => ?_⟩
  have ha' := ha.less ops fr (More.new (v := v) hj)
  refine ⟨hw L ρ a ha' hd, ?_⟩
  have hrel := ha'.ev ops fr hdis hs hx hd
  refine opB_sound hP hok hcall hc (fun t u hu => hrel t u (hev t u hu)) hsc (Tree.all_mono (Tree.all_of_run hrun) ?_)
  rintro ⟨u, e⟩ hu
  cases hu
  exact ⟨rfl, fun ρ' F' w' hag hc' => hn ρ' F' w' hag hc'⟩

theorem closed_fact {vals : Vals} {j : Nat} {o : Oper} {v : AV} (ho : ops[j]? = some o) (hlt : j < vals.length) (hj : valOf vals j = none) (hw : WantF ops fr j vals o) (hcl : closedOp (evAt ops (depsD ops) fr vals j) o.op = true)
    (hrun : (opB cfg call o.op (evAt ops (depsD ops) fr vals j) []).run = some (v, .ext [] [])) : QuietF ops fr P S j (lset vals j (some v)) ([] : Hp M) := by
  refine quiet_fact' ops fr hP hok hcall hdis ho hlt hj hw (ev := bare (evAt ops (depsD ops) fr vals j)) (fun t u hu => (bare_some hu).1) (fun t u hu => ?_) ?_
  · refine sc_mono _ _ (fun l hl => ?_) u (bare_some hu).2
    cases hl
  · rw [← hrun]
    cases hop : o.op with
    | call c =>
      rw [hop] at hcl
      simp only [closedOp] at hcl
      split at hcl
      · rename_i f hf
        split at hcl
        · rename_i g l hg hl
          simp only [Bool.and_eq_true] at hcl
          have h1 := bare_operand hg hcl.1
          have h2 := bare_operands hl hcl.2
          simp only [opB, callB, hf, hg, hl, h1, h2]
        · cases hcl
      · cases hcl
    | _ => rw [hop] at hcl; cases hcl

theorem scan {Φ : Fr × Hs M → Prop} {base : Hs M} (hfsc : ∀ t v, evFr fr t = some v → v.sc (vis base.h) = true) : ∀ (n : Nat) (vals0 vals : Vals) (win : Win), Pend ops fr cfg P S vals0 vals base.h win →
    (drawOps cfg S.locs call ops (depsD ops) fr n vals base win).all Φ → ∃ vals' win', Pend ops fr cfg P S vals0 vals' base.h win' ∧ EndOK ops fr S cfg call Φ n vals' base win' ∧ More vals vals'
  | 0, vals0, vals, win, hp, h => by
    simp only [drawOps] at h
    split at h
    · rename_i hs
      exact ⟨vals, win, hp, .inl ⟨hs, h⟩, More.refl _⟩
    · exact h.elim
  | n + 1, vals0, vals, win, hp, h => by
    simp only [drawOps] at h
    split at h
    · exact h.elim
    · rename_i j hj
      split at h
      · exact h.elim
      · rename_i o ho
        rw [lget_eq] at ho
        split at h
        · rename_i hc
          simp only [Bool.and_eq_true, Option.isNone_iff_eq_none] at hc
          obtain ⟨hj0, hr0⟩ := hc
          have hlt : j < ops.length := (List.getElem?_eq_some_iff.1 ho).1
          have onward' : ∀ {a b : Vals} {c : Nat}, c ≤ n + 1 → More a b → (∃ vals' win', Pend ops fr cfg P S vals0 vals' base.h win' ∧ EndOK ops fr S cfg call Φ c vals' base win' ∧ More b vals') → ∃ vals' win', Pend ops fr cfg P S vals0 vals' base.h win' ∧ EndOK ops fr S cfg call Φ (n + 1) vals' base win' ∧ More a vals' :=
            fun hc hm ⟨v, w, h1, h2, h3⟩ => ⟨v, w, h1, h2.le ops fr hc, hm.trans h3⟩
          have onward := fun {a b : Vals} (hm : More a b) h => onward' (Nat.le_succ n) hm h
          -- the operation runs
          have go : ∀ vals, Pend ops fr cfg P S vals0 vals base.h win → valOf vals j = none → readyB vals o.after.toList = true → WantF ops fr j vals o →
              (if isPure o.op then lightStep cfg call ops (depsD ops) fr o j vals base.h fun vals' => drawOps cfg S.locs call ops (depsD ops) fr n vals' base win
                else loudStep cfg S.locs call ops (depsD ops) fr o j vals base win fun vals' base' win' => drawOps cfg S.locs call ops (depsD ops) fr n vals' base' win').all Φ →
              ∃ vals' win', Pend ops fr cfg P S vals0 vals' base.h win' ∧ EndOK ops fr S cfg call Φ (n + 1) vals' base win' ∧ More vals vals' := by
            intro vals hp hj hr hw h
            have hltv : j < vals.length := by rw [hp.len]; exact hlt
            split at h
            · rename_i hpure
              unfold lightStep at h
              simp only [scq2_eq, escq_eq] at h
              rcases bindA_all h with ⟨⟨v, e⟩, hrun, h1⟩ | h1
              · simp only at h1
                split at h1
                · rename_i s
                  split at h1
                  · rename_i hs
                    simp only [Bool.and_eq_true] at hs
                    exact onward (More.new hj) (scan hfsc n vals0 _ win (hp.step ops fr ho hj hr hs.1 (isAlloc_pure hpure) (fun _ h => h) (.inl (light_fact ops fr hP hok hcall hdis ho hltv hpure hj hw hrun))) h1)
                  · exact h1.elim
                · exact h1.elim
              · obtain ⟨⟨v, e⟩, h2⟩ := Tree.all_exists h1
                simp only at h2
                split at h2
                · simp at h2; exact h2.elim
                · exact h2.elim
            · have loud : (loudAt cfg S.locs call ops (depsD ops) fr o j vals base win fun vals' base' win' => drawOps cfg S.locs call ops (depsD ops) fr n vals' base' win').all Φ → noLight vals ops 0 = true →
                  ∃ vals' win', Pend ops fr cfg P S vals0 vals' base.h win' ∧ EndOK ops fr S cfg call Φ (n + 1) vals' base win' ∧ More vals vals' := by
                intro h hnl
                unfold loudAt at h
                simp only [scq2_eq, escq_eq] at h
                rcases bindA_all h with ⟨⟨v, e⟩, hrun, h1⟩ | h1
                · simp only at h1
                  split at h1
                  · split at h1
                    · rename_i hs
                      simp only [Bool.and_eq_true] at hs
                      refine onward (More.new hj) (scan hfsc n vals0 _ _ (hp.step ops fr ho hj hr hs.1 (isAlloc_loud hrun) (fun _ h => List.mem_cons_of_mem _ h)
                        (.inr ⟨_, List.mem_cons_self, ?_, ?_⟩)) h1)
                      · exact rdOf_some
                      · exact rd_fact ops fr hP hok hcall hdis ho hltv hj hw hp.sc hfsc hrun
                    · exact h1.elim
                  · split at h1
                    · rename_i hs
                      simp only [Bool.and_eq_true, app_h] at hs
                      refine ⟨vals, win, hp, .inr ⟨j, o, n, Nat.lt_succ_self n, ho, hj, hr, hw, hnl, hs.1.1.2, Tree.all_mono (Tree.all_of_run hrun) ?_⟩, More.refl _⟩
                      rintro x rfl
                      exact ⟨hs.1.2, hs.2, _, h1, rfl, hs.1.1.1⟩
                    · exact h1.elim
                · obtain ⟨⟨v, e⟩, h2⟩ := Tree.all_exists h1
                  have hfacts : allHang cfg (depsD ops) vals j ops 0 = true := by
                    simp only at h2
                    split at h2
                    · simp at h2; exact h2.elim
                    · split at h2
                      · rename_i hs
                        simp only [Bool.and_eq_true] at hs
                        exact hs.1.1.2
                      · exact h2.elim
                  refine ⟨vals, win, hp, .inr ⟨j, o, n, Nat.lt_succ_self n, ho, hj, hr, hw, hnl, hfacts, Tree.all_mono h1 ?_⟩, More.refl _⟩
                  rintro ⟨v', e'⟩ h3
                  simp only at h3
                  split at h3
                  · simp at h3; exact h3.elim
                  · split at h3
                    · rename_i hs
                      simp only [Bool.and_eq_true, app_h] at hs
                      exact ⟨hs.1.2, hs.2, _, h3, rfl, hs.1.1.1⟩
                    · exact h3.elim
              unfold loudStep at h
              simp only [scq2_eq, escq_eq] at h
              split at h
              · rename_i hnl
                split at h
                · rename_i hcl
                  rcases bindA_all h with ⟨⟨v, e⟩, hrun, h1⟩ | h1
                  · simp only at h1
                    split at h1
                    · split at h1
                      · rename_i hs
                        simp only [Bool.and_eq_true] at hs
                        have hvs : v.sc (vis base.h) = true := sc_mono _ _ (fun l hl => by cases hl) v hs.1
                        refine onward (More.new hj) (scan hfsc n vals0 _ _ (hp.step ops fr ho hj hr hvs (isAlloc_loud hrun) (fun _ h => List.mem_cons_of_mem _ h)
                          (.inr ⟨.nothing, List.mem_cons_self, (fun l e => by cases e), ⟨?_, v, by rw [valOf_set, if_pos rfl, if_pos hltv], hs.1⟩⟩)) h1)
                        exact closed_fact ops fr hP hok hcall hdis ho hltv hj hw hcl hrun
                      · exact h1.elim
                    · exact loud h1 hnl
                  · obtain ⟨⟨v, e⟩, h2⟩ := Tree.all_exists h1
                    simp only at h2
                    split at h2
                    · simp at h2; exact h2.elim
                    · exact loud h2 hnl
                · exact loud h hnl
              · exact h.elim
          have pass : ∀ vals, Pend ops fr cfg P S vals0 vals base.h win → valOf vals j = none → readyB vals o.after.toList = true → LightF ops fr P j (lset vals j (some (.tup []))) → isAlloc cfg o = false →
              (drawOps cfg S.locs call ops (depsD ops) fr n (lset vals j (some (.tup []))) base win).all Φ →
              ∃ vals' win', Pend ops fr cfg P S vals0 vals' base.h win' ∧ EndOK ops fr S cfg call Φ (n + 1) vals' base win' ∧ More vals vals' := by
            intro vals hp hj hr hl hna h
            exact onward (More.new hj) (scan hfsc n vals0 _ win (hp.step ops fr ho hj hr rfl hna (fun _ h => h) (.inl hl)) h)
          split at h
          · rename_i hg
            exact go vals hp hj0 hr0 (fun L ρ a _ _ => by simp [Region.wanted, hg]) h
          · rename_i g want hg
            have hltv : j < vals.length := by rw [hp.len]; exact hlt
            have want_of : ∀ vals, hasDep (depsD ops) j g = true → (dstOf ops g).isSome = true → (∃ s, valOf vals g = some (.bool s want)) → WantF ops fr j vals o := by
              intro vals hdep hdst hb L ρ a ha hd
              obtain ⟨s, hb⟩ := hb
              rw [(wanted_AOK ops fr ha hg (hd g hdep) hdst).1 s want hb]; simp
            split at h
            · rename_i hc1 hway
              simp only [Bool.and_eq_true] at hc1
              refine go vals hp hj0 hr0 (want_of vals hc1.1 hc1.2 ?_) h
              unfold wayOf at hway
              split at hway
              · rename_i b hb
                rw [hb]
                cases b <;> cases want <;> first | exact ⟨_, rfl⟩ | simp at hway
              · cases hway
              · cases hway
              · cases hway
            · rename_i hc1 hway
              simp only [Bool.and_eq_true] at hc1
              refine pass vals hp hj0 hr0 (pass_fact ops fr hP hok hcall hdis ho hltv hj0 hg hc1.1 hc1.2 ?_) (isAlloc_guard hg) h
              unfold wayOf at hway
              split at hway
              · rename_i b hb
                refine .inl ⟨_, b, hb, ?_⟩
                cases b <;> cases want <;> first | rfl | simp at hway
              · cases hway
              · rename_i hb; exact .inr hb
              · cases hway
            · rename_i b hc1 hway
              simp only [Bool.and_eq_true] at hc1
              have hb : valOf vals g = some (.bool true b) := by
                unfold wayOf at hway
                split at hway
                · split at hway <;> cases hway
                · rename_i b' hb; simp only [Way.part.injEq] at hway; subst hway; exact hb
                · cases hway
                · cases hway
              have hgj : g ≠ j := by intro e; subst e; rw [hj0] at hb; cases hb
              have keep : ∀ v, valOf (lset vals g (some v)) j = none := fun v => by rw [valOf_set, if_neg (fun e => hgj e.symm)]; exact hj0
              have keepR : ∀ v, readyB (lset vals g (some v)) o.after.toList = true := fun v => readyB_of fun e he hbd => by
                obtain ⟨u, hu⟩ := readyB_spec hr0 e he hbd
                rw [valOf_set]
                by_cases e1 : e.on = g
                · rw [if_pos e1, if_pos (valOf_lt hb)]; exact ⟨_, rfl⟩
                · rw [if_neg e1]; exact ⟨u, hu⟩
              have hgv : ∀ v, valOf (lset vals g (some v)) g = some v := fun v => by rw [valOf_set, if_pos rfl, if_pos (valOf_lt hb)]
              have hltv' : ∀ v, j < (lset vals g (some v)).length := fun v => by rw [lset_eq, List.length_set]; exact hltv
              obtain ⟨h1, h2⟩ := h
              cases b with
              | true =>
                have h1 := h1 rfl
                have hp' := hp.retell ops fr hb (v := .bool false true) (fun ρ => rfl) (fun V => rfl)
                have hmr := More.retell hb (v := .bool false true) (fun ρ => rfl) (fun V => rfl)
                cases want with
                | true => exact onward' (Nat.le_refl _) hmr (go _ hp' (keep _) (keepR _) (want_of _ hc1.1 hc1.2 ⟨_, hgv _⟩) h1)
                | false => exact onward' (Nat.le_refl _) hmr (pass _ hp' (keep _) (keepR _) (pass_fact ops fr hP hok hcall hdis ho (hltv' _) (keep _) hg hc1.1 hc1.2 (.inl ⟨_, _, hgv _, rfl⟩)) (isAlloc_guard hg) h1)
              | false =>
                have h2 := h2 rfl
                have hp' := hp.retell ops fr hb (v := .bool false false) (fun ρ => rfl) (fun V => rfl)
                have hmr := More.retell hb (v := .bool false false) (fun ρ => rfl) (fun V => rfl)
                cases want with
                | true => exact onward' (Nat.le_refl _) hmr (pass _ hp' (keep _) (keepR _) (pass_fact ops fr hP hok hcall hdis ho (hltv' _) (keep _) hg hc1.1 hc1.2 (.inl ⟨_, _, hgv _, rfl⟩)) (isAlloc_guard hg) h2)
                | false => exact onward' (Nat.le_refl _) hmr (go _ hp' (keep _) (keepR _) (want_of _ hc1.1 hc1.2 ⟨_, hgv _⟩) h2)
            · exact h.elim
        · exact h.elim

end

section
/-- How many are left. -/
def left (L : Array Bool) : Nat := ((List.range ops.length).filter fun i => !L.getD i false).length

theorem left_set {L : Array Bool} (hL : L.size = ops.length) {x : Nat} (hx : x < ops.length) (hn : ¬ lst L x) : left ops (L.setIfInBounds x true) + 1 = left ops L := by
  unfold left
  have key : ∀ (l : List Nat), l.Nodup → x ∈ l → ((l.filter fun i => !(L.setIfInBounds x true).getD i false).length + 1 = (l.filter fun i => !L.getD i false).length) := by
    intro l
    induction l with
    | nil => intro _ h; simp at h
    | cons b l ih =>
      intro hnd hmem
      have hnd' := (List.nodup_cons.1 hnd)
      by_cases e : x = b
      · subst e
        have h1 : (L.setIfInBounds x true).getD x false = true := (lst_set (L := L) (by omega) x).2 (.inl rfl)
        have h2 : L.getD x false = false := by unfold lst at hn; simpa using hn
        have h3 : (l.filter fun i => !(L.setIfInBounds x true).getD i false) = l.filter fun i => !L.getD i false := by
          apply List.filter_congr
          intro i hi
          have : x ≠ i := by intro e; subst e; exact hnd'.1 hi
          rw [Array.getD_eq_getD_getElem?, Array.getElem?_setIfInBounds_ne this, Array.getD_eq_getD_getElem?]
        rw [List.filter_cons, List.filter_cons, h1, h2, h3]
        simp
      · have hm : x ∈ l := by
          rcases List.mem_cons.1 hmem with h | h
          · exact absurd h e
          · exact h
        have ih := ih hnd'.2 hm
        have h1 : (L.setIfInBounds x true).getD b false = L.getD b false := by
          rw [Array.getD_eq_getD_getElem?, Array.getElem?_setIfInBounds_ne e, Array.getD_eq_getD_getElem?]
        rw [List.filter_cons, List.filter_cons, h1]
        split
        · simp only [List.length_cons]; omega
        · exact ih
  exact key _ List.nodup_range (by simpa using hx)

theorem evFr_end : ∀ (l : List Oper) (vs : Vals) (fr : Fr) (t : Tmp) (u : AV), evFr (endFr fr l vs) t = some u →
    (∃ (m : Nat) (o : Oper), l[m]? = some o ∧ o.dst = some t ∧ valOf vs m = some u) ∨ (evFr fr t = some u ∧ (allSome vs = true → l.length = vs.length → ∀ (m : Nat) (o : Oper), l[m]? = some o → o.dst ≠ some t))
  | [], vs, fr, t, u, h => by
    have : endFr fr [] vs = fr := by cases vs <;> rfl
    rw [this] at h
    exact .inr ⟨h, fun _ _ m o hm => by simp at hm⟩
  | o :: l, [], fr, t, u, h => .inr ⟨h, fun _ hl => by simp at hl⟩
  | o :: l, none :: vs, fr, t, u, h => .inr ⟨h, fun hs => by simp [allSome] at hs⟩
  | o :: l, some v :: vs, fr, t, u, h => by
    simp only [endFr] at h
    rcases evFr_end l vs (putFr fr o.dst v) t u h with ⟨m, o', h1, h2, h3⟩ | ⟨h1, h2⟩
    · exact .inl ⟨m + 1, o', by simpa using h1, h2, by rw [valOf_eq] at h3 ⊢; simpa using h3⟩
    · cases hd : o.dst with
      | none =>
        rw [hd] at h1
        refine .inr ⟨h1, fun hs hl m o' hm => ?_⟩
        cases m with
        | zero => simp at hm; subst hm; rw [hd]; simp
        | succ m => exact h2 (by simpa [allSome] using hs) (by simpa using hl) m o' (by simpa using hm)
      | some d =>
        rw [hd] at h1
        simp only [putFr, evFr_set] at h1
        split at h1
        · rename_i e
          subst e
          split at h1
          · simp only [Option.some.injEq] at h1
            subst h1
            exact .inl ⟨0, o, rfl, hd, by rw [valOf_eq]; rfl⟩
          · cases h1
        · rename_i e
          refine .inr ⟨h1, fun hs hl m o' hm => ?_⟩
          cases m with
          | zero => simp at hm; subst hm; rw [hd]; intro e'; simp at e'; exact e e'.symm
          | succ m => exact h2 (by simpa [allSome] using hs) (by simpa using hl) m o' (by simpa using hm)

theorem endFr_len : ∀ (l : List Oper) (vs : Vals) (fr : Fr), (endFr fr l vs).n = fr.n
  | [], vs, fr => by cases vs <;> rfl
  | o :: l, [], fr => rfl
  | o :: l, none :: vs, fr => rfl
  | o :: l, some v :: vs, fr => by
    simp only [endFr]
    rw [endFr_len l vs]
    cases o.dst <;> rfl

theorem freeOf_spec {D : List Nat} {i : Nat} {oi : Oper} : ∀ (l : List Oper) (k : Nat), freeOf ops D i oi l k = true → ∀ (m : Nat) (oj : Oper), l[m]? = some oj →
    i = k + m ∨ hasDep D i (k + m) = true ∨ (∃ e ∈ oj.after, Region.binds .any e = true ∧ e.on = i) ∨ oi.apart ops.toArray oj = true
  | [], k, _, m, oj, hm => by simp at hm
  | o :: l, k, h, m, oj, hm => by
    simp only [freeOf, Bool.and_eq_true, Bool.or_eq_true] at h
    cases m with
    | zero =>
      simp at hm; subst hm
      rcases h.1 with ((h1 | h1) | h1) | h1
      · exact .inl (Nat.eq_of_beq_eq_true h1)
      · exact .inr (.inl h1)
      · obtain ⟨e, he, hb⟩ := List.any_eq_true.1 h1
        simp only [Bool.and_eq_true] at hb
        exact .inr (.inr (.inl ⟨e, Array.mem_toList_iff.1 he, hb.1, Nat.eq_of_beq_eq_true hb.2⟩))
      · exact .inr (.inr (.inr h1))
    | succ m =>
      have := freeOf_spec l (k + 1) h.2 m oj (by simpa using hm)
      rw [show k + 1 + m = k + (m + 1) by omega] at this
      exact this

theorem freeAll_spec {D : List Nat} : ∀ (l : List Oper) (k : Nat), freeAll ops D l k = true → ∀ (m : Nat) (o : Oper), l[m]? = some o → (∀ cs b, o.op ≠ .select cs b) ∧ freeOf ops D (k + m) o ops 0 = true
  | [], k, _, m, o, hm => by simp at hm
  | o0 :: l, k, h, m, o, hm => by
    simp only [freeAll, Bool.and_eq_true] at h
    cases m with
    | zero =>
      simp at hm; subst hm
      refine ⟨fun cs b e => ?_, h.1.2⟩
      have := h.1.1
      rw [e] at this
      simp at this
    | succ m =>
      have := freeAll_spec l (k + 1) h.2 m o (by simpa using hm)
      rw [show k + 1 + m = k + (m + 1) by omega] at this
      exact this

theorem dstsIn_spec {n : Nat} : ∀ (l : List Oper), dstsIn n l = true → ∀ (m : Nat) (o : Oper) d, l[m]? = some o → o.dst = some d → d < n
  | [], _, m, o, d, hm, _ => by simp at hm
  | o0 :: l, h, m, o, d, hm, hd => by
    simp only [dstsIn, Bool.and_eq_true] at h
    cases m with
    | zero =>
      simp at hm; subst hm
      have h1 := h.1
      rw [hd] at h1
      exact of_eq_true (by rw [← Nat.blt_eq]; simpa using h1)
    | succ m => exact dstsIn_spec l h.2 m o d (by simpa using hm) hd

/-- A block that is there takes a name. -/
theorem Con.adopt {w0 : World} {F0 : Nat → Prop} {H : Hp M} {ρ : Nat → Nat} {F : Nat → Nat → Prop} {w : World} (h : Con S w0 F0 H ρ F w) {o : AO M} {b : Nat} (hs : o.Sc S (vis (H ++ [o])))
    (hr : o.rep S (fun l => if l = H.length then b else ρ l) b (fun x => x = b) w) (hb : b < w.heap.size) (hfree : ∀ l, ¬ F l b) (hown : w0.heap.size ≤ b) :
    Agree H (H ++ [o]) ρ (fun l => if l = H.length then b else ρ l) ∧
    Con S w0 F0 (H ++ [o]) (fun l => if l = H.length then b else ρ l) (fun l => if l = H.length then (fun x => x = b) else F l) w := by
  have hag : ∀ l, vis H l = true → (fun l => if l = H.length then b else ρ l) l = ρ l := fun l hl => if_neg (Nat.ne_of_lt (vis_lt hl))
  have hvis : ∀ l, vis H l = true → vis (H ++ [o]) l = true := fun l hl => vis_append _ hl
  refine ⟨⟨hag, hvis⟩, ⟨fun l o' hl => ?_, fun l o' hl => ?_, fun l hl x => ?_, fun l l' x h1 h2 => ?_, fun l x hx => ?_, fun l x hx => ?_, h.old, h.size, h.os, h.tape, h.output⟩⟩
  · by_cases e : l = H.length
    · subst e
      simp at hl
      subst hl
      simpa using hr
    · have hlt : l < H.length := by
        have := (List.getElem?_eq_some_iff.1 hl).1
        simp at this; omega
      rw [List.getElem?_append_left hlt] at hl
      simp only [e, if_false]
      exact rep_agree (h.rep l o' hl) (h.scp l o' hl) hag
  · by_cases e : l = H.length
    · subst e
      simp at hl
      subst hl
      exact hs
    · have hlt : l < H.length := by
        have := (List.getElem?_eq_some_iff.1 hl).1
        simp at this; omega
      rw [List.getElem?_append_left hlt] at hl
      exact Sc_mono hvis (h.scp l o' hl)
  · have hlen : H.length + 1 ≤ l := by simpa using hl
    have e : l ≠ H.length := by omega
    simp only [e, if_false]
    exact h.out l (List.getElem?_eq_none (by omega)) x
  · by_cases e : l = H.length <;> by_cases e' : l' = H.length
    · omega
    · simp only [e, if_true, e', if_false] at h1 h2
      subst h1; exact absurd h2 (hfree l')
    · simp only [e, if_false, e', if_true] at h1 h2
      subst h2; exact absurd h1 (hfree l)
    · simp only [e, e', if_false] at h1 h2
      exact h.dis l l' x h1 h2
  · by_cases e : l = H.length
    · simp only [e, if_true] at hx; omega
    · simp only [e, if_false] at hx
      exact h.lt l x hx
  · by_cases e : l = H.length
    · simp only [e, if_true] at hx; exact .inr (by omega)
    · simp only [e, if_false] at hx
      exact h.own l x hx

/-- A new block that nobody names. -/
theorem Con.grow {w0 : World} {F0 : Nat → Prop} {H : Hp M} {ρ : Nat → Nat} {F : Nat → Nat → Prop} {w : World} (h : Con S w0 F0 H ρ F w) (ob : Obj) : Con S w0 F0 H ρ F (w.alloc ob) where
  rep := fun l o hl => rep_here (h.rep l o hl) fun x hx => heap_alloc_old w ob (h.lt l x hx)
  scp := h.scp
  out := h.out
  dis := h.dis
  lt := fun l x hx => by have := h.lt l x hx; simp; omega
  own := h.own
  old := fun x hx hn => by rw [heap_alloc_old w ob (Nat.lt_of_lt_of_le hx h.size)]; exact h.old x hx hn
  size := by have := h.size; simp; omega
  os := h.os
  tape := h.tape
  output := h.output

/-- New variables that came ahead of their turn. -/
structure Afloat (cfg : Cfg M) (w0 : World) (L : Array Bool) (vals : Vals) (a : Act) (w : World) (F : Nat → Nat → Prop) (fb : Nat → Nat) : Prop where
  at_ : ∀ (x : Nat) (o : Oper), lst L x → ops[x]? = some o → valOf vals x = none → ∃ t z, o.op = .alloc t ∧ zeroB cfg.P t = some z ∧
    w.heap[fb x]? = some (.cells (denL id z.cells).toArray t (0, 0)) ∧ (∀ l, ¬ F l (fb x)) ∧ w0.heap.size ≤ fb x ∧ ∀ d, o.dst = some d → a.tmps.getD d undef = .pointer (some ⟨fb x, 0, none⟩)
  inj : ∀ (x y : Nat) (o o' : Oper), lst L x → lst L y → ops[x]? = some o → ops[y]? = some o' → valOf vals x = none → valOf vals y = none → fb x = fb y → x = y

/-- Where an order stands. -/
structure Inv0 (S : Seal M) (cfg : Cfg M) (w0 : World) (F0 : Nat → Prop) (H : Hp M) (ρ0 : Nat → Nat) (L : Array Bool) (a : Act) (w : World)
    (vals0 vals : Vals) (base : Hs M) (win : Win) (ρ : Nat → Nat) (F : Nat → Nat → Prop) (fb : Nat → Nat) : Prop where
  pend : Pend ops fr cfg cfg.P S vals0 vals base.h win
  con : Con S w0 F0 base.h ρ F w
  aok : AOK ops fr L vals ρ a
  shut : ShutL ops L
  size : L.size = ops.length
  float : Afloat ops cfg w0 L vals a w F fb
  low : ∀ i v, valOf vals0 i = some v → lst L i
  fsc : ∀ t v, evFr fr t = some v → v.sc (vis base.h) = true
  agree : Agree H base.h ρ0 ρ
  guardless : ∀ (x : Nat) (o : Oper), lst L x → ops[x]? = some o → valOf vals x = none → isAlloc cfg o = true

/-- .. where what is next is not done. -/
def NextOK (S : Seal M) (cfg : Cfg M) (call : FuncId → List AV → Hp M → Tree (Ans M)) (Φ : Fr × Hs M → Prop) (L : Array Bool) (vals : Vals) (base : Hs M) (win : Win) : Prop :=
  (allSome vals = true ∧ Φ (endFr fr ops vals, base)) ∨
  ∃ k o n, ¬ lst L k ∧ ops[k]? = some o ∧ valOf vals k = none ∧ readyB vals o.after.toList = true ∧ WantF ops fr k vals o ∧ noLight vals ops 0 = true ∧ allHang cfg (depsD ops) vals k ops 0 = true ∧
    (opB cfg call o.op (evAt ops (depsD ops) fr vals k) base.h).all fun x => x.1.sc (vis (x.2.app base.h)) = true ∧ x.2.sc (vis (x.2.app base.h)) S.locs = true ∧
      ∃ win', (drawOps cfg S.locs call ops (depsD ops) fr n (lset vals k (some x.1)) (base.app x.2) win').all Φ ∧ win' = keepWin (depsD ops) k win ∧ okWin (depsD ops) k x.2.sets win = true

theorem AOK.put {L : Array Bool} {vals : Vals} {ρ ρ' : Nat → Nat} {a : Act} {base base' : Hp M} (h : AOK ops fr L vals ρ a) (hdis : distinct ops = true) (hL : L.size = ops.length) {x : Nat} {o : Oper} {u : Value} (ho : ops[x]? = some o) (hx : ¬ lst L x) (hv : ∀ v, valOf vals x = some v → u = v.den ρ')
    (hag : Agree base base' ρ ρ') (hsc : ∀ i v, lst L i → valOf vals i = some v → v.sc (vis base) = true) (hfsc : ∀ t v, evFr fr t = some v → v.sc (vis base) = true) :
    AOK ops fr (L.setIfInBounds x true) vals ρ' (a.put o.dst u) := by
  have hlt : x < L.size := by rw [hL]; exact (List.getElem?_eq_some_iff.1 ho).1
  have tmps : (a.put o.dst u).tmps = match o.dst with | some d => a.tmps.setIfInBounds d u | none => a.tmps := by cases o.dst <;> rfl
  refine ⟨fun i oi d u' hi hoi hd hu => ?_, fun t u' hu hno => ?_, ?_, h.all, ?_⟩
  · rcases (lst_set hlt i).1 hi with rfl | hi'
    · rw [ho] at hoi; cases hoi
      rw [tmps, hd, ← hv u' hu]
      exact getD_set_eq (Nat.lt_of_lt_of_le (h.all _ _ d ho hd) h.len)
    · have hne : o.dst ≠ some d := fun e => by
        have := distinct_spec ops hdis i x oi o d hoi ho hd e
        subst this
        exact hx hi'
      have hget : (a.put o.dst u).tmps.getD d undef = a.tmps.getD d undef := by
        rw [tmps]
        cases hd' : o.dst with
        | none => rfl
        | some d' => exact getD_set_ne (fun e => hne (by rw [hd', e]))
      rw [hget, h.done i oi d u' hi' hoi hd hu]
      exact (den_agree (vis base) ρ ρ' hag.same u' (hsc i u' hi' hu)).symm
  · have hne : o.dst ≠ some t := hno x o ((lst_set hlt x).2 (.inl rfl)) ho
    have hget : (a.put o.dst u).tmps.getD t undef = a.tmps.getD t undef := by
      rw [tmps]
      cases hd' : o.dst with
      | none => rfl
      | some d' => exact getD_set_ne (fun e => hne (by rw [hd', e]))
    rw [hget, h.old t u' hu fun i oi hi hoi => hno i oi ((lst_set hlt i).2 (.inr hi)) hoi]
    exact (den_agree (vis base) ρ ρ' hag.same u' (hfsc t u' hu)).symm
  · have := h.len
    cases o.dst <;> simpa [Act.put] using this
  · have := h.defers
    cases o.dst <;> exact this

theorem put_slot {a : Act} {x y : Nat} {o oy : Oper} {u : Value} {d : Tmp} (hdis : distinct ops = true) (ho : ops[x]? = some o) (hoy : ops[y]? = some oy) (hxy : x ≠ y) (hd : oy.dst = some d) : (a.put o.dst u).tmps.getD d undef = a.tmps.getD d undef := by
  cases hd' : o.dst with
  | none => rfl
  | some d' =>
    refine getD_set_ne fun e => ?_
    subst e
    exact hxy (distinct_spec ops hdis x y o oy d ho hoy hd' hd)

theorem AOK.tell {L : Array Bool} {vals vals' : Vals} {ρ : Nat → Nat} {a : Act} (h : AOK ops fr L vals ρ a) (hm : More vals vals') (hno : ∀ i, lst L i → valOf vals i = none → valOf vals' i = none) : AOK ops fr L vals' ρ a :=
  ⟨fun i o d v hi ho hd hv => by
    cases hu : valOf vals i with
    | none => rw [hno i hi hu] at hv; cases hv
    | some u =>
      obtain ⟨u', h1, h2, _⟩ := hm.val i u hu
      rw [hv] at h1
      simp only [Option.some.injEq] at h1
      rw [h1, h2]
      exact h.done i o d u hi ho hd hu, h.old, h.len, h.all, h.defers⟩

theorem Afloat.tell {w0 : World} {L : Array Bool} {vals vals' : Vals} {a : Act} {w : World} {F : Nat → Nat → Prop} {fb : Nat → Nat} (h : Afloat ops cfg w0 L vals a w F fb) (hm : More vals vals') : Afloat ops cfg w0 L vals' a w F fb := by
  have back : ∀ x, valOf vals' x = none → valOf vals x = none := by
    intro x hx
    cases hv : valOf vals x with
    | none => rfl
    | some v =>
      obtain ⟨u, hu, _⟩ := hm.val x v hv
      rw [hu] at hx; cases hx
  exact ⟨fun x o hl ho hv => h.at_ x o hl ho (back x hv), fun x y o o' h1 h2 h3 h4 h5 h6 h7 => h.inj x y o o' h1 h2 h3 h4 (back x h5) (back y h6) h7⟩

/-- The world went on; another operation is done. -/
theorem Afloat.step {w0 : World} {L : Array Bool} {vals : Vals} {a : Act} {w w' : World} {F F' : Nat → Nat → Prop} {fb : Nat → Nat} (h : Afloat ops cfg w0 L vals a w F fb) (hdis : distinct ops = true) (hL : L.size = ops.length) {x : Nat} {o : Oper} {u : Value} (ho : ops[x]? = some o) (hx : ¬ lst L x)
    (hv : ∃ v, valOf vals x = some v) (hheap : ∀ b, b < w.heap.size → (∀ l, ¬ F l b) → w'.heap[b]? = w.heap[b]? ∧ ∀ l, ¬ F' l b) : Afloat ops cfg w0 (L.setIfInBounds x true) vals (a.put o.dst u) w' F' fb := by
  have hlt : x < L.size := by rw [hL]; exact (List.getElem?_eq_some_iff.1 ho).1
  have back : ∀ y, lst (L.setIfInBounds x true) y → valOf vals y = none → lst L y ∧ y ≠ x := by
    intro y hy hn
    rcases (lst_set hlt y).1 hy with rfl | hy'
    · obtain ⟨v, hv⟩ := hv
      rw [hn] at hv; cases hv
    · exact ⟨hy', fun e => hx (e ▸ hy')⟩
  refine ⟨fun y oy hy hoy hn => ?_, fun y y' o1 o2 g1 g2 g3 g4 g5 g6 g7 => h.inj y y' o1 o2 (back y g1 g5).1 (back y' g2 g6).1 g3 g4 g5 g6 g7⟩
  obtain ⟨hy, hyx⟩ := back y hy hn
  obtain ⟨t, z, g1, g2, g3, g4, g5, g6⟩ := h.at_ y oy hy hoy hn
  have hb := (Array.getElem?_eq_some_iff.1 g3).1
  obtain ⟨g7, g8⟩ := hheap _ hb g4
  exact ⟨t, z, g1, g2, by rw [g7]; exact g3, g8, g5, fun d hd => by rw [put_slot ops hdis ho hoy (Ne.symm hyx) hd]; exact g6 d hd⟩

/-- Seen from the world itself, what has no owner is as it was. -/
theorem Con.unowned {H' : Hp M} {ρ' : Nat → Nat} {F F' : Nat → Nat → Prop} {w w' : World} (h : Con S w (foot F) H' ρ' F' w') : ∀ b, b < w.heap.size → (∀ l, ¬ F l b) → w'.heap[b]? = w.heap[b]? ∧ ∀ l, ¬ F' l b := by
  intro b hb hn
  have hf : ¬ foot F b := fun ⟨l, hl⟩ => hn l hl
  refine ⟨h.old b hb hf, fun l hl => ?_⟩
  rcases h.own l b hl with h1 | h1
  · exact hf h1
  · omega

/-- What was done ahead of operation k, and k. -/
def markV (D : List Nat) (k : Nat) (v : AV) (vals vals0 : Vals) : Vals := (List.range vals.length).map fun i => if i = k then some v else if hasDep D k i then valOf vals i else valOf vals0 i

theorem valOf_mark {D : List Nat} {k : Nat} {v : AV} {vals vals0 : Vals} (i : Nat) (hi : i < vals.length) : valOf (markV D k v vals vals0) i = if i = k then some v else if hasDep D k i then valOf vals i else valOf vals0 i := by
  rw [valOf_eq]
  unfold markV
  rw [List.getElem?_map, List.getElem?_range hi]
  simp only [Option.map_some, Option.join_some]

theorem valOf_mark_out {D : List Nat} {k : Nat} {v : AV} {vals vals0 : Vals} (i : Nat) (hi : vals.length ≤ i) : valOf (markV D k v vals vals0) i = none := by
  rw [valOf_eq]
  unfold markV
  rw [List.getElem?_map, List.getElem?_eq_none (by simpa using hi)]
  rfl

theorem okWin_spec {D : List Nat} {k : Nat} {sets : List (Nat × AO M)} : ∀ {w : Win}, okWin D k sets w = true → ∀ i r, (i, r) ∈ w → hasDep D k i = true ∨ (lasts sets r = true ∧ (hasDep D k i = false → (i, r) ∈ keepWin D k w))
  | [], _, i, r, h => by simp at h
  | (j, q) :: l, h, i, r, hm => by
    simp only [okWin, Bool.and_eq_true, Bool.or_eq_true] at h
    rcases List.mem_cons.1 hm with e | hm
    · cases e
      cases hd : hasDep D k j with
      | true => exact .inl rfl
      | false =>
        rcases h.1 with h1 | h1
        · rw [hd] at h1; cases h1
        · exact .inr ⟨h1, fun _ => by simp [keepWin, hd]⟩
    · rcases okWin_spec h.2 i r hm with h1 | ⟨h1, h2⟩
      · exact .inl h1
      · refine .inr ⟨h1, fun hd => ?_⟩
        simp only [keepWin]
        split
        · exact h2 hd
        · exact List.mem_cons_of_mem _ (h2 hd)

/-- A phase goes on behind an operation that is not quiet. -/
theorem Pend.carry {vals0 vals : Vals} {base : Hp M} {e : Eff M} {win : Win} (h : Pend ops fr cfg P S vals0 vals base win) {x : Nat} {o : Oper} {v : AV} (ho : ops[x]? = some o) (hk : valOf vals x = none)
    (hscp : ∀ (l : Nat) (o : AO M), base[l]? = some o → o.Sc S (vis base)) (hkeep : ∀ l, vis base l = true → vis (e.app base) l = true) (hvs : v.sc (vis (e.app base)) = true) (hwin : okWin (depsD ops) x e.sets win = true) :
    Pend ops fr cfg P S (markV (depsD ops) x v vals vals0) (lset vals x (some v)) (e.app base) (keepWin (depsD ops) x win) := by
  have hm := More.new (v := v) hk
  have hltv : x < vals.length := by rw [h.len]; exact (List.getElem?_eq_some_iff.1 ho).1
  have hval : ∀ i, i ≠ x → valOf (lset vals x (some v)) i = valOf vals i := fun i hi => by rw [valOf_set, if_neg hi]
  have hcase : ∀ y u, valOf (markV (depsD ops) x v vals vals0) y = none → valOf (lset vals x (some v)) y = some u → y ≠ x ∧ hasDep (depsD ops) x y = false ∧ valOf vals0 y = none ∧ valOf vals y = some u := by
    intro y u h0 hu
    have hlt : y < vals.length := by
      have := valOf_lt hu
      rw [hm.len] at this; exact this
    rw [valOf_mark y hlt] at h0
    by_cases hyx : y = x
    · rw [if_pos hyx] at h0; cases h0
    · rw [if_neg hyx] at h0
      rw [hval y hyx] at hu
      cases hd : hasDep (depsD ops) x y with
      | true => rw [hd] at h0; simp only [if_true] at h0; rw [hu] at h0; cases h0
      | false => rw [hd] at h0; exact ⟨hyx, rfl, by simpa using h0, hu⟩
  refine ⟨by rw [hm.len, h.len], fun y u hu => ?_, fun y u h0 hu => ?_, fun L' hL' hex => ?_, ⟨?_, fun i u hu => ?_⟩, fun y u o' h0 hu ho' => ?_⟩
  · rw [valOf_set] at hu
    split at hu
    · simp only [if_pos hltv, Option.some.injEq] at hu; subst hu; exact hvs
    · exact sc_mono _ _ hkeep u (h.sc y u hu)
  · obtain ⟨hyx, hd, h0', hu'⟩ := hcase y u h0 hu
    rcases h.fact y u h0' hu' with h5 | ⟨r, h5, h6, h7⟩
    · exact .inl (h5.more ops fr hm)
    · rcases okWin_spec hwin y r h5 with h8 | ⟨h8, h9⟩
      · rw [hd] at h8; cases h8
      · refine .inr ⟨r, h9 hd, fun l hl => ?_, ((h7.last ops fr (fun v' hv' => h.sc y v' hv') hscp hkeep h8 h6)).more ops fr hm⟩
        obtain ⟨ob, hob⟩ := h6 l hl
        obtain ⟨sets, news⟩ := e
        have hlen : ∀ (s : List (Nat × AO M)) (H : Hp M), (applySets s H).length = H.length := by
          intro s
          induction s with
          | nil => intro H; rfl
          | cons p r ih => intro H; obtain ⟨k, o⟩ := p; simp [applySets, ih, lset_eq]
        have happ : (Eff.ext sets news : Eff M).app base = applySets sets base ++ news := by
          cases sets <;> cases news <;> simp [Eff.app, applySets, lapp_eq]
        have hlt := (List.getElem?_eq_some_iff.1 hob).1
        exact ⟨_, List.getElem?_eq_getElem (by rw [happ, List.length_append, hlen]; omega)⟩
  · obtain ⟨y, u, hy, hyl⟩ := hex
    have hlt : y < vals.length := by
      have := valOf_lt hy
      rw [hm.len] at this; exact this
    have hyx : y ≠ x := by
      intro e; subst e
      exact hyl (hL' y v (by rw [valOf_mark y hlt, if_pos rfl]))
    rw [hval y hyx] at hy
    have hL0 : ∀ i u, valOf vals0 i = some u → lst L' i := by
      intro i u hu
      have hlti : i < vals.length := by
        have := valOf_lt hu
        rw [← h.more.len] at this; exact this
      by_cases e : i = x
      · subst e; exact hL' i v (by rw [valOf_mark i hlti, if_pos rfl])
      · cases hd : hasDep (depsD ops) x i with
        | true =>
          obtain ⟨u', hu', _⟩ := h.more.val i u hu
          exact hL' i u' (by rw [valOf_mark i hlti, if_neg e, hd]; exact hu')
        | false => exact hL' i u (by rw [valOf_mark i hlti, if_neg e, hd]; exact hu)
    obtain ⟨x', o', v', g1, g2, g3, g4⟩ := h.min L' hL0 ⟨y, u, hy, hyl⟩
    obtain ⟨v'', g5, _⟩ := hm.val x' v' g1
    exact ⟨x', o', v'', g5, g2, g3, g4⟩
  · simp [markV, hm.len]
  · have hlti : i < vals.length := by
      have := valOf_lt hu
      simpa [markV] using this
    rw [valOf_mark i hlti] at hu
    by_cases e : i = x
    · subst e
      rw [if_pos rfl] at hu
      cases hu
      exact ⟨_, by rw [valOf_set, if_pos rfl, if_pos hltv], fun _ => rfl, fun _ h => h⟩
    · rw [if_neg e] at hu
      cases hd : hasDep (depsD ops) x i with
      | true =>
        rw [hd] at hu
        exact ⟨u, by rw [hval i e]; exact hu, fun _ => rfl, fun _ h => h⟩
      | false =>
        rw [hd] at hu
        obtain ⟨u', g1, g2, g3⟩ := h.more.val i u hu
        exact ⟨u', by rw [hval i e]; exact g1, g2, g3⟩
  · obtain ⟨_, _, h0', hu'⟩ := hcase y u h0 hu
    exact h.noall y u o' h0' hu' ho'

section
variable (hok : ∀ t, cfg.okt t = true → OkType cfg.P t) (hcall : CallOK cfg.P S call) (hdis : distinct ops = true) (hfree : freeAll ops (depsD ops) ops 0 = true)
include hok hcall hdis hfree

/-- New variables that were ahead of their turn take their names. -/
theorem settle {w0 : World} {F0 : Nat → Prop} {H : Hp M} {ρ0 : Nat → Nat} {Φ : Fr × Hs M → Prop} {L : Array Bool} {a : Act} {w : World} {fb : Nat → Nat} : ∀ (b : Nat) (vals0 vals : Vals) (base : Hs M) (win : Win) (ρ : Nat → Nat) (F : Nat → Nat → Prop),
    Inv0 ops fr S cfg w0 F0 H ρ0 L a w vals0 vals base win ρ F fb → EndOK ops fr S cfg call Φ b vals base win →
    ∃ vals0' vals' base' win' ρ' F', Inv0 ops fr S cfg w0 F0 H ρ0 L a w vals0' vals' base' win' ρ' F' fb ∧ NextOK ops fr S cfg call Φ L vals' base' win' := by
  intro b
  induction b using Nat.strongRecOn with
  | ind b ih =>
    intro vals0 vals base win ρ F hinv hend
    rcases hend with hend | ⟨k, o, n, hn, ho, hk, hr, hw, hnl, hhang, htree⟩
    · exact ⟨vals0, vals, base, win, ρ, F, hinv, .inl hend⟩
    · rcases Classical.em (lst L k) with hlk | hlk
      · obtain ⟨t, z, h1, h2, h3, h4, h5, h6⟩ := hinv.float.at_ k o hlk ho hk
        rw [h1] at htree
        simp only [opB, h2, with1] at htree
        obtain ⟨hvs, hes, win', hrest, rfl, hokw⟩ := htree
        · have hlt : k < ops.length := (List.getElem?_eq_some_iff.1 ho).1
          have hltv : k < vals.length := by rw [hinv.pend.len]; exact hlt
          have happ : (base.app (.ext [] [.cells z.cells t])).h = base.h ++ [.cells z.cells t] := by rw [app_h, app_news]
          rw [app_news] at hvs
          have hzs := (zeroB_cells' h2 ρ).1
          have hid : ∀ ρ' : Nat → Nat, denL ρ' z.cells = denL id z.cells := fun ρ' => denL_agree (fun _ => false) id ρ' (fun l hl => by cases hl) z.cells (hzs _)
          obtain ⟨hag, hcon⟩ := hinv.con.adopt (o := .cells z.cells t) (b := fb k) (hzs _) ⟨fun x => Iff.rfl, _, (0, 0), h3, fun i v hv => by
              have : (denL (fun l => if l = base.h.length then fb k else ρ l) z.cells)[i]? = some v := by rw [denL_eq, List.getElem?_map]; exact hv
              rw [hid] at this
              simpa using this, fun i _ hh => by simp at hh⟩ ((Array.getElem?_eq_some_iff.1 h3).1) h4 h5
          have hm := More.new (v := .ptr base.h.length 0 0 0) hk
          have hp1 := hinv.pend.carry ops fr (e := .ext [] [.cells z.cells t]) (v := .ptr base.h.length 0 0 0) ho hk hinv.con.scp (by rw [app_news]; exact hag.keep) (by rw [app_news]; exact hvs) hokw
          rw [app_news, ← happ] at hp1
          rw [← happ] at hcon hag
          have hfsc' : ∀ t' u, evFr fr t' = some u → u.sc (vis (base.app (.ext [] [.cells z.cells t])).h) = true := fun t' u hu => sc_mono _ _ hag.keep u (hinv.fsc t' u hu)
          obtain ⟨vals', win'', hp', he', hmm⟩ := scan ops fr rfl hok hcall hdis hfsc' n _ _ _ hp1 hrest
          have haok1 : AOK ops fr L (lset vals k (some (.ptr base.h.length 0 0 0))) (fun l => if l = base.h.length then fb k else ρ l) a := by
            refine ⟨fun i oi d v hi hoi hd hv => ?_, fun t' v hv hno => ?_, hinv.aok.len, hinv.aok.all, hinv.aok.defers⟩
            · rw [valOf_set] at hv
              split at hv
              · rename_i e
                subst e
                simp only [if_pos hltv, Option.some.injEq] at hv
                subst hv
                rw [ho] at hoi; cases hoi
                rw [h6 d hd]
                simp [AV.den]
              · rw [hinv.aok.done i oi d v hi hoi hd hv]
                exact (den_agree (vis base.h) ρ _ hag.same v (hinv.pend.sc i v hv)).symm
            · rw [hinv.aok.old t' v hv hno]
              exact (den_agree (vis base.h) ρ _ hag.same v (hinv.fsc t' v hv)).symm
          have hno : ∀ i, lst L i → valOf (lset vals k (some (.ptr base.h.length 0 0 0))) i = none → valOf vals' i = none := by
            intro i hi hni
            cases hv : valOf vals' i with
            | none => rfl
            | some v =>
              exfalso
              have hik : i ≠ k := by intro e; subst e; rw [valOf_set, if_pos rfl, if_pos hltv] at hni; cases hni
              have hni' : valOf vals i = none := by rw [valOf_set, if_neg hik] at hni; exact hni
              have hlti : i < ops.length := by
                have := valOf_lt hv
                rw [hp'.len] at this; exact this
              have hoi := List.getElem?_eq_getElem hlti
              obtain ⟨ti, zi, g1, g2, _⟩ := hinv.float.at_ i _ hi hoi hni'
              have h0 : valOf (markV (depsD ops) k (.ptr base.h.length 0 0 0) vals vals0) i = none := by
                rw [valOf_mark i (by rw [hinv.pend.len]; exact hlti), if_neg hik, hni']
                have : (if hasDep (depsD ops) k i = true then none else valOf vals0 i) = valOf vals0 i ∨ (if hasDep (depsD ops) k i = true then (none : Option AV) else valOf vals0 i) = none := by
                  split
                  · exact .inr rfl
                  · exact .inl rfl
                rcases this with e | e
                rotate_left
                · exact e
                rw [e]
                cases h00 : valOf vals0 i with
                | none => rfl
                | some u =>
                  obtain ⟨u', hu', _⟩ := hinv.pend.more.val i u h00
                  rw [hni'] at hu'; cases hu'
              have hna := hp'.noall i v _ h0 hv hoi
              have hfl := freeAll_spec ops ops 0 hfree
              -- a new variable that floats has no guard
              have : isAlloc cfg ops[i] = true := hinv.guardless i _ hi hoi hni'
              rw [this] at hna; cases hna
          refine ih n hn _ vals' _ win'' _ _ ⟨hp', hcon, haok1.tell ops fr hmm hno, hinv.shut, hinv.size, ?_, fun i u hu => ?_, hfsc', hinv.agree.trans hag, ?_⟩ he'
          · refine (Afloat.tell ops (vals := lset vals k (some (.ptr base.h.length 0 0 0))) ⟨fun x ox hx hox hv => ?_, fun x y o1 o2 g1 g2 g3 g4 g5 g6 g7 => ?_⟩ hmm)
            · have hxk : x ≠ k := by intro e; subst e; rw [valOf_set, if_pos rfl, if_pos hltv] at hv; cases hv
              rw [valOf_set, if_neg hxk] at hv
              obtain ⟨t', z', g1, g2, g3, g4, g5, g6⟩ := hinv.float.at_ x ox hx hox hv
              refine ⟨t', z', g1, g2, g3, fun l hl => ?_, g5, g6⟩
              by_cases e : l = base.h.length
              · simp only [e, if_true] at hl
                exact hxk (hinv.float.inj x k ox o hx hlk hox ho hv hk hl)
              · simp only [e, if_false] at hl
                exact g4 l hl
            · have hxk : x ≠ k := by intro e; subst e; rw [valOf_set, if_pos rfl, if_pos hltv] at g5; cases g5
              have hyk : y ≠ k := by intro e; subst e; rw [valOf_set, if_pos rfl, if_pos hltv] at g6; cases g6
              rw [valOf_set, if_neg hxk] at g5
              rw [valOf_set, if_neg hyk] at g6
              exact hinv.float.inj x y o1 o2 g1 g2 g3 g4 g5 g6 g7
          · have hlti : i < vals.length := by
              have := valOf_lt hu
              simpa [markV] using this
            rw [valOf_mark i hlti] at hu
            by_cases e : i = k
            · subst e; exact hlk
            · rw [if_neg e] at hu
              cases hd : hasDep (depsD ops) k i with
              | true => exact hinv.shut k hlk i hd
              | false => rw [hd] at hu; exact hinv.low i u hu
          · intro x ox hx hox hv
            refine hinv.guardless x ox hx hox ?_
            cases hvx : valOf vals x with
            | none => rfl
            | some u =>
              obtain ⟨u1, hu1, _⟩ := hm.val x u hvx
              obtain ⟨u2, hu2, _⟩ := hmm.val x u1 hu1
              rw [hv] at hu2; cases hu2
      · exact ⟨vals0, vals, base, win, ρ, F, hinv, .inr ⟨k, o, n, hlk, ho, hk, hr, hw, hnl, hhang, htree⟩⟩

end
theorem shut_set {L : Array Bool} (h : ShutL ops L) {x : Nat} (hlt : x < L.size) (hd : ∀ i, hasDep (depsD ops) x i = true → lst L i) : ShutL ops (L.setIfInBounds x true) := by
  intro j hj i hi
  rw [lst_set hlt]
  rcases (lst_set hlt j).1 hj with rfl | hj'
  · exact .inr (hd i hi)
  · exact .inr (h j hj' i hi)


section
variable (hok : ∀ t, cfg.okt t = true → OkType cfg.P t) (hcall : CallOK cfg.P S call) (hdis : distinct ops = true) (hfree : freeAll ops (depsD ops) ops 0 = true)
include hok hcall hdis hfree

theorem drawn_end {w0 : World} {F0 : Nat → Prop} {H : Hp M} {ρ0 : Nat → Nat} {R : Act → World → Prop} {L : Array Bool} {a : Act} {w : World} {vals0 vals : Vals} {base : Hs M} {win : Win} {ρ : Nat → Nat} {F : Nat → Nat → Prop} {fb : Nat → Nat}
    (hinv : Inv0 ops fr S cfg w0 F0 H ρ0 L a w vals0 vals base win ρ F fb) (hfin : NextOK ops fr S cfg call (SeqLeaf S w0 F0 H ρ0 R) L vals base win) (hno : Region.ready .any ops.toArray L = []) : R a w := by
  have hpend : ∀ x v, valOf vals x = some v → lst L x := by
    intro x v hv
    rcases Classical.em (lst L x) with h | h
    · exact h
    · obtain ⟨x', o, v', h1, h2, h3, h4⟩ := hinv.pend.min L hinv.low ⟨x, v, hv, h⟩
      have : x' ∈ Region.ready .any ops.toArray L := (ready_iff ops hinv.size x').2 ⟨o, h3, h2, h4⟩
      rw [hno] at this
      cases this
  rcases hfin with ⟨hs, hΦ⟩ | ⟨k, o, n, hlk, ho, hk, hr, _⟩
  · refine hΦ ρ F w a hinv.agree hinv.con ⟨fun t u hu => ?_, fun t u hu => ?_, by rw [endFr_len]; exact hinv.aok.len, hinv.aok.defers⟩
    · rcases evFr_end ops vals fr t u hu with ⟨m, o, h1, h2, h3⟩ | ⟨h1, h2⟩
      · exact hinv.aok.done m o t u (hpend m u h3) h1 h2 h3
      · exact hinv.aok.old t u h1 fun i o _ ho => h2 hs hinv.pend.len.symm i o ho
    · rcases evFr_end ops vals fr t u hu with ⟨m, o, h1, h2, h3⟩ | ⟨h1, h2⟩
      · exact hinv.pend.sc m u h3
      · exact hinv.fsc t u h1
  · exfalso
    have : k ∈ Region.ready .any ops.toArray L := by
      refine (ready_iff ops hinv.size k).2 ⟨o, ho, hlk, fun e he hb => ?_⟩
      obtain ⟨v, hv⟩ := readyB_spec hr e (Array.mem_toList_iff.2 he) hb
      exact hpend e.on v hv
    rw [hno] at this
    cases this

theorem drawn_main {w0 : World} {F0 : Nat → Prop} {H : Hp M} {ρ0 : Nat → Nat} {R : Act → World → Prop} : ∀ (fuel : Nat) (L : Array Bool) (a : Act) (w : World) (vals0 vals : Vals) (base : Hs M) (win : Win) (ρ : Nat → Nat) (F : Nat → Nat → Prop) (fb : Nat → Nat),
    left ops L ≤ fuel → Inv0 ops fr S cfg w0 F0 H ρ0 L a w vals0 vals base win ρ F fb → NextOK ops fr S cfg call (SeqLeaf S w0 F0 H ρ0 R) L vals base win →
    wpAny cfg.P .any ops.toArray (fun e a w => match e with | .normal => R a w | _ => False) fuel L a w := by
  intro fuel
  induction fuel with
  | zero =>
    intro L a w vals0 vals base win ρ F fb hleft hinv hfin
    have hall : ∀ i, i < ops.length → lst L i := by
      intro i hi
      rcases Classical.em (lst L i) with h | h
      · exact h
      · have := left_set ops hinv.size hi h
        omega
    have hno : Region.ready .any ops.toArray L = [] := by
      rw [List.eq_nil_iff_forall_not_mem]
      intro x hx
      obtain ⟨o, ho, h1, _⟩ := (ready_iff ops hinv.size x).1 hx
      exact h1 (hall x (List.getElem?_eq_some_iff.1 ho).1)
    exact ⟨hno, drawn_end ops fr hok hcall hdis hfree hinv hfin hno⟩
  | succ fuel ih =>
    intro L a w vals0 vals base win ρ F fb hleft hinv hfin
    have hhere := hinv.con.here
    -- one more of the phase
    have more : ∀ (x : Nat) (o : Oper) (v : AV) (ρ' : Nat → Nat) (F' : Nat → Nat → Prop) (w' : World), ops[x]? = some o → ¬ lst L x → (∀ e ∈ o.after, Region.binds .any e = true → lst L e.on) → valOf vals x = some v →
        Agree base.h base.h ρ ρ' → Con S w (foot F) base.h ρ' F' w' →
        wpAny cfg.P .any ops.toArray (fun e a w => match e with | .normal => R a w | _ => False) fuel (L.setIfInBounds x true) (a.put o.dst (v.den ρ')) w' := by
      intro x o v ρ' F' w' ho hx hr hv hag hcon
      have hlt : x < ops.length := (List.getElem?_eq_some_iff.1 ho).1
      have hltL : x < L.size := by rw [hinv.size]; exact hlt
      refine ih _ _ _ vals0 vals base win ρ' F' fb (by have := left_set ops hinv.size hlt hx; omega)
        ⟨hinv.pend, hinv.con.far S hcon, ?_, ?_, by simp [hinv.size], hinv.float.step ops hdis hinv.size ho hx ⟨v, hv⟩ hcon.unowned, fun i u hu => (lst_set hltL i).2 (.inr (hinv.low i u hu)), hinv.fsc, hinv.agree.trans hag, fun y oy hy hoy hn => ?_⟩ ?_
      · exact hinv.aok.put ops fr hdis hinv.size ho hx (fun v' hv' => by rw [hv] at hv'; cases hv'; rfl) hag (fun i u _ hu => hinv.pend.sc i u hu) hinv.fsc
      · exact shut_set ops hinv.shut hltL (ready_deps ops hinv.shut ho hr)
      · rcases (lst_set hltL y).1 hy with rfl | hy
        · rw [hv] at hn; cases hn
        · exact hinv.guardless y oy hy hoy hn
      · rcases hfin with h | ⟨k, ok, n, hlk, hko, hk, rest⟩
        · exact .inl h
        · refine .inr ⟨k, ok, n, fun h => ?_, hko, hk, rest⟩
          rcases (lst_set hltL k).1 h with rfl | h
          · rw [hv] at hk; cases hk
          · exact hlk h
    by_cases hA : ∃ x o, ops[x]? = some o ∧ ¬ lst L x ∧ (∀ e ∈ o.after, Region.binds .any e = true → lst L e.on) ∧ LightF ops fr cfg.P x vals
    · obtain ⟨x, o, ho, hx, hr, o', v, ho', hv, hy⟩ := hA
      rw [ho] at ho'; cases ho'
      have hdeps := ready_deps ops hinv.shut ho hr
      have hoA : ops.toArray[x]? = some o := by simpa using ho
      refine wpAny_first hoA (fun j oj cs b hj => (freeAll_spec ops ops 0 hfree j oj (by simpa using hj)).1 cs b) (fun c a w h => h.elim) fuel L a w (fun j oj hj hne hun hno => ?_) ((ready_iff ops hinv.size x).2 ⟨o, ho, hx, hr⟩)
        (hy L ρ a hinv.aok hinv.shut hx hdeps) (more x o v ρ F w ho hx hr hv (Agree.refl base.h ρ) hhere)
      have hfr := (freeAll_spec ops ops 0 hfree x o ho).2
      rw [Nat.zero_add] at hfr
      have hj' : ops[j]? = some oj := by simpa using hj
      have := freeOf_spec ops ops 0 hfr j oj hj'
      rw [Nat.zero_add] at this
      rcases this with h1 | h1 | ⟨e, he, hb, h1⟩ | h1
      · exact absurd h1.symm hne
      · exfalso
        have := hdeps j h1
        have hltj : j < L.size := by rw [hinv.size]; exact (List.getElem?_eq_some_iff.1 hj').1
        unfold lst at this
        simp only [Array.getD_eq_getD_getElem?, Array.getElem?_eq_getElem hltj, Option.getD_some] at this hun
        rw [this] at hun; cases hun
      · exact absurd h1 (hno e he hb)
      · exact h1
    · refine ⟨fun hno => drawn_end ops fr hok hcall hdis hfree hinv hfin hno, fun x hx => ?_⟩
      obtain ⟨o, ho, hxl, hr⟩ := (ready_iff ops hinv.size x).1 hx
      have hdeps := ready_deps ops hinv.shut ho hr
      have hoA : ops.toArray[x]? = some o := by simpa using ho
      have hlt : x < ops.length := (List.getElem?_eq_some_iff.1 ho).1
      have hltL : x < L.size := by rw [hinv.size]; exact hlt
      have hquiet : ∀ x' o' v', ops[x']? = some o' → ¬ lst L x' → (∀ e ∈ o'.after, Region.binds .any e = true → lst L e.on) → valOf vals x' = some v' → QuietF ops fr cfg.P S x' vals base.h := by
        intro x' o' v' h1 h2 h3 h4
        have h0 : valOf vals0 x' = none := by
          cases h : valOf vals0 x' with
          | none => rfl
          | some u => exact absurd (hinv.low x' u h) h2
        rcases hinv.pend.fact x' v' h0 h4 with h5 | ⟨_, _, _, h5⟩
        · exact absurd ⟨x', o', h1, h2, h3, h5⟩ hA
        · exact h5.quiet ops fr
      cases hv : valOf vals x with
      | some v =>
        obtain ⟨o', v', ho', hv', hq⟩ := hquiet x o v ho hxl hr hv
        rw [ho] at ho'; cases ho'
        rw [hv] at hv'; cases hv'
        unfold wpOp
        rw [hoA]
        simp only
        have := hq w (foot F) L ρ a F w (wpAny cfg.P .any ops.toArray (fun e a w => match e with | .normal => R a w | _ => False) fuel (L.setIfInBounds x true)) (fun e a w => match e with | .normal => R a w | _ => False)
          hinv.aok hinv.shut hxl hdeps hhere (fun ρ' F' w' hag hcon => more x o v ρ' F' w' ho hxl hr hv hag hcon)
        rw [if_pos this.1]
        exact .inl this.2
      | none =>
        cases hia : isAlloc cfg o with
        | true =>
          -- a new variable
          obtain ⟨t, z, h1, h2, h3⟩ := isAlloc_spec hia
          obtain ⟨_, i, zv, hi, hz, hzc⟩ := zeroB_cells' h3 id
          have hwant : Region.wanted o (yielded ops.toArray a.tmps) = true := by simp [Region.wanted, h2]
          unfold wpOp
          rw [hoA]
          simp only
          rw [if_pos hwant]
          left
          have hrun : (execOp a.eval o).run cfg.P w = .ok (.value (.pointer (some ⟨w.heap.size, 0, none⟩))) (w.alloc (.cells (denL id z.cells).toArray t)) := by
            rw [← hzc]
            simp [execOp, h1, Instr.alloc, newVar, newRow, zeroValue, typeInfo, hi, hz]
          unfold Oper.wp
          rw [hrun]
          show wpAny _ _ _ _ _ _ (a.put o.dst _) _
          have hgrow := hinv.con.grow (.cells (denL id z.cells).toArray t)
          have hbk : ∀ y, lst (L.setIfInBounds x true) y → y = x ∨ (lst L y ∧ y ≠ x) := by
            intro y hy
            rcases (lst_set hltL y).1 hy with h | h
            · exact .inl h
            · exact .inr ⟨h, fun e => hxl (e ▸ h)⟩
          have hinv' : Inv0 ops fr S cfg w0 F0 H ρ0 (L.setIfInBounds x true) (a.put o.dst (.pointer (some ⟨w.heap.size, 0, none⟩))) (w.alloc (.cells (denL id z.cells).toArray t)) vals0 vals base win ρ F (fun y => if y = x then w.heap.size else fb y) := by
            refine ⟨hinv.pend, hgrow, ?_, ?_, by simp [hinv.size], ⟨fun y oy hy hoy hn => ?_, fun y y' o1 o2 g1 g2 g3 g4 g5 g6 g7 => ?_⟩, fun j u hu => (lst_set hltL j).2 (.inr (hinv.low j u hu)), hinv.fsc, hinv.agree, fun y oy hy hoy hn => ?_⟩
            · exact hinv.aok.put ops fr hdis hinv.size ho hxl (fun v' hv' => by rw [hv] at hv'; cases hv') (Agree.refl base.h ρ) (fun i u _ hu => hinv.pend.sc i u hu) hinv.fsc
            · exact shut_set ops hinv.shut hltL hdeps
            · rcases hbk y hy with rfl | ⟨hy, hyx⟩
              · rw [ho] at hoy; cases hoy
                refine ⟨t, z, h1, h3, by simp only [if_true]; exact heap_alloc_new w _, fun l hl => ?_, ?_, fun d hd => ?_⟩
                · simp only [if_true] at hl
                  have := hinv.con.lt l _ hl; omega
                · simp only [if_true]; exact hinv.con.size
                · simp only [if_true]
                  rw [hd]
                  exact getD_set_eq (Nat.lt_of_lt_of_le (hinv.aok.all _ _ d ho hd) hinv.aok.len)
              · obtain ⟨t', z', g1, g2, g3, g4, g5, g6⟩ := hinv.float.at_ y oy hy hoy hn
                refine ⟨t', z', g1, g2, ?_, ?_, ?_, fun d hd => ?_⟩
                · simp only [hyx, if_false]
                  rw [heap_alloc_old w _ (Array.getElem?_eq_some_iff.1 g3).1]; exact g3
                · simp only [hyx, if_false]; exact g4
                · simp only [hyx, if_false]; exact g5
                · simp only [hyx, if_false]
                  rw [put_slot ops hdis ho hoy (Ne.symm hyx) hd]; exact g6 d hd
            · have hb : ∀ y oy, lst L y → ops[y]? = some oy → valOf vals y = none → fb y < w.heap.size := by
                intro y oy hy hoy hn
                obtain ⟨_, _, _, _, g3, _⟩ := hinv.float.at_ y oy hy hoy hn
                exact (Array.getElem?_eq_some_iff.1 g3).1
              rcases hbk y g1 with e1 | ⟨l1, n1⟩ <;> rcases hbk y' g2 with e2 | ⟨l2, n2⟩
              · rw [e1, e2]
              · simp only [e1, if_true, n2, if_false] at g7
                have := hb y' o2 l2 g4 g6; omega
              · simp only [e2, if_true, n1, if_false] at g7
                have := hb y o1 l1 g3 g5; omega
              · simp only [n1, n2, if_false] at g7
                exact hinv.float.inj y y' o1 o2 l1 l2 g3 g4 g5 g6 g7
            · rcases hbk y hy with rfl | ⟨hy, _⟩
              · rw [ho] at hoy; cases hoy; exact hia
              · exact hinv.guardless y oy hy hoy hn
          have hend : ∃ b, EndOK ops fr S cfg call (SeqLeaf S w0 F0 H ρ0 R) b vals base win := by
            rcases hfin with h | ⟨k, ok, n, _, rest⟩
            · exact ⟨0, .inl h⟩
            · exact ⟨n + 1, .inr ⟨k, ok, n, Nat.lt_succ_self n, rest⟩⟩
          obtain ⟨b, hend⟩ := hend
          obtain ⟨vals0', vals', base', win', ρ', F', hinv2, hfin2⟩ := settle ops fr hok hcall hdis hfree b _ _ _ _ _ _ hinv' hend
          exact ih _ _ _ vals0' vals' base' win' ρ' F' _ (by have := left_set ops hinv.size hlt hxl; omega) hinv2 hfin2
        | false =>
          rcases hfin with ⟨hs, _⟩ | ⟨k, ok, n, hlk, hko, hk, hkr, hkw, hnl, hhang, htree⟩
          · obtain ⟨u, hu⟩ := allSome_spec hs x (by rw [hinv.pend.len]; exact hlt)
            rw [hv] at hu; cases hu
          · have hxk : x = k := by
              have h1 := allHang_spec ops 0 hhang x o ho (by rw [Nat.zero_add]; exact hv)
              rw [Nat.zero_add] at h1
              rcases h1 with h1 | h1 | h1
              · exact h1
              · exact absurd (hdeps k h1) hlk
              · rw [hia] at h1; cases h1
            subst hxk
            rw [ho] at hko; cases hko
            unfold wpOp
            rw [hoA]
            simp only
            rw [if_pos (hkw L ρ a hinv.aok hdeps)]
            have hevsc : EvSc (evAt ops (depsD ops) fr vals x) base.h := by
              intro t u hu
              unfold evAt at hu
              split at hu
              · exact hinv.fsc t u hu
              · split at hu
                · exact hinv.pend.sc _ u hu
                · split at hu
                  · exact hinv.fsc t u hu
                  · cases hu
            refine .inl (opB_sound rfl hok hcall hhere (hinv.aok.ev ops fr hdis hinv.shut hxl hdeps) hevsc (Tree.all_mono htree ?_))
            rintro ⟨v, e⟩ ⟨hvs, hes, win1, hrest, rfl, hokw⟩
            refine ⟨hes, fun ρ' F' w' hag hcon => ?_⟩
            have hfsc' : ∀ t u, evFr fr t = some u → u.sc (vis (base.app e).h) = true := fun t u hu => by rw [app_h]; exact sc_mono _ _ hag.keep u (hinv.fsc t u hu)
            have hltv : x < vals.length := by rw [hinv.pend.len]; exact hlt
            have hm := More.new (v := v) hv
            have hsc1 : ∀ y u, valOf (lset vals x (some v)) y = some u → u.sc (vis (base.app e).h) = true := by
              intro y u hu
              rw [app_h]
              rw [valOf_set] at hu
              split at hu
              · simp only [if_pos hltv, Option.some.injEq] at hu; subst hu; exact hvs
              · exact sc_mono _ _ hag.keep u (hinv.pend.sc y u hu)
            have hnx : ∀ i, lst L i → i ≠ x := fun i hi e => hxl (e ▸ hi)
            have haok : AOK ops fr L (lset vals x (some v)) ρ a := hinv.aok.tell ops fr hm fun i hi hn => by rw [valOf_set, if_neg (hnx i hi)]; exact hn
            have haok1 := haok.put ops fr hdis hinv.size ho hxl (u := v.den ρ') (fun v' hv' => by rw [valOf_set, if_pos rfl, if_pos hltv] at hv'; cases hv'; rfl) hag
              (fun i u hi hu => by
                rw [valOf_set, if_neg (hnx i hi)] at hu
                exact hinv.pend.sc i u hu) hinv.fsc
            have hfl1 : Afloat ops cfg w0 (L.setIfInBounds x true) (lset vals x (some v)) (a.put o.dst (v.den ρ')) w' F' fb :=
              (hinv.float.tell ops hm).step ops hdis hinv.size ho hxl ⟨v, by rw [valOf_set, if_pos rfl, if_pos hltv]⟩ hcon.unowned
            have hgl1 : ∀ (y : Nat) (oy : Oper), lst (L.setIfInBounds x true) y → ops[y]? = some oy → valOf (lset vals x (some v)) y = none → isAlloc cfg oy = true ∧ lst L y ∧ valOf vals y = none := by
              intro y oy hy hoy hn
              rcases (lst_set hltL y).1 hy with rfl | hy
              · rw [valOf_set, if_pos rfl, if_pos hltv] at hn; cases hn
              · rw [valOf_set, if_neg (hnx y hy)] at hn
                exact ⟨hinv.guardless y oy hy hoy hn, hy, hn⟩
            have finish : ∀ vals0' vals' win' b, Pend ops fr cfg cfg.P S vals0' vals' (base.app e).h win' → EndOK ops fr S cfg call (SeqLeaf S w0 F0 H ρ0 R) b vals' (base.app e) win' → More (lset vals x (some v)) vals' → (∀ i u, valOf vals0' i = some u → lst (L.setIfInBounds x true) i) →
                (∀ i, valOf (lset vals x (some v)) i = none → valOf vals0' i = none) →
                wpAny cfg.P .any ops.toArray (fun e a w => match e with | .normal => R a w | _ => False) fuel (L.setIfInBounds x true) (a.put o.dst (v.den ρ')) w' := by
              intro vals0' vals' win' b hp' he' hmore hlow h0
              have hno : ∀ i, lst (L.setIfInBounds x true) i → valOf (lset vals x (some v)) i = none → valOf vals' i = none := by
                intro i hi hn
                cases hvi : valOf vals' i with
                | none => rfl
                | some u =>
                  exfalso
                  have hlti : i < ops.length := by
                    have := valOf_lt hvi
                    rw [hp'.len] at this; exact this
                  have hoi := List.getElem?_eq_getElem hlti
                  have hna := hp'.noall i u _ (h0 i hn) hvi hoi
                  rw [(hgl1 i _ hi hoi hn).1] at hna; cases hna
              have hinv' : Inv0 ops fr S cfg w0 F0 H ρ0 (L.setIfInBounds x true) (a.put o.dst (v.den ρ')) w' vals0' vals' (base.app e) win' ρ' F' fb := by
                refine ⟨hp', by rw [app_h]; exact hinv.con.far S hcon, haok1.tell ops fr hmore hno, shut_set ops hinv.shut hltL hdeps, by simp [hinv.size], hfl1.tell ops hmore, hlow, hfsc', hinv.agree.trans (by rw [app_h]; exact hag), fun y oy hy hoy hn => ?_⟩
                refine (hgl1 y oy hy hoy ?_).1
                cases hvy : valOf (lset vals x (some v)) y with
                | none => rfl
                | some u =>
                  obtain ⟨u', hu', _⟩ := hmore.val y u hvy
                  rw [hn] at hu'; cases hu'
              obtain ⟨vals0'', vals'', base'', win'', ρ'', F'', hinv2, hfin2⟩ := settle ops fr hok hcall hdis hfree b _ _ _ _ _ _ hinv' he'
              exact ih _ _ _ vals0'' vals'' base'' win'' ρ'' F'' _ (by have := left_set ops hinv.size hlt hxl; omega) hinv2 hfin2
            have hp1 := hinv.pend.carry ops fr (e := e) (v := v) ho hv hinv.con.scp hag.keep hvs hokw
            rw [← app_h] at hp1
            obtain ⟨vals', win', hp', he', hmm⟩ := scan ops fr rfl hok hcall hdis hfsc' n _ _ _ hp1 hrest
            refine finish _ vals' win' n hp' he' hmm (fun i u hu => ?_) (fun i hi => ?_)
            · have hlti : i < vals.length := by
                have := valOf_lt hu
                simpa [markV] using this
              rw [valOf_mark i hlti] at hu
              by_cases e1 : i = x
              · subst e1; exact (lst_set hltL _).2 (.inl rfl)
              · rw [if_neg e1] at hu
                cases hd : hasDep (depsD ops) x i with
                | true => exact (lst_set hltL i).2 (.inr (hdeps i hd))
                | false => rw [hd] at hu; exact (lst_set hltL i).2 (.inr (hinv.low i u hu))
            · have hix : i ≠ x := by intro e; subst e; rw [valOf_set, if_pos rfl, if_pos hltv] at hi; cases hi
              rw [valOf_set, if_neg hix] at hi
              rcases Nat.lt_or_ge i vals.length with hlti | hlti
              · rw [valOf_mark i hlti, if_neg hix, hi]
                cases hd : hasDep (depsD ops) x i with
                | true => rfl
                | false =>
                  show valOf vals0 i = none
                  cases h00 : valOf vals0 i with
                  | none => rfl
                  | some u =>
                    obtain ⟨u', hu', _⟩ := hinv.pend.more.val i u h00
                    rw [hi] at hu'; cases hu'
              · exact valOf_mark_out i hlti
end

theorem valOf_none : ∀ (l : List Oper) (i : Nat), valOf (noneVals l) i = none
  | [], i => by simp [noneVals, valOf, lget]
  | o :: l, 0 => by simp [noneVals, valOf, lget]
  | o :: l, i + 1 => by
    have := valOf_none l i
    rw [valOf_eq] at this ⊢
    simpa [noneVals] using this

theorem noneVals_len : ∀ l : List Oper, (noneVals l).length = l.length
  | [] => rfl
  | o :: l => by simp [noneVals, noneVals_len l]

theorem drawAll_sound (hok : ∀ t, cfg.okt t = true → OkType cfg.P t) (hcall : CallOK cfg.P S call) {w0 : World} {F0 : Nat → Prop} {X : Hs M} {ρ : Nat → Nat} {F : Nat → Nat → Prop} {w : World} {a : Act} {R : Act → World → Prop}
    (hcon : Con S w0 F0 X.h ρ F w) (hfr : FrRel X.h ρ fr a) (h : (drawAll cfg S.locs call ops fr X).all (SeqLeaf S w0 F0 X.h ρ R)) :
    wpAny cfg.P .any ops.toArray (fun e a w => match e with | .normal => R a w | _ => False) ops.toArray.size (Array.replicate ops.toArray.size false) a w := by
  unfold drawAll at h
  simp only at h
  split at h
  · rename_i hc
    simp only [Bool.and_eq_true] at hc
    obtain ⟨⟨hdis, hfree⟩, hdst⟩ := hc
    have hL : ∀ i, ¬ lst (Array.replicate ops.toArray.size false) i := by
      intro i hi
      unfold lst at hi
      simp [Array.getD_eq_getD_getElem?, Array.getElem?_replicate] at hi
      split at hi <;> simp at hi
    obtain ⟨vals', win', hp', he', _⟩ := scan ops fr rfl hok hcall hdis (fun t u hu => hfr.sc t u hu) _ (noneVals ops) (noneVals ops) [] (Pend.start ops fr (noneVals_len ops) (fun x v hv => by rw [valOf_none] at hv; cases hv)) h
    obtain ⟨vals0'', vals'', base'', win'', ρ'', F'', hinv2, hfin2⟩ := settle ops fr hok hcall hdis hfree (w0 := w0) (F0 := F0) (H := X.h) (ρ0 := ρ) (L := Array.replicate ops.toArray.size false) (a := a) (w := w) (fb := id) _ _ _ _ _ _ _
      ⟨hp', hcon, ⟨fun i o d v hi => absurd hi (hL i), fun t v hv _ => hfr.den t v hv, hfr.len, fun i o d ho hd => dstsIn_spec ops hdst i o d ho hd, hfr.defers⟩,
      fun j hj => absurd hj (hL j), by simp, ⟨fun x o hl => absurd hl (hL x), fun x y o o' hl => absurd hl (hL x)⟩, fun i v hv => (by rw [valOf_none] at hv; cases hv), fun t u hu => hfr.sc t u hu, Agree.refl X.h ρ, fun x o hl => absurd hl (hL x)⟩ he'
    refine drawn_main ops fr hok hcall hdis hfree _ _ a w _ _ _ _ _ _ _ ?_ hinv2 hfin2
    unfold left
    refine Nat.le_trans (List.length_filter_le _ _) ?_
    simp
  · exact h.elim
end
end
end Go.SX
