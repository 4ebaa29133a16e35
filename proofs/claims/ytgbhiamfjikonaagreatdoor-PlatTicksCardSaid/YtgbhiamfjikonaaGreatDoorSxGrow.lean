/- SX: rows that are made and that grow. -/
import Derived.Test.YtgbhiamfjikonaaGreatDoorSxStep
set_option linter.unusedVariables false
set_option linter.unusedSimpArgs false
namespace Go.SX
section
variable {P : Program} {M : Type} {S : Seal M}

theorem constAV_cells_sc (V : Nat → Bool) (v : Value) : scL V (constAV v).cells = true := by
  unfold constAV
  split
  · simp only [AV.cells, scL_eq, List.all_map]
    exact List.all_eq_true.2 fun x _ => constCell_sc V x
  · rename_i hv
    have hc : (constCell v).cells = [constCell v] := by unfold constCell; split <;> rfl
    rw [hc]
    simp only [scL, constCell_sc, Bool.and_self]

theorem constAV_cells_den (ρ : Nat → Nat) (v : Value) : (denL ρ (constAV v).cells).toArray = v.cells := by
  have hcell : ∀ v : Value, (∀ c, v ≠ .agg c) → (denL ρ (constCell v).cells).toArray = v.cells := by
    intro v hv
    have h1 := constCell_den ρ v
    have h2 := den_cells ρ (constCell v) (fun u hu a ha => by
      subst ha
      rw [hu] at h1
      simp only [AV.den] at h1
      exact hv a h1.symm)
    rw [h1] at h2
    exact h2.symm
  unfold constAV
  split
  · simp [AV.cells, constCells_den, Value.cells]
  · rename_i hv
    exact hcell v hv

theorem zeroB_cells {t : TypeId} {z : AV} (h : zeroB P t = some z) (ρ : Nat → Nat) (V : Nat → Bool) : scL V z.cells = true ∧ ∃ i v, P.info? t = some i ∧ i.zero = some v ∧ v.cells = (denL ρ z.cells).toArray := by
  unfold zeroB at h
  split at h
  · rename_i i hi
    split at h
    · rename_i v hv
      simp only [Option.some.injEq] at h
      subst h
      exact ⟨constAV_cells_sc V v, i, v, infoB_info hi, hv, (constAV_cells_den ρ v).symm⟩
    · cases h
  · cases h



theorem zeroB_cells' {t : TypeId} {z : AV} (h : zeroB P t = some z) (ρ : Nat → Nat) : (∀ V : Nat → Bool, scL V z.cells = true) ∧ ∃ i v, P.info? t = some i ∧ i.zero = some v ∧ v.cells = (denL ρ z.cells).toArray :=
  ⟨fun V => (zeroB_cells h ρ V).1, (zeroB_cells h ρ fun _ => true).2⟩

section
variable {w0 : World} {F0 : Nat → Prop} {H : Hp M} {ρ : Nat → Nat} {F : Nat → Nat → Prop} {w : World}

theorem vis_none {l : Nat} {o : AO M} (ho : H[l]? = some o) (hv : o.vis = true) : vis (H.set l .none) = vis H := vis_set ho hv rfl

/-- A name gives up its right. -/
theorem Con.drop (h : Con S w0 F0 H ρ F w) {l : Nat} {o : AO M} (ho : H[l]? = some o) (hv : o.vis = true) :
    Con S w0 F0 (H.set l .none) ρ (fun k => if k = l then (fun _ => False) else F k) w := by
  have hlt := (List.getElem?_eq_some_iff.1 ho).1
  refine ⟨fun k ok hk => ?_, fun k ok hk => ?_, fun k hk => ?_, fun k k' x h1 h2 => ?_, fun k x hx => ?_, fun k x hx => ?_, h.old, h.size, h.os, h.tape, h.output⟩
  · by_cases e : k = l
    · subst e
      simp [hlt] at hk
      subst hk
      simp only [if_true]
      exact fun x hx => hx
    · rw [List.getElem?_set_ne (Ne.symm e)] at hk
      simp only [e, if_false]
      exact h.rep k ok hk
  · rw [vis_none ho hv]
    by_cases e : k = l
    · subst e
      simp [hlt] at hk
      subst hk
      rfl
    · rw [List.getElem?_set_ne (Ne.symm e)] at hk
      exact h.scp k ok hk
  · intro x hx
    by_cases e : k = l
    · simp [e] at hx
    · simp only [e, if_false] at hx
      exact h.out k (by simpa using hk) x hx
  · by_cases e : k = l
    · simp [e] at h1
    · by_cases e' : k' = l
      · simp [e'] at h2
      · simp only [e, e', if_false] at h1 h2
        exact h.dis k k' x h1 h2
  · by_cases e : k = l
    · simp [e] at hx
    · simp only [e, if_false] at hx
      exact h.lt k x hx
  · by_cases e : k = l
    · simp [e] at hx
    · simp only [e, if_false] at hx
      exact h.own k x hx

/-- Places, with two more. -/
def more2 (n : Nat) (ρ : Nat → Nat) (b c : Nat) : Nat → Nat := fun l => if l = n then b else if l = n + 1 then c else ρ l

theorem more2_old {n : Nat} {ρ : Nat → Nat} {b c l : Nat} (h : l < n) : more2 n ρ b c l = ρ l := by
  unfold more2
  rw [if_neg (by omega), if_neg (by omega)]

theorem vis_lt {l : Nat} (h : vis H l = true) : l < H.length := by
  rw [vis_eq] at h
  rcases Nat.lt_or_ge l H.length with h' | h'
  · exact h'
  · rw [List.getElem?_eq_none h'] at h; cases h

theorem vis_append {l : Nat} (o : List (AO M)) (h : vis H l = true) : vis (H ++ o) l = true := by
  have := vis_lt h
  rw [vis_eq] at h ⊢
  rw [List.getElem?_append_left this]; exact h

/-- A new object, and a name beside it. -/
theorem Con.add (h : Con S w0 F0 H ρ F w) {o : AO M} {b c : Nat} {F2 : Nat → Prop} {w' : World} (hs : o.Sc S (vis (H ++ [o, .none]))) (hr : o.rep S (more2 H.length ρ b c) b F2 w')
    (hold : ∀ x, x < w.heap.size → ¬ F2 x → w'.heap[x]? = w.heap[x]?) (hnew : ∀ x, F2 x → (∀ l, ¬ F l x) ∧ (F0 x ∨ w0.heap.size ≤ x) ∧ x < w'.heap.size)
    (hsz : w.heap.size ≤ w'.heap.size) (h1 : w'.os = w.os) (h2 : w'.tape = w.tape) (h3 : w'.output = w.output) :
    Agree H (H ++ [o, .none]) ρ (more2 H.length ρ b c) ∧
    Con S w0 F0 (H ++ [o, .none]) (more2 H.length ρ b c) (fun l => if l = H.length then F2 else if l = H.length + 1 then (fun _ => False) else F l) w' := by
  have hag : ∀ l, vis H l = true → more2 H.length ρ b c l = ρ l := fun l hl => more2_old (vis_lt hl)
  have hvis : ∀ l, vis H l = true → vis (H ++ [o, .none]) l = true := fun l hl => vis_append _ hl
  have hF : ∀ l x, F l x → l < H.length := by
    intro l x hx
    rcases Nat.lt_or_ge l H.length with h' | h'
    · exact h'
    · exact absurd hx (h.out l (List.getElem?_eq_none h') x)
  refine ⟨⟨hag, hvis⟩, ⟨fun l o' hl => ?_, fun l o' hl => ?_, fun l hl x => ?_, fun l l' x g1 g2 => ?_, fun l x hx => ?_, fun l x hx => ?_, fun x hx hn => ?_, Nat.le_trans h.size hsz, h1.trans h.os, h2.trans h.tape, h3.trans h.output⟩⟩
  · have hlt := (List.getElem?_eq_some_iff.1 hl).1
    simp at hlt
    by_cases e : l = H.length
    · subst e
      simp at hl
      subst hl
      simp only [if_true]
      have : more2 H.length ρ b c H.length = b := by simp [more2]
      rw [this]; exact hr
    · by_cases e' : l = H.length + 1
      · subst e'
        rw [List.getElem?_append_right (by omega)] at hl
        simp at hl
        subst hl
        simp only [e, if_false, if_true]
        exact fun x hx => hx
      · have hlt' : l < H.length := by omega
        rw [List.getElem?_append_left hlt'] at hl
        simp only [e, e', if_false]
        rw [more2_old hlt']
        exact rep_agree (rep_here (h.rep l o' hl) (fun x hx => hold x (h.lt l x hx) (fun h' => (hnew x h').1 l hx))) (h.scp l o' hl) hag
  · have hlt := (List.getElem?_eq_some_iff.1 hl).1
    simp at hlt
    by_cases e : l = H.length
    · subst e
      simp at hl
      subst hl
      exact hs
    · by_cases e' : l = H.length + 1
      · subst e'
        rw [List.getElem?_append_right (by omega)] at hl
        simp at hl
        subst hl
        rfl
      · have hlt' : l < H.length := by omega
        rw [List.getElem?_append_left hlt'] at hl
        exact Sc_mono hvis (h.scp l o' hl)
  · have hlen : H.length + 2 ≤ l := by simpa using hl
    simp only [show l ≠ H.length by omega, show l ≠ H.length + 1 by omega, if_false]
    exact h.out l (List.getElem?_eq_none (by omega)) x
  · have key : ∀ k, (if k = H.length then F2 else if k = H.length + 1 then (fun _ => False) else F k) x → k = H.length ∧ F2 x ∨ k < H.length ∧ F k x := by
      intro k hk
      by_cases e : k = H.length
      · simp only [e, if_true] at hk; exact .inl ⟨e, hk⟩
      · by_cases e' : k = H.length + 1
        · subst e'
          simp at hk
        · simp only [e, e', if_false] at hk; exact .inr ⟨hF k x hk, hk⟩
    rcases key l g1 with ⟨e1, g1⟩ | ⟨e1, g1⟩ <;> rcases key l' g2 with ⟨e2, g2⟩ | ⟨e2, g2⟩
    · omega
    · exact absurd g2 ((hnew x g1).1 l')
    · exact absurd g1 ((hnew x g2).1 l)
    · exact h.dis l l' x g1 g2
  · by_cases e : l = H.length
    · simp only [e, if_true] at hx; exact (hnew x hx).2.2
    · by_cases e' : l = H.length + 1
      · subst e'; simp at hx
      · simp only [e, e', if_false] at hx
        exact Nat.lt_of_lt_of_le (h.lt l x hx) hsz
  · by_cases e : l = H.length
    · simp only [e, if_true] at hx; exact (hnew x hx).2.1
    · by_cases e' : l = H.length + 1
      · subst e'; simp at hx
      · simp only [e, e', if_false] at hx
        exact h.own l x hx
  · rw [hold x (Nat.lt_of_lt_of_le hx h.size) (fun h' => by
      rcases (hnew x h').2.1 with h4 | h4
      · exact hn h4
      · omega)]
    exact h.old x hx hn

/-- What a slice that is written out holds. -/
theorem rowOf_sound (hr : ∀ (l : Nat) (o : AO M), H[l]? = some o → o.rep S ρ (ρ l) (F l) w) {z m : Nat} {y : AV} {r : List AV} (h : rowOf H z y = some (m, r)) :
    r.length = m * z ∧ ∃ a c, y.den ρ = .slice (some a) m c ∧ ∀ j u, (denL ρ r)[j]? = some u → w.cell? (a.add j) = some u := by
  have key : ∀ (l o n : Nat) (c : List AV), ((∃ e, H[l]? = some (.cells c e)) ∨ ∃ lc y e, H[l]? = some (.buf c lc y e)) → ltake c o n = some r → r.length = n ∧ ∀ j u, (denL ρ r)[j]? = some u → w.cell? ⟨ρ l, o + j, none⟩ = some u := by
    intro l o n c hH ht
    obtain ⟨h1, h2⟩ := ltake_spec c o n r ht
    refine ⟨h1, fun j u hu => ?_⟩
    rw [denL_eq, List.getElem?_map] at hu
    have hj : j < n := by
      rcases Nat.lt_or_ge j n with hj | hj
      · exact hj
      · rw [List.getElem?_eq_none (by omega)] at hu; cases hu
    rw [h2 j hj] at hu
    rcases hH with ⟨e, hH⟩ | ⟨lc, y, e, hH⟩
    · exact cell_of_row (hr l _ hH).2 (i := o + j) hu
    · obtain ⟨_, arr, hb, _, _, _, hc⟩ := hr l _ hH
      simp [World.cell?, hb, hc _ u hu]
  unfold rowOf at h
  split at h
  · rename_i l i y m' c'
    split at h
    · rename_i hz
      have hz := Nat.eq_of_beq_eq_true hz
      subst hz
      split at h
      · rename_i c e hl
        rw [lget_eq] at hl
        simp only [Option.map_eq_some_iff, Prod.mk.injEq] at h
        obtain ⟨r', hr', rfl, rfl⟩ := h
        obtain ⟨h1, h2⟩ := key l _ _ c (.inl ⟨e, hl⟩) hr'
        exact ⟨h1, ⟨ρ l, i * y, none⟩, c', rfl, fun j u hu => by rw [add_zero']; exact h2 j u hu⟩
      · rename_i c lc y' e hl
        rw [lget_eq] at hl
        simp only [Option.map_eq_some_iff, Prod.mk.injEq] at h
        obtain ⟨r', hr', rfl, rfl⟩ := h
        obtain ⟨h1, h2⟩ := key l _ _ c (.inr ⟨_, _, _, hl⟩) hr'
        exact ⟨h1, ⟨ρ l, i * y, none⟩, c', rfl, fun j u hu => by rw [add_zero']; exact h2 j u hu⟩
      · cases h
    · cases h
  · rename_i l lc y m'
    split at h
    · rename_i hz
      have hz := Nat.eq_of_beq_eq_true hz
      subst hz
      split at h
      · rename_i c lc' y' e hl
        rw [lget_eq] at hl
        simp only [Option.map_eq_some_iff, Prod.mk.injEq] at h
        obtain ⟨r', hr', rfl, rfl⟩ := h
        obtain ⟨h1, h2⟩ := key l _ _ c (.inr ⟨_, _, _, hl⟩) hr'
        exact ⟨h1, ⟨ρ l, 0, none⟩, ρ lc, rfl, fun j u hu => by rw [add_zero']; exact h2 j u hu⟩
      · cases h
    · cases h
  · cases h

theorem app_grow (H : Hp M) (sets : List (Nat × AO M)) (o : AO M) : (Eff.ext sets [o, .none] : Eff M).app H = applySets sets H ++ [o, .none] := by
  cases sets with
  | nil => simp [Eff.app, applySets, lapp_eq]
  | cons s l => simp [Eff.app, lapp_eq]

/-- Behind a row that grew. -/
theorem grown_leaf {H1 : Hp M} {F1 : Nat → Nat → Prop} (hcon : Con S w0 F0 H1 ρ F1 w) {sets : List (Nat × AO M)} (hH1 : applySets sets H = H1) (hlen : H1.length = H.length) (hvis : vis H1 = vis H)
    {z n : Nat} {c : List AV} {e : TypeId} {R : Value → World → Prop} (h : (grownB H sets z n c e).all (LeafOK S w0 F0 H ρ R))
    {b k : Nat} {arr : Array Value} {w' : World} (hb : w'.heap[b]? = some (.cells arr e (0, 0))) (hsz : arr.size = k * z) (hk : k ≤ maxLen) (hcl : c.length ≤ arr.size)
    (hc : ∀ (i : Nat) (v : Value), (denL ρ c)[i]? = some v → arr[i]? = some v) (hsc : scL (vis H) c = true)
    (hold : ∀ x, x < w.heap.size → x ≠ b → w'.heap[x]? = w.heap[x]?) (hnew : (∀ l, ¬ F1 l b) ∧ (F0 b ∨ w0.heap.size ≤ b) ∧ b < w'.heap.size)
    (hs : w.heap.size ≤ w'.heap.size) (h1 : w'.os = w.os) (h2 : w'.tape = w.tape) (h3 : w'.output = w.output) : R (.slice (some ⟨b, 0, none⟩) n k) w' := by
  obtain ⟨hse, hl⟩ := h
  rw [app_grow, hH1] at hse hl
  have hk2 : more2 H1.length ρ b k (H.length + 1) = k := by simp [more2, hlen]
  have hb2 : more2 H1.length ρ b k H.length = b := by simp [more2, hlen]
  have hden : denL (more2 H1.length ρ b k) c = denL ρ c := by
    refine denL_agree (vis H) ρ _ (fun l hl => ?_) c hsc
    rw [← hvis] at hl
    exact more2_old (vis_lt hl)
  have hS : (AO.buf c (H.length + 1) z e : AO M).Sc S (vis (H1 ++ [.buf c (H.length + 1) z e, .none])) := by
    show (scL _ c && _) = true
    rw [Bool.and_eq_true]
    refine ⟨scL_mono (vis H) _ (fun l hl => vis_append _ (by rw [hvis]; exact hl)) c hsc, ?_⟩
    rw [vis_eq, ← hlen, List.getElem?_append_right (by omega)]
    simp [AO.vis]
  obtain ⟨hag, hcon'⟩ := hcon.add (o := .buf c (H.length + 1) z e) (b := b) (c := k) (F2 := fun x => x = b) (w' := w') hS
    ⟨fun x => Iff.rfl, arr, hb, by rw [hk2]; exact hsz, by rw [hk2]; exact hk, hcl, fun i v hv => hc i v (by rw [← hden, denL_eq, List.getElem?_map]; exact hv)⟩
    (fun x hx hn => hold x hx hn) (fun x hx => by subst hx; exact hnew) hs h1 h2 h3
  have hag' : Agree H (H1 ++ [.buf c (H.length + 1) z e, .none]) ρ (more2 H1.length ρ b k) :=
    ⟨fun l hl => hag.same l (by rw [hvis]; exact hl), fun l hl => hag.keep l (by rw [hvis]; exact hl)⟩
  have := hl _ _ w' hag' hcon'
  simp only [AV.den, hb2, hk2] at this
  exact this

theorem appendB_sound (hcon : Con S w0 F0 H ρ F w) {t : TypeId} {x y : AV} {R : Value → World → Prop} (h : (appendB P H t x y).all (LeafOK S w0 F0 H ρ R)) {ty : TypeId} :
    ∃ v' w', (Builtin.append_ #[t, t] ty #[x.den ρ, y.den ρ]).run P w = .ok v' w' ∧ R v' w' := by
  have quiet : ∀ {v : AV}, LeafOK S w0 F0 H ρ R (v, .quiet) → R (v.den ρ) w := fun hl => hl.2 ρ F w (Agree.refl H ρ) hcon
  have hscO : ∀ (l : Nat) (o : AO M), H[l]? = some o → o.Sc S (vis H) := hcon.scp
  have hscRow : ∀ {z m : Nat} {y : AV} {r : List AV}, rowOf H z y = some (m, r) → scL (vis H) r = true := by
    intro z m y r hrow
    have take : ∀ (c : List AV) (o n : Nat) (r : List AV), ltake c o n = some r → scL (vis H) c = true → scL (vis H) r = true := by
      intro c o n r ht hc
      obtain ⟨h1, h2⟩ := ltake_spec c o n r ht
      rw [scL_eq, List.all_eq_true] at hc ⊢
      intro u hu
      obtain ⟨j, hj⟩ := List.mem_iff_getElem?.1 hu
      have hjn : j < n := by
        have := (List.getElem?_eq_some_iff.1 hj).1
        omega
      rw [h2 j hjn] at hj
      exact hc u (List.mem_of_getElem? hj)
    unfold rowOf at hrow
    split at hrow
    · split at hrow
      · split at hrow
        · rename_i c e hl
          rw [lget_eq] at hl
          simp only [Option.map_eq_some_iff, Prod.mk.injEq] at hrow
          obtain ⟨r', hr', rfl, rfl⟩ := hrow
          exact take c _ _ _ hr' (hscO _ _ hl)
        · rename_i c lc y' e hl
          rw [lget_eq] at hl
          simp only [Option.map_eq_some_iff, Prod.mk.injEq] at hrow
          obtain ⟨r', hr', rfl, rfl⟩ := hrow
          have hs : (scL (vis H) c && vis H lc) = true := hscO _ _ hl
          rw [Bool.and_eq_true] at hs
          exact take c _ _ _ hr' hs.1
        · cases hrow
      · cases hrow
    · split at hrow
      · split at hrow
        · rename_i c lc y' e hl
          rw [lget_eq] at hl
          simp only [Option.map_eq_some_iff, Prod.mk.injEq] at hrow
          obtain ⟨r', hr', rfl, rfl⟩ := hrow
          have hs : (scL (vis H) c && vis H lc) = true := hscO _ _ hl
          rw [Bool.and_eq_true] at hs
          exact take c _ _ _ hr' hs.1
        · cases hrow
      · cases hrow
    · cases hrow
  unfold appendB at h
  split at h
  · rename_i e hu
    have ht := undB_und hu
    split at h
    · rename_i i v hi hv
      have hinfo := infoB_info hi
      obtain ⟨_, i', z, hi', hz, hzc⟩ := zeroB_cells' hv ρ
      rw [hinfo] at hi'
      obtain rfl : i = i' := by simpa using hi'
      split at h
      · rename_i hc
        simp only [Bool.and_eq_true] at hc
        obtain ⟨⟨hzl, hz1⟩, hby⟩ := hc
        have hzl := Nat.eq_of_beq_eq_true hzl
        have hz1 := Nat.le_of_ble_eq_true hz1
        have hby := Nat.le_of_ble_eq_true hby
        rw [lenB_eq] at hzl
        have hzsz : z.cells.size = i.size := by rw [hzc]; simp [denL_eq, hzl]
        split at h
        · split at h
          · refine ⟨_, w, ?_, quiet h⟩
            simp [Builtin.append_, AV.den, run_underlying ht, sizeOf, typeInfo, hinfo, Builtin.lenOf, Builtin.firstCells]
          · exact h.elim
        · split at h
          · rename_i m news hnews
            obtain ⟨hnl, ad, cc, hyd, hcells⟩ := rowOf_sound hcon.rep hnews
            have hsn := hscRow hnews
            have hnl' : (denL ρ news).length = m * i.size := by rw [denL_eq, List.length_map, hnl]
            split at h
            · rename_i hp
              have hone := plainCells_one hp ρ
              split at h
              · -- from nothing
                split at h
                · rename_i hm
                  have hm := Nat.eq_of_beq_eq_true hm
                  subst hm
                  have hn0 : denL ρ news = [] := List.eq_nil_of_length_eq_zero (by rw [hnl']; simp)
                  refine ⟨_, w, ?_, quiet h⟩
                  rw [hyd]
                  simp [Builtin.append_, AV.den, run_underlying ht, sizeOf, typeInfo, hinfo, Builtin.lenOf, Builtin.firstCells, loadCells, loadCellsFrom]
                · rename_i hm
                  have hm : m ≠ 0 := fun e => hm (by subst e; rfl)
                  split at h
                  · rename_i hmb
                    have hmb := Nat.le_of_ble_eq_true hmb
                    have hb1 : m * i.bytes ≤ 65536 * 65536 := Nat.mul_le_mul hmb hby
                    have hrun := run_append_nil (P := P) w t ty e i z ht hinfo hz ad m cc (denL ρ news) hnl' hcells (by omega) (by omega) (by omega)
                    refine ⟨_, _, by rw [hyd]; exact hrun, ?_⟩
                    have hge := grownCap_ge w m 0 e
                    refine grown_leaf hcon (H1 := H) rfl rfl rfl h (b := w.heap.size) (k := grownCap w m 0 e) (heap_alloc_new w.drew _) ?_ (grownCap_le_maxLen w m 0 e (by simp only [maxLen]; omega)) ?_ ?_ hsn
                      (fun x hx _ => heap_alloc_old w.drew _ hx) ⟨fun l hl => by have := hcon.lt l _ hl; omega, .inr hcon.size, by simp⟩ (by simp) rfl rfl rfl
                    · simp only [Array.size_append, List.size_toArray, size_zeroCells, hzsz, hnl', ← Nat.add_mul]
                      congr 1; omega
                    · simp only [Array.size_append, List.size_toArray, hnl', hnl]; omega
                    · intro j u hj
                      rw [Array.getElem?_append_left (by have := (List.getElem?_eq_some_iff.1 hj).1; simpa using this)]
                      simpa using hj
                  · exact h.elim
              · -- from a full slice
                rename_i l a y' n c
                split at h
                · rename_i n' olds holds
                  obtain ⟨hol, ad0, c0, hxd, hocells⟩ := rowOf_sound hcon.rep holds
                  have hso := hscRow holds
                  have hn' : n' = n := by
                    unfold rowOf at holds
                    simp only at holds
                    split at holds
                    · split at holds <;> simp only [Option.map_eq_some_iff, Prod.mk.injEq, reduceCtorEq, false_and, and_false, exists_false] at holds
                      · obtain ⟨_, _, h1, _⟩ := holds; exact h1.symm
                      · obtain ⟨_, _, h1, _⟩ := holds; exact h1.symm
                    · cases holds
                  subst hn'
                  have hcc : c0 = c := by
                    simp only [AV.den, Value.slice.injEq] at hxd
                    exact hxd.2.2.symm
                  subst hcc
                  have hol' : (denL ρ olds).length = n' * i.size := by rw [denL_eq, List.length_map, hol]
                  split at h
                  · rename_i hnm
                    have hnm := Nat.le_of_ble_eq_true hnm
                    split at h
                    · rename_i hlt
                      have hlt : c0 < n' + m := Nat.le_of_ble_eq_true hlt
                      have hb1 : (n' + m) * i.bytes ≤ 65536 * 65536 := Nat.mul_le_mul hnm hby
                      have hrun := run_append_grow (P := P) w t ty e i z ht hinfo hz ad0 n' c0 (denL ρ olds) hol' hocells ad m cc (denL ρ news) hnl' hcells hlt (by omega) (growslice_fits hlt (by omega))
                      refine ⟨_, _, by rw [hxd, hyd]; exact hrun, ?_⟩
                      have hge := grownCap_ge w (n' + m) c0 e
                      refine grown_leaf hcon (H1 := H) rfl rfl rfl h (b := w.heap.size) (k := grownCap w (n' + m) c0 e) (heap_alloc_new w.drew _) ?_ (grownCap_le_maxLen w (n' + m) c0 e (by simp only [maxLen]; omega)) ?_ ?_
                        (by rw [lapp_eq, scL_eq, List.all_append, ← scL_eq, ← scL_eq, hso, hsn]; rfl)
                        (fun x hx _ => heap_alloc_old w.drew _ hx) ⟨fun l hl => by have := hcon.lt l _ hl; omega, .inr hcon.size, by simp⟩ (by simp) rfl rfl rfl
                      · simp only [Array.size_append, List.size_toArray, size_zeroCells, hzsz, hol', hnl', ← Nat.add_mul]
                        congr 1; omega
                      · simp only [Array.size_append, List.size_toArray, lapp_eq, List.length_append, hnl', hnl, hol', hol]; omega
                      · intro j u hj
                        rw [lapp_eq, denL_eq, List.map_append, ← denL_eq, ← denL_eq] at hj
                        rw [Array.getElem?_append_left (by have := (List.getElem?_eq_some_iff.1 hj).1; simpa using this)]
                        simpa using hj
                    · split at h
                      · rename_i hlt hm
                        have hm := Nat.eq_of_beq_eq_true hm
                        subst hm
                        have hle : n' ≤ c0 := by
                          rcases Nat.lt_or_ge c0 (n' + 0) with h' | h'
                          · exact absurd (Nat.ble_eq_true_of_le h') hlt
                          · omega
                        have hn0 : denL ρ news = [] := List.eq_nil_of_length_eq_zero (by rw [hnl']; simp)
                        refine ⟨_, w, ?_, quiet h⟩
                        rw [hyd]
                        simp [Builtin.append_, AV.den, run_underlying ht, sizeOf, typeInfo, hinfo, Builtin.lenOf, Builtin.firstCells, loadCells, loadCellsFrom, hle, storeCells]
                      · exact h.elim
                  · exact h.elim
                · exact h.elim
              · -- from one that grew
                rename_i l lc z' n
                split at h
                · rename_i cs lc' z'' e' hl
                  rw [lget_eq] at hl
                  split at h
                  · rename_i hc
                    simp only [Bool.and_eq_true] at hc
                    obtain ⟨⟨⟨⟨⟨⟨hnm, h1⟩, h2⟩, h3⟩, h4⟩, h5⟩, hpc⟩ := hc
                    have hnm := Nat.le_of_ble_eq_true hnm
                    obtain rfl := Nat.eq_of_beq_eq_true h1
                    obtain rfl := Nat.eq_of_beq_eq_true h2
                    obtain rfl := Nat.eq_of_beq_eq_true h3
                    obtain rfl := Nat.eq_of_beq_eq_true h4
                    have h5 := Nat.eq_of_beq_eq_true h5
                    rw [lenB_eq] at h5
                    obtain ⟨hF, arr, hheap, hsz, hmx, hle, hcell⟩ := hcon.rep l _ hl
                    have hscl : (scL (vis H) cs && vis H lc) = true := hscO _ _ hl
                    rw [Bool.and_eq_true] at hscl
                    have hdrop := hcon.drop hl rfl
                    have hb1 : (n + m) * i.bytes ≤ 65536 * 65536 := Nat.mul_le_mul hnm hby
                    have hsets : applySets [(l, AO.none)] H = H.set l .none := by simp [applySets, lset_eq]
                    have hcs' : (denL ρ cs).length = n * i.size := by rw [denL_eq, List.length_map, h5]
                    have hcl' : ∀ j u, (denL ρ cs)[j]? = some u → arr[j]? = some u := fun j u hj => hcell j u (by rw [denL_eq, List.getElem?_map] at hj; exact hj)
                    have hscapp : scL (vis H) (lapp cs news) = true := by rw [lapp_eq, scL_eq, List.all_append, ← scL_eq, ← scL_eq, hscl.1, hsn]; rfl
                    have hFl : ∀ k, ¬ (if k = l then (fun _ => False) else F k) (ρ l) := by
                      intro k hk
                      by_cases e : k = l
                      · simp [e] at hk
                      · simp only [e, if_false] at hk
                        exact e (hcon.dis k l _ hk ((hF _).2 rfl))
                    by_cases hroom : n + m ≤ ρ lc
                    · have hnlen : n * i.size + (denL ρ news).length ≤ arr.size := by rw [hnl', hsz, ← Nat.add_mul]; exact Nat.mul_le_mul_right _ hroom
                      have hrun := run_append_room (P := P) w t ty e i ht hinfo (ρ l) n (ρ lc) arr hheap ad m cc (denL ρ news) hnl' hcells hone hroom hnlen
                      refine ⟨_, _, by rw [hyd]; exact hrun, ?_⟩
                      refine grown_leaf hdrop (H := H) hsets (by simp) (vis_none hl rfl) h (b := ρ l) (k := ρ lc) (setRow_heap w (ρ l) arr _ e _ hheap) ?_ hmx ?_ ?_ hscapp
                        (fun x hx hne => setRow_other w (ρ l) x _ hne) ⟨hFl, hcon.own l _ ((hF _).2 rfl), by have := hcon.lt l _ ((hF _).2 rfl); simpa [World.setRow] using this⟩ (by simp [World.setRow]) rfl rfl rfl
                      · simp only [List.size_toArray, List.length_append, List.length_take, List.length_drop, Array.length_toList]
                        omega
                      · simp only [List.size_toArray, List.length_append, List.length_take, List.length_drop, Array.length_toList, lapp_eq, hnl]
                        rw [hnl'] at hnlen ⊢
                        omega
                      · intro j u hj
                        rw [lapp_eq, denL_eq, List.map_append, ← denL_eq, ← denL_eq] at hj
                        simp only [List.getElem?_toArray]
                        rw [List.append_assoc]
                        have htl : (arr.toList.take (n * i.size)).length = n * i.size := by simp; omega
                        rcases Nat.lt_or_ge j (n * i.size) with hjn | hjn
                        · rw [List.getElem?_append_left (by rw [hcs']; exact hjn)] at hj
                          rw [List.getElem?_append_left (by rw [htl]; exact hjn), List.getElem?_take, if_pos hjn]
                          simpa using hcl' j u hj
                        · rw [List.getElem?_append_right (by rw [hcs']; exact hjn), hcs'] at hj
                          rw [List.getElem?_append_right (by rw [htl]; exact hjn), htl]
                          rw [List.getElem?_append_left (List.getElem?_eq_some_iff.1 hj).1]
                          exact hj
                    · have hocells : ∀ j u, (denL ρ cs)[j]? = some u → w.cell? ((⟨ρ l, 0, none⟩ : Addr).add j) = some u := by
                        intro j u hj
                        rw [add_zero']
                        simp [World.cell?, hheap, hcl' j u hj]
                      have hrun := run_append_grow (P := P) w t ty e i z ht hinfo hz ⟨ρ l, 0, none⟩ n (ρ lc) (denL ρ cs) hcs' hocells ad m cc (denL ρ news) hnl' hcells (by omega) (by omega) (growslice_fits (by omega) (by omega))
                      refine ⟨_, _, by rw [hyd]; exact hrun, ?_⟩
                      have hge := grownCap_ge w (n + m) (ρ lc) e
                      refine grown_leaf hdrop (H := H) hsets (by simp) (vis_none hl rfl) h (b := w.heap.size) (k := grownCap w (n + m) (ρ lc) e) (heap_alloc_new w.drew _) ?_ (grownCap_le_maxLen w (n + m) (ρ lc) e (by simp only [maxLen]; omega)) ?_ ?_ hscapp
                        (fun x hx _ => heap_alloc_old w.drew _ hx) ⟨fun k hk => by have := hdrop.lt k _ hk; omega, .inr hcon.size, by simp⟩ (by simp) rfl rfl rfl
                      · simp only [Array.size_append, List.size_toArray, size_zeroCells, hzsz, hcs', hnl', ← Nat.add_mul]
                        congr 1; omega
                      · simp only [Array.size_append, List.size_toArray, lapp_eq, List.length_append, hnl', hnl, hcs', h5]; omega
                      · intro j u hj
                        rw [lapp_eq, denL_eq, List.map_append, ← denL_eq, ← denL_eq] at hj
                        rw [Array.getElem?_append_left (by have := (List.getElem?_eq_some_iff.1 hj).1; simpa using this)]
                        simpa using hj
                  · exact h.elim
                · exact h.elim
              · exact h.elim
            · exact h.elim
          · exact h.elim
      · exact h.elim
    · exact h.elim
  · exact h.elim
end
end
end Go.SX
