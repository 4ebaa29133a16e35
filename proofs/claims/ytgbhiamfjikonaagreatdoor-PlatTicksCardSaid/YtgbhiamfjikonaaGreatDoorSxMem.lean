/- SX: types, loads and stores. -/
import Derived.Test.YtgbhiamfjikonaaGreatDoorSxBase
namespace Go.SX
section
variable {P : Program}

theorem infoB_info {t : TypeId} {i : TypeInfo} (h : infoB P t = some i) : P.info? t = some i := by
  unfold infoB at h
  rw [forceN_eq] at h
  rw [lget_eq, Array.getElem?_toList] at h
  have ht : t < P.types.size := by
    have := (Array.getElem?_eq_some_iff.1 h).1
    exact this
  unfold Tables.info?
  rw [if_pos ht, h]

theorem undB_und {t : TypeId} {d : TypeDesc} (h : undB P t = some d) : P.underlying t = some d := by
  unfold undB at h
  split at h
  · rename_i i hi
    have hi' := infoB_info hi
    unfold Program.underlying
    rw [hi']
    obtain ⟨desc, str, size, bytes, hp, al, fa, zero, cmp, ms⟩ := i
    cases desc <;> simp only at h ⊢ <;> first | exact h | skip
    rename_i n u
    cases hu : infoB P u with
    | none => rw [hu] at h; cases h
    | some j => rw [hu] at h; rw [infoB_info hu]; exact h
  · cases h

theorem run_sizeOfB {t : TypeId} {n : Nat} (h : sizeB P t = some n) (w : World) : (sizeOf t).run P w = .ok n w := by
  unfold sizeB at h
  split at h
  · rename_i i hi
    simp only [Option.some.injEq] at h
    simp [sizeOf, typeInfo, infoB_info hi, h]
  · cases h

theorem run_isAggB {t : TypeId} {b : Bool} (h : isAggB P t = some b) (w : World) : (isAgg t).run P w = .ok b w := by
  unfold isAggB at h
  cases hu : undB P t with
  | none => rw [hu] at h; cases h
  | some d =>
    rw [hu] at h
    simp only [isAgg, Sem.run_bind, run_underlying (undB_und hu), Result.andThen_ok]
    cases d <;> simp_all

theorem constCell_den (ρ : Nat → Nat) (v : Value) : (constCell v).den ρ = v := by
  unfold constCell; split <;> rfl

theorem constCells_den (ρ : Nat → Nat) (l : List Value) : denL ρ (l.map constCell) = l := by
  induction l with
  | nil => rfl
  | cons a l ih => simp [denL, constCell_den, ih]

theorem constAV_den (ρ : Nat → Nat) (v : Value) : (constAV v).den ρ = v := by
  unfold constAV
  split
  · simp [AV.den, constCells_den]
  · exact constCell_den ρ v

theorem run_zeroB {t : TypeId} {z : AV} (h : zeroB P t = some z) (ρ : Nat → Nat) (w : World) : (zeroValue t).run P w = .ok (z.den ρ) w := by
  unfold zeroB at h
  split at h
  · rename_i i hi
    split at h
    · rename_i v hv
      simp only [Option.some.injEq] at h
      subst h
      simp [zeroValue, typeInfo, infoB_info hi, hv, constAV_den]
    · cases h
  · cases h

theorem den_cells (ρ : Nat → Nat) (v : AV) (h : ∀ u, v = .raw u → ∀ a, u ≠ .agg a) : (v.den ρ).cells = (denL ρ v.cells).toArray := by
  cases v <;> try rfl
  rename_i u
  cases u <;> first | rfl | exact absurd rfl (h _ rfl _)

/-! Loads. -/

theorem column_spec (z : Nat) : ∀ (n o : Nat) (c l : List AV), column c z o n = some l → l.length = n ∧ ∀ j, j < n → c[o + j * z]? = l[j]?
  | 0, o, c, l, h => by simp [column] at h; subst h; simp
  | n + 1, o, c, l, h => by
    simp only [column] at h
    split at h
    · rename_i v m hv hm
      simp only [Option.some.injEq] at h
      subst h
      obtain ⟨h1, h2⟩ := column_spec z n (o + z) c m hm
      refine ⟨by simp [h1], fun j hj => ?_⟩
      cases j with
      | zero => rw [lget_eq] at hv; simpa using hv
      | succ j =>
        have := h2 j (by omega)
        rw [List.getElem?_cons_succ, ← this, Nat.add_mul]
        congr 1; omega
    · cases h

theorem intsOf_spec (k : IntKind) (ρ : Nat → Nat) : ∀ (l : List AV) (xs : List Int), intsOf k l = some xs → ∀ i, i < l.length → (l[i]?).map (AV.den ρ) = some (.int k (selI xs i))
  | [], xs, h, i, hi => by simp at hi
  | a :: l, xs, h, i, hi => by
    cases a <;> simp only [intsOf, reduceCtorEq] at h
    split at h
    · rename_i hk
      simp only [Option.map_eq_some_iff] at h
      obtain ⟨ys, hy, rfl⟩ := h
      subst hk
      cases i with
      | zero => simp [selI, AV.den]
      | succ i => simpa [selI] using intsOf_spec _ ρ l ys hy i (by simpa using hi)
    · cases h

theorem boolsOf_spec (ρ : Nat → Nat) : ∀ (l : List AV) (xs : List Bool), boolsOf l = some xs → ∀ i, i < l.length → (l[i]?).map (AV.den ρ) = some (.bool (selB xs i))
  | [], xs, h, i, hi => by simp at hi
  | a :: l, xs, h, i, hi => by
    cases a <;> simp only [boolsOf, reduceCtorEq] at h
    simp only [Option.map_eq_some_iff] at h
    obtain ⟨ys, hy, rfl⟩ := h
    cases i with
    | zero => simp [selB, AV.den]
    | succ i => simpa [selB] using boolsOf_spec ρ l ys hy i (by simpa using hi)

theorem selAV_spec {i : Nat} {l : List AV} {v : AV} (h : selAV i l = some v) (ρ : Nat → Nat) (hi : i < l.length) : (l[i]?).map (AV.den ρ) = some (v.den ρ) := by
  unfold selAV at h
  split at h
  · simp only [Option.map_eq_some_iff] at h
    obtain ⟨xs, hx, rfl⟩ := h
    exact intsOf_spec _ ρ _ xs hx i hi
  · simp only [Option.map_eq_some_iff] at h
    obtain ⟨xs, hx, rfl⟩ := h
    exact boolsOf_spec ρ _ xs hx i hi
  · cases h

theorem loadX_spec {c : List AV} {i n z : Nat} (hi : i < n) (ρ : Nat → Nat) : ∀ (k o : Nat) (vs : List AV), loadX c i n z o k = some vs → vs.length = k ∧ ∀ j, j < k → (vs[j]?).map (AV.den ρ) = (c[o + i * z + j]?).map (AV.den ρ)
  | 0, o, vs, h => by simp [loadX] at h; subst h; simp
  | k + 1, o, vs, h => by
    simp only [loadX] at h
    split at h
    · rename_i l hl
      split at h
      · rename_i v us hv hu
        simp only [Option.some.injEq] at h
        subst h
        obtain ⟨h1, h2⟩ := loadX_spec hi ρ k (o + 1) us hu
        obtain ⟨c1, c2⟩ := column_spec z n o c l hl
        refine ⟨by simp [h1], fun j hj => ?_⟩
        cases j with
        | zero =>
          have := selAV_spec hv ρ (by omega)
          rw [Nat.add_zero, c2 i hi, this]
          rfl
        | succ j =>
          have := h2 j (by omega)
          rw [List.getElem?_cons_succ, this]
          congr 2; omega
      · cases h
    · cases h

theorem upAV_spec {i j : Nat} {v a b : AV} (h : upAV i j v a = some b) (ρ : Nat → Nat) : b.den ρ = if i = j then v.den ρ else a.den ρ := by
  unfold upAV at h
  split at h
  · split at h
    · rename_i hk
      simp only [Option.some.injEq] at h
      subst h; subst hk
      simp only [AV.den, upI]
      split <;> rfl
    · cases h
  · simp only [Option.some.injEq] at h
    subst h
    simp only [AV.den, upB]
    split <;> rfl
  · cases h

theorem upRow_spec {i j : Nat} (ρ : Nat → Nat) : ∀ (o : Nat) (l vs m : List AV), upRow i j o l vs = some m → m.length = l.length ∧ (vs ≠ [] → o + vs.length ≤ l.length) ∧
    ∀ p, (m[p]?).map (AV.den ρ) = if i = j ∧ o ≤ p ∧ p < o + vs.length then (vs[p - o]?).map (AV.den ρ) else (l[p]?).map (AV.den ρ)
  | o, l, [], m, h => by
    cases l <;> cases o <;> simp only [upRow, Option.some.injEq] at h <;> subst h <;> refine ⟨rfl, by simp, fun p => ?_⟩ <;> rw [if_neg (fun hh => by have h1 := hh.2.1; have h2 := hh.2.2; simp only [List.length_nil] at h2; omega)]
  | o, [], v :: vs, m, h => by cases o <;> simp [upRow] at h
  | 0, a :: l, v :: vs, m, h => by
    simp only [upRow] at h
    split at h
    · rename_i b m' hb hm
      simp only [Option.some.injEq] at h
      subst h
      obtain ⟨h1, h2, h3⟩ := upRow_spec ρ 0 l vs m' hm
      refine ⟨by simp [h1], fun _ => ?_, fun p => ?_⟩
      · cases vs with
        | nil => simp
        | cons x y => have := h2 (by simp); simp at this ⊢; omega
      · cases p with
        | zero =>
          simp only [List.getElem?_cons_zero, Option.map_some, upAV_spec hb ρ]
          by_cases e : i = j
          · simp [e]
          · simp [e]
        | succ p =>
          have := h3 p
          simp only [List.getElem?_cons_succ, this]
          by_cases e : i = j ∧ p < vs.length
          · rw [if_pos ⟨e.1, by omega, by omega⟩, if_pos ⟨e.1, by omega, by simp; omega⟩]
            simp
          · rw [if_neg (by omega), if_neg (by simp; omega)]
    · cases h
  | o + 1, a :: l, v :: vs, m, h => by
    simp only [upRow, Option.map_eq_some_iff] at h
    obtain ⟨m', hm, rfl⟩ := h
    obtain ⟨h1, h2, h3⟩ := upRow_spec ρ o l (v :: vs) m' hm
    refine ⟨by simp [h1], fun hn => by have := h2 hn; simp at this ⊢; omega, fun p => ?_⟩
    cases p with
    | zero => rw [if_neg (by omega)]; simp
    | succ p =>
      have := h3 p
      simp only [List.getElem?_cons_succ, this]
      by_cases e : i = j ∧ o ≤ p ∧ p < o + (v :: vs).length
      · rw [if_pos e, if_pos ⟨e.1, by omega, by omega⟩]
        congr 2; omega
      · rw [if_neg e, if_neg (by omega)]

theorem storeX_spec {i z : Nat} {vs : List AV} (ρ : Nat → Nat) (hz : vs.length ≤ z) : ∀ (n j o : Nat) (c m : List AV), storeX i z vs j o n c = some m → m.length = c.length ∧ (vs ≠ [] → j ≤ i → i < j + n → o + (i - j) * z + vs.length ≤ c.length) ∧
    ∀ p, (m[p]?).map (AV.den ρ) = if j ≤ i ∧ i < j + n ∧ o + (i - j) * z ≤ p ∧ p < o + (i - j) * z + vs.length then (vs[p - (o + (i - j) * z)]?).map (AV.den ρ) else (c[p]?).map (AV.den ρ)
  | 0, j, o, c, m, h => by
    simp [storeX] at h; subst h
    exact ⟨rfl, fun _ _ _ => by omega, fun p => by rw [if_neg (by omega)]⟩
  | n + 1, j, o, c, m, h => by
    simp only [storeX] at h
    split at h
    · rename_i m1 hm1
      obtain ⟨h1, h2, h3⟩ := storeX_spec ρ hz n (j + 1) (o + z) m1 m h
      obtain ⟨g1, g2, g3⟩ := upRow_spec ρ o c vs m1 hm1
      refine ⟨h1.trans g1, fun hv hj hi => ?_, fun p => ?_⟩
      · by_cases e : i = j
        · subst e; have := g2 hv; simpa using this
        · have := h2 hv (by omega) (by omega)
          rw [g1] at this
          have e2 : (i - j) * z = z + (i - (j + 1)) * z := by
            rw [show i - j = (i - (j + 1)) + 1 by omega, Nat.add_mul]; omega
          omega
      · rw [h3 p, g3 p]
        by_cases e : i = j
        · subst e
          rw [if_neg (by omega)]
          simp only [Nat.sub_self, Nat.zero_mul, Nat.add_zero, true_and]
          by_cases e2 : o ≤ p ∧ p < o + vs.length
          · rw [if_pos e2, if_pos ⟨Nat.le_refl _, by omega, e2⟩]
          · rw [if_neg e2, if_neg (by omega)]
        · by_cases hj : j ≤ i
          · have e2 : (i - j) * z = z + (i - (j + 1)) * z := by
              rw [show i - j = (i - (j + 1)) + 1 by omega, Nat.add_mul]; omega
            by_cases e3 : j + 1 ≤ i ∧ i < j + 1 + n ∧ o + z + (i - (j + 1)) * z ≤ p ∧ p < o + z + (i - (j + 1)) * z + vs.length
            · rw [if_pos e3, if_pos (by omega)]
              congr 2; omega
            · rw [if_neg e3, if_neg (by omega), if_neg (by omega)]
          · rw [if_neg (by omega), if_neg (by omega), if_neg (by omega)]
    · cases h

theorem add_zero' (b o n : Nat) : (⟨b, o, none⟩ : Addr).add n = ⟨b, o + n, none⟩ := by
  unfold Addr.add; split <;> simp_all

theorem cell_of_row {w : World} {b : Nat} {e : TypeId} {n : Nat} {f : Nat → Option Value} (h : rowAt w b e n f) {i : Nat} {v : Value} (hv : f i = some v) :
    w.cell? ⟨b, i, none⟩ = some v := by
  obtain ⟨arr, fz, hb, hf, _⟩ := h
  simp [World.cell?, hb, hf i v hv]

theorem run_load_cell {w : World} {a : Addr} {v : Value} (h : w.cell? a = some v) : (load a).run P w = .ok v w := by
  simp [load, Sem.run, h]

theorem run_loadCells_at {w : World} {b o n : Nat} {cs : List Value} (hn : cs.length = n) (h : ∀ j, j < n → ∀ v, cs[j]? = some v → w.cell? ⟨b, o + j, none⟩ = some v) :
    (loadCells ⟨b, o, none⟩ n).run P w = .ok cs.toArray w := by
  subst hn
  refine run_loadCells_list w _ cs fun j v hj => ?_
  rw [add_zero']
  have hlt : j < cs.length := by
    rcases Nat.lt_or_ge j cs.length with h | h
    · exact h
    · rw [List.getElem?_eq_none h] at hj; cases hj
  exact h j hlt v hj

variable {M : Type} {S : Seal M}

/-- What is loaded of an object stands in the cells. -/
theorem objLoad_sound {o : AO M} {i z f n : Nat} {ρ : Nat → Nat} {b : Nat} {F : Nat → Prop} {w : World} (hr : o.rep S ρ b F w) {Φ : List AV → Prop}
    (h : (objLoad o i z f n).all Φ) : ∃ cs, Φ cs ∧ cs.length = n ∧ ∀ j, j < n → ∀ v, (cs[j]?).map (AV.den ρ) = some v → w.cell? ⟨b, i * z + f + j, none⟩ = some v := by
  cases o with
  | hid => exact h.elim
  | none => exact h.elim
  | map es => exact h.elim
  | res m => exact h.elim
  | cells c e =>
    simp only [objLoad] at h
    cases hl : ltake c (i * z + f) n with
    | none => rw [hl] at h; exact h.elim
    | some l =>
      rw [hl] at h
      obtain ⟨h1, h2⟩ := ltake_spec c _ _ l hl
      refine ⟨l, h, h1, fun j hj v hv => ?_⟩
      rw [h2 j hj] at hv
      exact cell_of_row hr.2 hv
  | at1 p u e =>
    simp only [objLoad] at h
    split at h
    · obtain ⟨h1, h2⟩ := h
      by_cases hi : i = p
      · refine ⟨_, h1 (by simpa using hi), rfl, fun j hj v hv => ?_⟩
        have : j = 0 := by omega
        subst this
        simp only [List.getElem?_cons_zero, Option.map_some, Option.some.injEq] at hv
        subst hv
        simpa using cell_of_row hr.2 (i := i) (v := u.den ρ) (by simp [hi])
      · exact (h2 (by simpa using hi)).elim
    · exact h.elim
  | buf c lc y e =>
    simp only [objLoad] at h
    cases hl : ltake c (i * z + f) n with
    | none => rw [hl] at h; exact h.elim
    | some l =>
      rw [hl] at h
      obtain ⟨h1, h2⟩ := ltake_spec c _ _ l hl
      refine ⟨l, h, h1, fun j hj v hv => ?_⟩
      rw [h2 j hj] at hv
      obtain ⟨_, arr, hb, _, _, _, hc⟩ := hr
      simp [World.cell?, hb, hc _ v hv]
  | view k lo m g o =>
    obtain ⟨_, hb, arr, e, fz, ho, hc⟩ := hr
    subst ho
    simp only [objLoad] at h
    split at h
    · obtain ⟨h1, h2⟩ := h
      by_cases hi : lo ≤ i ∧ i < m
      · refine ⟨_, h1 (by simpa using hi), rfl, fun j hj v hv => ?_⟩
        have : j = 0 := by omega
        subst this
        simp only [List.getElem?_cons_zero, Option.map_some, Option.some.injEq, AV.den] at hv
        subst hv
        have := hc i hi.1 hi.2
        simp [World.cell?, hb, this]
      · exact (h2 (by simpa using hi)).elim
    · obtain ⟨h1, h2⟩ := h
      by_cases hi : f < m ∧ lo ≤ f
      · refine ⟨_, h1 (by simpa using hi.symm), rfl, fun j hj v hv => ?_⟩
        have : j = 0 := by omega
        subst this
        simp only [List.getElem?_cons_zero, Option.map_some, Option.some.injEq, AV.den] at hv
        subst hv
        have := hc f hi.2 hi.1
        simp [World.cell?, hb, this]
      · exact (h2 (by simp only [decide_eq_false_iff_not]; exact fun h => hi h.symm)).elim
    · exact h.elim
  | ints k q m sg g e =>
    simp only [objLoad] at h
    split at h
    · obtain ⟨h1, h2⟩ := h
      by_cases hi : i < m
      · refine ⟨_, h1 (by simpa using hi), rfl, fun j hj v hv => ?_⟩
        have : j = 0 := by omega
        subst this
        simp only [List.getElem?_cons_zero, Option.map_some, Option.some.injEq, AV.den] at hv
        subst hv
        simpa using cell_of_row hr.2 (i := i) (v := .int k (g i)) (by simp [hi])
      · exact (h2 (by simpa using hi)).elim
    · obtain ⟨h1, h2⟩ := all_test h
      by_cases hi : f < m
      · refine ⟨_, h1 (by simpa using hi), rfl, fun j hj v hv => ?_⟩
        have : j = 0 := by omega
        subst this
        simp only [List.getElem?_cons_zero, Option.map_some, Option.some.injEq, AV.den] at hv
        subst hv
        simpa using cell_of_row hr.2 (i := f) (v := .int k (g f)) (by simp [hi])
      · exact (h2 (by simpa using hi)).elim
    · exact h.elim
  | rows m y g e =>
    simp only [objLoad] at h
    split at h
    · rename_i hz
      have hz' : z = y := by simpa using hz
      subst hz'
      cases hl : ltake (g i) f n with
      | none => rw [hl] at h; exact h.elim
      | some l =>
        rw [hl] at h
        obtain ⟨h1, h2⟩ := h
        by_cases hi : i < m
        · obtain ⟨hl1, hl2⟩ := ltake_spec (g i) _ _ l hl
          refine ⟨l, h1 (by simpa using hi), hl1, fun j hj v hv => ?_⟩
          have hp := ltake_len (g i) f n l hl (by omega)
          have hlen := hr.2.1 i hi
          rw [hl2 j hj] at hv
          refine cell_of_row hr.2.2 (i := i * z + f + j) (v := v) ?_
          have hz : 0 < z := by omega
          have hd : (i * z + f + j) / z = i := by
            rw [show i * z + f + j = f + j + z * i by rw [Nat.mul_comm z i]; omega, Nat.add_mul_div_left _ _ hz, Nat.div_eq_of_lt (by omega)]; omega
          have hm : (i * z + f + j) % z = f + j := by
            rw [show i * z + f + j = f + j + z * i by rw [Nat.mul_comm z i]; omega, Nat.add_mul_mod_self_left, Nat.mod_eq_of_lt (by omega)]
          have hlt : i * z + f + j < m * z := by
            have : (i + 1) * z ≤ m * z := Nat.mul_le_mul_right z hi
            rw [Nat.add_mul] at this; omega
          simp only [hlt, if_true, hd, hm, hv]
        · exact (h2 (by simpa using hi)).elim
    · exact h.elim

theorem sureAddr_run (a : Addr) (w : World) : (Instr.sureAddr (.pointer (some a))).run P w = .ok a w := rfl

theorem loadAt_sound {H : Hp M} {ρ : Nat → Nat} {F : Nat → Nat → Prop} {w : World} (hr : ∀ (l : Nat) (o : AO M), H[l]? = some o → o.rep S ρ (ρ l) (F l) w)
    {t : TypeId} {v : AV} {Φ : AV → Prop} (h : (loadAt P H t v).all Φ) : ∃ r, Φ r ∧ (Instr.loadAt t (v.den ρ)).run P w = .ok (r.den ρ) w := by
  cases v with
  | ptr l i z o =>
    simp only [loadAt] at h
    cases hb : lget H l with
    | none => rw [hb] at h; exact h.elim
    | some b =>
      rw [hb] at h
      rw [lget_eq] at hb
      have hrep := hr l b hb
      cases ha : isAggB P t with
      | none => rw [ha] at h; exact h.elim
      | some g =>
        cases hs : sizeB P t with
        | none => rw [ha, hs] at h; cases g <;> exact h.elim
        | some n =>
          rw [ha, hs] at h
          cases g with
          | true =>
            simp only [Tree.all_bind] at h
            obtain ⟨cs, hΦ, hlen, hc⟩ := objLoad_sound hrep h
            refine ⟨.agg cs, hΦ, ?_⟩
            simp only [Instr.loadAt, AV.den, Sem.run_bind, sureAddr_run, Result.andThen_ok, loadVar, run_isAggB ha, run_sizeOfB hs, if_true]
            rw [run_loadCells_at (cs := denL ρ cs) (by simp [denL_eq, hlen]) (fun j hj v hv => hc j hj v (by simpa [denL_eq] using hv))]
            rfl
          | false =>
            simp only [Tree.all_bind] at h
            obtain ⟨cs, hΦ, hlen, hc⟩ := objLoad_sound hrep h
            obtain ⟨x, rfl⟩ : ∃ x, cs = [x] := by
              match cs, hlen with
              | [x], _ => exact ⟨x, rfl⟩
            refine ⟨x, hΦ, ?_⟩
            simp only [Instr.loadAt, AV.den, Sem.run_bind, sureAddr_run, Result.andThen_ok, loadVar, run_isAggB ha]
            exact run_load_cell (by simpa using hc 0 (by omega) (x.den ρ) rfl)
  | ptrx l i n z o f =>
    simp only [loadAt] at h
    split at h
    · rename_i c e g k hb ha hs
      rw [lget_eq] at hb
      have hrep := hr l _ hb
      split at h
      · rename_i vs hvs
        have cells : i < n → ∀ j, j < k → ∀ v, (denL ρ vs)[j]? = some v → w.cell? ⟨ρ l, o + i * z + f + j, none⟩ = some v := by
          intro hi j hj v hv
          obtain ⟨h1, h2⟩ := loadX_spec hi ρ k (o + f) vs hvs
          rw [denL_eq, List.getElem?_map, h2 j hj] at hv
          rw [show o + i * z + f + j = o + f + i * z + j by omega]
          exact cell_of_row hrep.2 hv
        split at h
        · obtain ⟨h1, h2⟩ := h
          by_cases hi : i < n
          · refine ⟨.agg vs, h1 (by simpa using hi), ?_⟩
            obtain ⟨g1, _⟩ := loadX_spec hi ρ k (o + f) vs hvs
            simp only [Instr.loadAt, AV.den, Sem.run_bind, sureAddr_run, Result.andThen_ok, loadVar, run_isAggB ha, run_sizeOfB hs, if_true]
            rw [run_loadCells_at (cs := denL ρ vs) (by simp [denL_eq, g1]) (fun j hj v hv => cells hi j hj v hv)]
            rfl
          · exact (h2 (by simpa using hi)).elim
        · rename_i v
          obtain ⟨h1, h2⟩ := h
          by_cases hi : i < n
          · refine ⟨v, h1 (by simpa using hi), ?_⟩
            obtain ⟨g1, _⟩ := loadX_spec hi ρ k (o + f) [v] hvs
            simp only [Instr.loadAt, AV.den, Sem.run_bind, sureAddr_run, Result.andThen_ok, loadVar, run_isAggB ha]
            exact run_load_cell (by simpa using cells hi 0 (by simp at g1; omega) (v.den ρ) rfl)
          · exact (h2 (by simpa using hi)).elim
        · exact h.elim
      · exact h.elim
    · exact h.elim
  | _ => exact h.elim

/-! Stores. -/

theorem plainCell_one {v : AV} (h : plainCell v = true) (ρ : Nat → Nat) : (v.den ρ).oneCell' = true := by
  cases v <;> first | rfl | (simp [plainCell] at h; done) | skip
  rename_i u
  cases u <;> first | rfl | (simp [plainCell] at h; done)

/-- The world behind a store of some cells. -/
structure Stored (w w' : World) (b : Nat) (arr arr' : Array Value) (e : TypeId) (fz : Nat × Nat) : Prop where
  block : w'.heap[b]? = some (.cells arr' e fz)
  size : arr'.size = arr.size
  rest : ∀ x, x ≠ b → w'.heap[x]? = w.heap[x]?
  heap : w'.heap.size = w.heap.size
  os : w'.os = w.os
  tape : w'.tape = w.tape
  output : w'.output = w.output

theorem run_storeCells_sx {b o : Nat} {e : TypeId} {fz : Nat × Nat} : ∀ (vs : List Value) (i : Nat) (arr : Array Value) (w : World), w.heap[b]? = some (.cells arr e fz) →
    o + i + vs.length ≤ arr.size → (∀ j, j < vs.length → ¬ (fz.1 ≤ o + i + j ∧ o + i + j < fz.2)) → (∀ v ∈ vs, v.oneCell' = true) →
    ∃ w' arr', (storeCells ⟨b, o, none⟩ vs i).run P w = .ok () w' ∧ Stored w w' b arr arr' e fz ∧
      (∀ j, j < vs.length → arr'[o + i + j]? = vs[j]?) ∧ ∀ j, (j < o + i ∨ o + i + vs.length ≤ j) → arr'[j]? = arr[j]?
  | [], i, arr, w, hb, _, _, _ => ⟨w, arr, rfl, ⟨hb, rfl, fun _ _ => rfl, rfl, rfl, rfl, rfl⟩, fun j hj => by simp at hj, fun _ _ => rfl⟩
  | v :: vs, i, arr, w, hb, hl, hz, h1 => by
    have hi : o + i < arr.size := by simp at hl; omega
    have hcell : w.cell? ⟨b, o + i, none⟩ = some arr[o + i] := by simp [World.cell?, hb, hi]
    have hfro : w.frozen? ⟨b, o + i, none⟩ = false := by
      have := hz 0 (by simp)
      simp [World.frozen?, hb]
      simpa using this
    have hst : (store ((⟨b, o, none⟩ : Addr).add i) v).run P w = .ok () (w.setCell ⟨b, o + i, none⟩ v) := by
      rw [add_zero', run_store P w _ v _ (h1 v (by simp)), hcell]
      simp [hfro]
    have hb' : (w.setCell ⟨b, o + i, none⟩ v).heap[b]? = some (.cells (arr.setIfInBounds (o + i) v) e fz) := by
      simp [World.setCell, Array.getElem?_modify, hb]
    obtain ⟨w', arr', hrun, hS, h2, h3⟩ := run_storeCells_sx (o := o) vs (i + 1) (arr.setIfInBounds (o + i) v) (w.setCell ⟨b, o + i, none⟩ v) hb'
      (by simp at hl ⊢; omega) (fun j hj => by have := hz (j + 1) (by simp; omega); rw [show o + (i + 1) + j = o + i + (j + 1) by omega]; exact this) (fun x hx => h1 x (by simp [hx]))
    refine ⟨w', arr', ?_, ⟨hS.block, by rw [hS.size]; simp, fun x hx => ?_, by rw [hS.heap]; simp [World.setCell], hS.os, hS.tape, hS.output⟩, fun j hj => ?_, fun j hj => ?_⟩
    · simp only [storeCells, Sem.run_bind, hst, Result.andThen_ok, hrun]
    · rw [hS.rest x hx]
      simp [World.setCell, Array.getElem?_modify]
      intro he; exact absurd he.symm hx
    · cases j with
      | zero =>
        rw [h3 (o + i + 0) (by omega)]
        simp [hi]
      | succ j =>
        have := h2 j (by simpa using hj)
        rw [show o + i + (j + 1) = o + (i + 1) + j by omega, this]
        simp
    · rw [h3 j (by simp at hj ⊢; omega), Array.getElem?_setIfInBounds_ne (by simp at hj; omega)]

theorem plainCells_one {vs : List AV} (hp : plainCells vs = true) (ρ : Nat → Nat) : ∀ v ∈ denL ρ vs, v.oneCell' = true := by
  intro v hv
  rw [denL_eq, List.mem_map] at hv
  obtain ⟨a, ha, rfl⟩ := hv
  refine plainCell_one ?_ ρ
  induction vs with
  | nil => simp at ha
  | cons x l ih =>
    simp only [plainCells, Bool.and_eq_true] at hp
    rcases List.mem_cons.1 ha with rfl | ha
    · exact hp.1
    · exact ih hp.2 ha

/-- A store into an object. -/
theorem objStore_sound {o : AO M} {i z f : Nat} {vs : List AV} {ρ : Nat → Nat} {b : Nat} {F : Nat → Prop} {w : World} (hr : o.rep S ρ b F w) (hp : plainCells vs = true)
    {Φ : AO M → Prop} (h : (objStore o i z f vs).all Φ) :
    ∃ o' w', Φ o' ∧ (storeCells ⟨b, i * z + f, none⟩ (denL ρ vs)).run P w = .ok () w' ∧ o'.rep S ρ b F w' ∧ (∀ x, ¬ F x → w'.heap[x]? = w.heap[x]?) ∧
      w'.heap.size = w.heap.size ∧ w'.os = w.os ∧ w'.tape = w.tape ∧ w'.output = w.output := by
  have h1 : ∀ v ∈ denL ρ vs, v.oneCell' = true := by
    intro v hv
    rw [denL_eq, List.mem_map] at hv
    obtain ⟨a, ha, rfl⟩ := hv
    refine plainCell_one ?_ ρ
    clear h
    induction vs with
    | nil => simp at ha
    | cons x l ih =>
      simp only [plainCells, Bool.and_eq_true] at hp
      rcases List.mem_cons.1 ha with rfl | ha
      · exact hp.1
      · exact ih hp.2 ha
  have len : (denL ρ vs).length = vs.length := by simp [denL_eq]
  cases o with
  | hid => exact h.elim
  | none => exact h.elim
  | map es => exact h.elim
  | res m => exact h.elim
  | rows n z g e => exact h.elim
  | view k lo m g o => exact h.elim
  | at1 p u e => exact h.elim
  | buf c lc y e =>
    simp only [objStore] at h
    cases hl : lput c (i * z + f) vs with
    | none => rw [hl] at h; exact h.elim
    | some c' =>
      rw [hl] at h
      obtain ⟨l1, l2, l3, l4⟩ := lput_spec c _ vs c' hl
      obtain ⟨hF, arr, hb, hsz, hmx, hle, hc⟩ := hr
      by_cases hv : vs = []
      · subst hv
        have : c' = c := by
          apply List.ext_getElem?
          intro j
          exact l4 j (by rcases Nat.lt_or_ge j (i * z + f) with h | h <;> simp <;> omega)
        subst this
        exact ⟨_, w, h, rfl, ⟨hF, arr, hb, hsz, hmx, hle, hc⟩, fun _ _ => rfl, rfl, rfl, rfl, rfl⟩
      · have hle' := l2 hv
        obtain ⟨w', arr', hrun, hS, h2, h3⟩ := run_storeCells_sx (P := P) (o := i * z + f) (denL ρ vs) 0 arr w hb (by rw [len]; omega)
          (fun j hj => by simp) h1
        refine ⟨_, w', h, hrun, ⟨hF, arr', hS.block, by rw [hS.size]; exact hsz, hmx, by rw [hS.size, l1]; exact hle, fun j v hj => ?_⟩,
          fun x hx => hS.rest x (fun e => hx ((hF x).2 e)), hS.heap, hS.os, hS.tape, hS.output⟩
        by_cases hin : i * z + f ≤ j ∧ j < i * z + f + vs.length
        · have e1 := h2 (j - (i * z + f)) (by rw [len]; omega)
          rw [show i * z + f + 0 + (j - (i * z + f)) = j by omega] at e1
          rw [e1, denL_eq, List.getElem?_map]
          have e2 := l3 (j - (i * z + f)) (by omega)
          rw [show i * z + f + (j - (i * z + f)) = j by omega] at e2
          rw [← e2]; exact hj
        · rw [h3 j (by rw [len]; omega)]
          have hj' : (c'[j]?).map (AV.den ρ) = some v := hj
          rw [l4 j (by omega)] at hj'
          exact hc j v hj'
  | cells c e =>
    simp only [objStore] at h
    cases hl : lput c (i * z + f) vs with
    | none => rw [hl] at h; exact h.elim
    | some c' =>
      rw [hl] at h
      obtain ⟨l1, l2, l3, l4⟩ := lput_spec c _ vs c' hl
      obtain ⟨hF, arr, fz, hb, hc, hz⟩ := hr
      by_cases hv : vs = []
      · subst hv
        have : c' = c := by
          apply List.ext_getElem?
          intro j
          exact l4 j (by rcases Nat.lt_or_ge j (i * z + f) with h | h <;> simp <;> omega)
        subst this
        exact ⟨_, w, h, rfl, ⟨hF, arr, fz, hb, hc, hz⟩, fun _ _ => rfl, rfl, rfl, rfl, rfl⟩
      · have hle := l2 hv
        have hsz : i * z + f + vs.length ≤ arr.size := by
          have hlast : i * z + f + vs.length - 1 < c.length := by
            have : 0 < vs.length := by cases vs <;> simp_all
            omega
          have := hc (i * z + f + vs.length - 1) _ (by show (c[i * z + f + vs.length - 1]?).map (AV.den ρ) = _; rw [List.getElem?_eq_getElem hlast]; rfl)
          have := (Array.getElem?_eq_some_iff.1 this).1
          omega
        obtain ⟨w', arr', hrun, hS, h2, h3⟩ := run_storeCells_sx (P := P) (o := i * z + f) (denL ρ vs) 0 arr w hb (by rw [len]; omega)
          (fun j hj => hz _ (by rw [len] at hj; omega)) h1
        refine ⟨_, w', h, hrun, ⟨hF, arr', fz, hS.block, fun j v hj => ?_, fun j hj => hz j (by rw [← l1]; exact hj)⟩,
          fun x hx => hS.rest x (fun e => hx ((hF x).2 e)), hS.heap, hS.os, hS.tape, hS.output⟩
        by_cases hin : i * z + f ≤ j ∧ j < i * z + f + vs.length
        · have e1 := h2 (j - (i * z + f)) (by rw [len]; omega)
          rw [show i * z + f + 0 + (j - (i * z + f)) = j by omega] at e1
          rw [e1, denL_eq, List.getElem?_map]
          have e2 := l3 (j - (i * z + f)) (by omega)
          rw [show i * z + f + (j - (i * z + f)) = j by omega] at e2
          rw [← e2]; exact hj
        · rw [h3 j (by rw [len]; omega)]
          have hj' : (c'[j]?).map (AV.den ρ) = some v := hj
          rw [l4 j (by omega)] at hj'
          exact hc j v hj'
  | ints k q m sg g e =>
    obtain ⟨hF, arr, fz, hb, hc, hz⟩ := hr
    have key : ∀ (k' : IntKind) (x : Int) (s : Bool) (p : Nat), k = k' → p < m → i * z + f = p → vs = [.int s k' x] →
        ∃ w', (storeCells ⟨b, i * z + f, none⟩ (denL ρ vs)).run P w = .ok () w' ∧ (∀ sg', (AO.ints k q m sg' (fun j => if j = p then x else g j) e : AO M).rep S ρ b F w') ∧ (∀ x, ¬ F x → w'.heap[x]? = w.heap[x]?) ∧
      w'.heap.size = w.heap.size ∧ w'.os = w.os ∧ w'.tape = w.tape ∧ w'.output = w.output := by
      intro k' x s p hk hp hpe hvs
      subst hk
      have hsz : p < arr.size := by
        have := hc p (.int k (g p)) (by simp [hp])
        exact (Array.getElem?_eq_some_iff.1 this).1
      subst hvs
      obtain ⟨w', arr', hrun, hS, h2, h3⟩ := run_storeCells_sx (P := P) (o := i * z + f) (denL ρ [.int s k x]) 0 arr w hb (by rw [len]; simp; omega)
        (fun j hj => hz _ (by rw [len] at hj; simp at hj; omega)) h1
      refine ⟨w', hrun, fun _ => ⟨hF, arr', fz, hS.block, fun j v hj => ?_, hz⟩, fun x hx => hS.rest x (fun e => hx ((hF x).2 e)), hS.heap, hS.os, hS.tape, hS.output⟩
      by_cases hin : j = p
      · subst hin
        have e1 := h2 0 (by rw [len]; simp)
        rw [show i * z + f + 0 + 0 = j by omega] at e1
        rw [e1]
        simp only [hp, if_true] at hj
        simpa [denL, AV.den] using hj
      · rw [h3 j (by rw [len]; simp; omega)]
        refine hc j v ?_
        simp only [hin, if_false] at hj
        exact hj
    simp only [objStore] at h
    split at h
    · rename_i s k' x
      split at h
      · rename_i hk
        obtain ⟨h1', h2'⟩ := h
        by_cases hi : i < m
        · obtain ⟨w', a1, a2, a3⟩ := key k' x s i hk hi (by omega) rfl
          exact ⟨_, w', h1' (by simpa using hi), a1, a2 _, a3⟩
        · exact (h2' (by simpa using hi)).elim
      · exact h.elim
    · rename_i s k' x
      split at h
      · rename_i hk
        obtain ⟨h1', h2'⟩ := all_test h
        by_cases hi : f < m
        · obtain ⟨w', a1, a2, a3⟩ := key k' x s f hk hi (by omega) rfl
          exact ⟨_, w', h1' (by simpa using hi), a1, a2 _, a3⟩
        · exact (h2' (by simpa using hi)).elim
      · exact h.elim
    · exact h.elim

theorem plain_raw {v : AV} (h : plainCells v.cells = true) : ∀ u, v = .raw u → ∀ a, u ≠ .agg a := by
  intro u hu a ha
  subst hu; subst ha
  simp [AV.cells, plainCells, plainCell] at h

theorem storeAt_sound {H : Hp M} {ρ : Nat → Nat} {F : Nat → Nat → Prop} {w : World} (hr : ∀ (l : Nat) (o : AO M), H[l]? = some o → o.rep S ρ (ρ l) (F l) w)
    {t : TypeId} {a v : AV} {Φ : Nat × AO M → Prop} (h : (storeAt P H t a v).all Φ) :
    ∃ l o' w', Φ (l, o') ∧ (∃ o, H[l]? = some o ∧ o.vis = true) ∧ o'.vis = true ∧ (Instr.storeAt t (a.den ρ) (v.den ρ)).run P w = .ok () w' ∧ o'.rep S ρ (ρ l) (F l) w' ∧ (∀ x, ¬ F l x → w'.heap[x]? = w.heap[x]?) ∧
      w'.heap.size = w.heap.size ∧ w'.os = w.os ∧ w'.tape = w.tape ∧ w'.output = w.output := by
  cases a with
  | ptr l i z o =>
    simp only [storeAt] at h
    cases hb : lget H l with
    | none => rw [hb] at h; exact h.elim
    | some b =>
      rw [hb] at h
      rw [lget_eq] at hb
      cases hs : sizeB P t with
      | none => rw [hs] at h; exact h.elim
      | some n =>
        rw [hs] at h
        simp only at h
        split at h
        · rename_i hc
          simp only [Bool.and_eq_true] at hc
          rw [Tree.all_bind] at h
          obtain ⟨o', w', hΦ, hrun, hrep, rest⟩ := objStore_sound (P := P) (hr l b hb) hc.2 h
          have hvis : b.vis = true ∧ o'.vis = true := by
            cases b with
            | hid => exact h.elim
            | none => exact h.elim
            | map es => exact h.elim
            | res m => exact h.elim
            | rows n z g e => exact h.elim
            | view k lo m g o => exact h.elim
            | at1 p u e => exact h.elim
            | buf c k y e =>
              refine ⟨rfl, ?_⟩
              cases o' <;> first | rfl | skip
              exact absurd ((hr l _ hb).1 (ρ l)).2 (by intro hh; exact (hrep (ρ l)) (hh rfl))
            | cells c e =>
              refine ⟨rfl, ?_⟩
              cases o' <;> first | rfl | skip
              exact absurd ((hr l _ hb).1 (ρ l)).2 (by intro hh; exact (hrep (ρ l)) (hh rfl))
            | ints k q m sg g e =>
              refine ⟨rfl, ?_⟩
              cases o' <;> first | rfl | skip
              exact absurd ((hr l _ hb).1 (ρ l)).2 (by intro hh; exact (hrep (ρ l)) (hh rfl))
          refine ⟨l, o', w', hΦ, ⟨b, hb, hvis.1⟩, hvis.2, ?_, hrep, rest⟩
          have hn : lenB v.cells = n := by simpa using hc.1
          rw [lenB_eq] at hn
          have hd := den_cells ρ v (plain_raw hc.2)
          simp only [Instr.storeAt, AV.den, Sem.run_bind, sureAddr_run, Result.andThen_ok, storeVar, run_sizeOfB hs, hd]
          simp only [List.size_toArray, denL_eq, List.length_map, hn, ne_eq, not_true_eq_false, if_false]
          rw [← denL_eq]
          exact hrun
        · exact h.elim
  | ptrx l i n z o f =>
    simp only [storeAt] at h
    split at h
    · rename_i c e k hb hs
      rw [lget_eq] at hb
      split at h
      · rename_i hc
        simp only [Bool.and_eq_true] at hc
        obtain ⟨⟨hk, hp⟩, hfz⟩ := hc
        have hk := Nat.eq_of_beq_eq_true hk
        rw [lenB_eq] at hk
        have hfz : f + k ≤ z := Nat.le_of_ble_eq_true hfz
        split at h
        · rename_i c' hc'
          obtain ⟨h1, h2⟩ := h
          by_cases hi : i < n
          · have hΦ := h1 (by simpa using hi)
            obtain ⟨g1, g2, g3⟩ := storeX_spec ρ (by omega) n 0 (o + f) c c' hc'
            obtain ⟨hF, arr, fz, hheap, hcell, hfrz⟩ := hr l _ hb
            have h1v := plainCells_one hp ρ
            have len : (denL ρ v.cells).length = k := by simp [denL_eq, hk]
            have hd := den_cells ρ v (plain_raw hp)
            have hrunS : ∀ w', (storeCells ⟨ρ l, o + i * z + f, none⟩ (denL ρ v.cells)).run P w = .ok () w' → (Instr.storeAt t ((AV.ptrx l i n z o f).den ρ) (v.den ρ)).run P w = .ok () w' := by
              intro w' hw
              simp only [Instr.storeAt, AV.den, Sem.run_bind, sureAddr_run, Result.andThen_ok, storeVar, run_sizeOfB hs, hd]
              simp only [List.size_toArray, len, ne_eq, not_true_eq_false, if_false]
              exact hw
            by_cases hne : v.cells = []
            · have hw : (storeCells ⟨ρ l, o + i * z + f, none⟩ (denL ρ v.cells)).run P w = .ok () w := by rw [hne]; rfl
              refine ⟨l, _, w, hΦ, ⟨_, hb, rfl⟩, rfl, hrunS w hw, ⟨hF, arr, fz, hheap, fun p u hu => hcell p u ?_, fun p hpp => hfrz p (by rw [← g1]; exact hpp)⟩, fun _ _ => rfl, rfl, rfl, rfl, rfl⟩
              have hu' : (c'[p]?).map (AV.den ρ) = some u := hu
              rw [g3 p, if_neg (by simp [hne])] at hu'
              exact hu'
            · have hbound := g2 hne (by omega) (by omega)
              simp only [Nat.sub_zero] at hbound
              have hsz : o + i * z + f + k ≤ arr.size := by
                have hlast : o + i * z + f + k - 1 < c.length := by
                  have : 0 < k := by rw [← hk]; exact List.length_pos_iff.2 hne
                  omega
                have := hcell (o + i * z + f + k - 1) _ (by show (c[o + i * z + f + k - 1]?).map (AV.den ρ) = _; rw [List.getElem?_eq_getElem hlast]; rfl)
                have := (Array.getElem?_eq_some_iff.1 this).1
                omega
              obtain ⟨w', arr', hrun, hS, s2, s3⟩ := run_storeCells_sx (P := P) (o := o + i * z + f) (denL ρ v.cells) 0 arr w hheap (by rw [len]; omega)
                (fun j hj => hfrz _ (by rw [len] at hj; omega)) h1v
              refine ⟨l, _, w', hΦ, ⟨_, hb, rfl⟩, rfl, hrunS w' hrun, ⟨hF, arr', fz, hS.block, fun p u hu => ?_, fun p hpp => hfrz p (by rw [← g1]; exact hpp)⟩,
                fun x hx => hS.rest x (fun e => hx ((hF x).2 e)), hS.heap, hS.os, hS.tape, hS.output⟩
              have hu' : (c'[p]?).map (AV.den ρ) = some u := hu
              rw [g3 p] at hu'
              simp only [Nat.sub_zero, Nat.zero_le, Nat.zero_add, true_and, hi] at hu'
              by_cases hin : o + i * z + f ≤ p ∧ p < o + i * z + f + k
              · rw [if_pos (by omega)] at hu'
                have e1 := s2 (p - (o + i * z + f)) (by rw [len]; omega)
                rw [show o + i * z + f + 0 + (p - (o + i * z + f)) = p by omega] at e1
                rw [e1, denL_eq, List.getElem?_map, ← hu']
                congr 2; omega
              · rw [if_neg (by omega)] at hu'
                rw [s3 p (by rw [len]; omega)]
                exact hcell p u hu'
          · exact (h2 (by simpa using hi)).elim
        · exact h.elim
      · exact h.elim
    · exact h.elim
  | _ => exact h.elim
end
end Go.SX
