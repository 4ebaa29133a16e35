/- SX: a region that draws its order: whatever order is drawn, it is as the evaluator's. -/
import Derived.Test.YtgbhiamfjikonaaGreatDoorSxPure
set_option linter.unusedVariables false
set_option linter.unusedSimpArgs false
namespace Go.SX

namespace Tree
variable {α β : Type}
theorem all_exists {t : Tree α} {Φ : α → Prop} (h : t.all Φ) : ∃ a, Φ a := by
  induction t with
  | leaf a => exact ⟨a, h⟩
  | ite b t e iht ihe =>
    cases b with
    | true => exact iht (h.1 rfl)
    | false => exact ihe (h.2 rfl)
  | any g ih => exact ih 0 (h 0)
  | stuck n => exact h.elim

theorem all_of_run {t : Tree α} {a : α} (h : t.run = some a) : t.all (· = a) := by
  induction t with
  | leaf a' => simp [run] at h; exact h
  | ite b t e iht ihe =>
    cases b with
    | true => exact ⟨fun _ => iht h, fun h' => by cases h'⟩
    | false => exact ⟨fun h' => (by cases h'), fun _ => ihe h⟩
  | any g ih => simp [run] at h
  | stuck n => simp [run] at h
end Tree

theorem bindA_true {α β : Type} {t : Tree α} {f : Bool → α → Tree β} {Φ : β → Prop} (h : (bindA t true f).all Φ) : t.all fun a => (f true a).all Φ := by
  induction t with
  | leaf a => exact h
  | ite b t e iht ihe => exact ⟨fun hb => iht (h.1 hb), fun hb => ihe (h.2 hb)⟩
  | any g ih => exact fun n => ih n (h n)
  | stuck n => exact h

theorem bindA_all {α β : Type} {t : Tree α} {f : Bool → α → Tree β} {Φ : β → Prop} (h : (bindA t false f).all Φ) :
    (∃ a, t.run = some a ∧ (f false a).all Φ) ∨ t.all fun a => (f true a).all Φ := by
  induction t with
  | leaf a => exact .inl ⟨a, rfl, h⟩
  | ite b t e iht ihe =>
    cases b with
    | true =>
      rcases iht (h.1 rfl) with ⟨a, h1, h2⟩ | h1
      · exact .inl ⟨a, h1, h2⟩
      · exact .inr ⟨fun _ => h1, fun h' => by cases h'⟩
    | false =>
      rcases ihe (h.2 rfl) with ⟨a, h1, h2⟩ | h1
      · exact .inl ⟨a, h1, h2⟩
      · exact .inr ⟨fun h' => (by cases h'), fun _ => h1⟩
  | any g ih => exact .inr fun n => bindA_true (h n)
  | stuck n => exact h.elim

section
variable (ops : List Oper)

/-! What hangs on what. -/

theorem testBit_two (a i : Nat) : Nat.testBit (2 ^ a) i = decide (a = i) := by
  rw [Nat.testBit_two_pow]

theorem depsOf_spec (acc : List Nat) : ∀ (es : List Edge) (i : Nat), Nat.testBit (depsOf acc es) i = true → ∃ e ∈ es, Region.binds .any e = true ∧ (i = e.on ∨ hasDep acc e.on i = true)
  | [], i, h => by simp [depsOf] at h
  | e :: es, i, h => by
    simp only [depsOf] at h
    split at h
    · rename_i hb
      have hl : ∀ a b : Nat, Nat.lor a b = a ||| b := fun _ _ => rfl
      rw [hl, hl, Nat.testBit_or, Nat.testBit_or, testBit_two, Bool.or_eq_true, Bool.or_eq_true] at h
      rcases h with (h | h) | h
      · exact ⟨e, by simp, hb, .inl (by simpa using h : e.on = i).symm⟩
      · refine ⟨e, by simp, hb, .inr ?_⟩
        unfold hasDep
        cases hm : lget acc e.on with
        | none => rw [hm] at h; simp at h
        | some m => rw [hm] at h; exact h
      · obtain ⟨e', he', r⟩ := depsOf_spec acc es i h
        exact ⟨e', by simp [he'], r⟩
    · obtain ⟨e', he', r⟩ := depsOf_spec acc es i h
      exact ⟨e', by simp [he'], r⟩

theorem depsAll_spec : ∀ (l : List Oper) (acc : List Nat), (∀ (i m : Nat), acc[i]? = some m → (depsAll l acc)[i]? = some m) ∧
    ∀ (j : Nat) (o : Oper), l[j]? = some o → ∀ i, hasDep (depsAll l acc) (acc.length + j) i = true → ∃ e ∈ o.after, Region.binds .any e = true ∧ (i = e.on ∨ hasDep (depsAll l acc) e.on i = true)
  | [], acc => ⟨fun i m h => h, fun j o h => by simp at h⟩
  | o :: l, acc => by
    obtain ⟨h1, h2⟩ := depsAll_spec l (lapp acc [depsOf acc o.after.toList])
    rw [lapp_eq] at h1 h2
    have hpre : ∀ (i m : Nat), acc[i]? = some m → (depsAll (o :: l) acc)[i]? = some m := by
      intro i m h
      simp only [depsAll, lapp_eq]
      refine h1 i m ?_
      have hlt := (List.getElem?_eq_some_iff.1 h).1
      rw [List.getElem?_append_left hlt]; exact h
    refine ⟨hpre, fun j o' hj i hd => ?_⟩
    cases j with
    | zero =>
      simp only [List.getElem?_cons_zero, Option.some.injEq] at hj
      subst hj
      have hat : (depsAll (o :: l) acc)[acc.length]? = some (depsOf acc o.after.toList) := by
        simp only [depsAll, lapp_eq]
        exact h1 _ _ (by simp)
      unfold hasDep at hd
      rw [Nat.add_zero, lget_eq, hat] at hd
      obtain ⟨e, he, hb, hr⟩ := depsOf_spec acc _ i hd
      refine ⟨e, Array.mem_toList_iff.1 he, hb, ?_⟩
      rcases hr with hr | hr
      · exact .inl hr
      · refine .inr ?_
        unfold hasDep at hr ⊢
        cases hm : lget acc e.on with
        | none => rw [hm] at hr; cases hr
        | some m =>
          rw [lget_eq] at hm
          rw [lget_eq, hpre _ _ hm]
          rw [lget_eq, hm] at hr
          exact hr
    | succ j =>
      have := h2 j o' (by simpa using hj) i (by
        simp only [depsAll, lapp_eq] at hd
        rw [List.length_append, List.length_singleton, show acc.length + 1 + j = acc.length + (j + 1) by omega]
        exact hd)
      simp only [depsAll, lapp_eq]
      exact this

theorem dep_bound {j : Nat} {o : Oper} (hj : ops[j]? = some o) {i : Nat} (h : hasDep (depsAll ops []) j i = true) :
    ∃ e ∈ o.after, Region.binds .any e = true ∧ (i = e.on ∨ hasDep (depsAll ops []) e.on i = true) := by
  have := (depsAll_spec ops []).2 j o hj i
  rw [List.length_nil, Nat.zero_add] at this
  exact this h

/-! Who writes what. -/

theorem writerOf_some : ∀ (l : List Oper) (k : Nat) (t : Tmp) (i : Nat), writerOf l k t = some i → ∃ m o, i = k + m ∧ l[m]? = some o ∧ o.dst = some t
  | [], k, t, i, h => by simp [writerOf] at h
  | o :: l, k, t, i, h => by
    cases hd : o.dst with
    | none =>
      simp only [writerOf, hd] at h
      obtain ⟨m, o', h1, h2, h3⟩ := writerOf_some l (k + 1) t i h
      exact ⟨m + 1, o', by omega, by simpa using h2, h3⟩
    | some d =>
      simp only [writerOf, hd] at h
      split at h
      · rename_i he
        have he := Nat.eq_of_beq_eq_true he
        subst he
        simp only [Option.some.injEq] at h
        exact ⟨0, o, h.symm, rfl, hd⟩
      · obtain ⟨m, o', h1, h2, h3⟩ := writerOf_some l (k + 1) t i h
        exact ⟨m + 1, o', by omega, by simpa using h2, h3⟩

theorem writerOf_none : ∀ (l : List Oper) (k : Nat) (t : Tmp), writerOf l k t = none → ∀ (m : Nat) (o : Oper), l[m]? = some o → o.dst ≠ some t
  | [], k, t, h, m, o, hm => by simp at hm
  | o :: l, k, t, h, m, o', hm => by
    cases hd : o.dst with
    | none =>
      simp only [writerOf, hd] at h
      cases m with
      | zero => simp at hm; subst hm; rw [hd]; simp
      | succ m => exact writerOf_none l (k + 1) t h m o' (by simpa using hm)
    | some d =>
      simp only [writerOf, hd] at h
      split at h
      · cases h
      · rename_i he
        cases m with
        | zero => simp at hm; subst hm; rw [hd]; intro e; simp at e; subst e; simp at he
        | succ m => exact writerOf_none l (k + 1) t h m o' (by simpa using hm)

theorem distinct_spec : ∀ (l : List Oper), distinct l = true → ∀ (i j : Nat) (o o' : Oper) (t : Tmp), l[i]? = some o → l[j]? = some o' → o.dst = some t → o'.dst = some t → i = j
  | [], _, i, j, o, o', t, hi, _, _, _ => by simp at hi
  | o0 :: l, h, i, j, o, o', t, hi, hj, ho, ho' => by
    simp only [distinct, Bool.and_eq_true] at h
    have first : ∀ (m : Nat) (o'' : Oper), l[m]? = some o'' → o0.dst = some t → o''.dst ≠ some t := by
      intro m o'' hm hd
      have h1 := h.1
      rw [hd] at h1
      simp only [Option.isNone_iff_eq_none] at h1
      exact writerOf_none l 0 t h1 m o'' hm
    cases i with
    | zero =>
      simp at hi; subst hi
      cases j with
      | zero => rfl
      | succ j => exact absurd ho' (first j o' (by simpa using hj) ho)
    | succ i =>
      cases j with
      | zero => simp at hj; subst hj; exact absurd ho (first i o (by simpa using hi) ho')
      | succ j => rw [distinct_spec l h.2 i j o o' t (by simpa using hi) (by simpa using hj) ho ho']
end

/-! Values told of. -/

theorem valOf_eq (vals : Vals) (i : Nat) : valOf vals i = (vals[i]?).join := by
  unfold valOf
  rw [lget_eq]
  cases vals[i]? with
  | none => rfl
  | some o => cases o <;> rfl

theorem valOf_set (vals : Vals) (j : Nat) (v : AV) (i : Nat) : valOf (lset vals j (some v)) i = if i = j then (if j < vals.length then some v else none) else valOf vals i := by
  rw [valOf_eq, valOf_eq, lset_eq, List.getElem?_set]
  by_cases e : j = i
  · subst e
    by_cases hl : j < vals.length <;> simp [hl]
  · simp [e, Ne.symm e, fun h : i = j => e h.symm]

/-- The same values, told more of. -/
structure More (vals vals' : Vals) : Prop where
  len : vals'.length = vals.length
  val : ∀ i v, valOf vals i = some v → ∃ v', valOf vals' i = some v' ∧ (∀ ρ, v'.den ρ = v.den ρ) ∧ ∀ V, v.sc V = true → v'.sc V = true

theorem More.refl (vals : Vals) : More vals vals := ⟨rfl, fun i v h => ⟨v, h, fun _ => rfl, fun _ h => h⟩⟩
theorem More.trans {a b c : Vals} (h : More a b) (h' : More b c) : More a c :=
  ⟨h'.len.trans h.len, fun i v hv => by
    obtain ⟨v1, h1, h2, h3⟩ := h.val i v hv
    obtain ⟨v2, h4, h5, h6⟩ := h'.val i v1 h1
    exact ⟨v2, h4, fun ρ => (h5 ρ).trans (h2 ρ), fun V hV => h6 V (h3 V hV)⟩⟩
theorem More.new {vals : Vals} {j : Nat} {v : AV} (h : valOf vals j = none) : More vals (lset vals j (some v)) :=
  ⟨by rw [lset_eq, List.length_set], fun i u hu => ⟨u, by
    rw [valOf_set, if_neg (fun e => by subst e; rw [h] at hu; cases hu)]; exact hu, fun _ => rfl, fun _ h => h⟩⟩
theorem valOf_lt {vals : Vals} {j : Nat} {v : AV} (h : valOf vals j = some v) : j < vals.length := by
  rw [valOf_eq] at h
  rcases Nat.lt_or_ge j vals.length with h' | h'
  · exact h'
  · rw [List.getElem?_eq_none h'] at h; cases h
theorem More.retell {vals : Vals} {j : Nat} {v u : AV} (h : valOf vals j = some u) (hd : ∀ ρ, v.den ρ = u.den ρ) (hs : ∀ V, v.sc V = true) : More vals (lset vals j (some v)) :=
  ⟨by rw [lset_eq, List.length_set], fun i x hx => by
    rw [valOf_set]
    by_cases e : i = j
    · subst e
      rw [h] at hx
      simp only [Option.some.injEq] at hx
      subst hx
      exact ⟨v, by rw [if_pos rfl, if_pos (valOf_lt h)], hd, fun V _ => hs V⟩
    · exact ⟨x, by rw [if_neg e]; exact hx, fun _ => rfl, fun _ h => h⟩⟩

section
variable {P : Program} {M : Type} {S : Seal M}
variable (ops : List Oper) (fr : Fr)

abbrev depsD : List Nat := depsAll ops []

theorem evAt_more {vals vals' : Vals} (h : More vals vals') {D : List Nat} {x : Nat} {t : Tmp} {v : AV} (hv : evAt ops D fr vals x t = some v) : ∃ v', evAt ops D fr vals' x t = some v' ∧ (∀ ρ, v'.den ρ = v.den ρ) ∧ ∀ V, v.sc V = true → v'.sc V = true := by
  unfold evAt at hv ⊢
  split at hv
  · rename_i hw; exact ⟨v, hv, fun _ => rfl, fun _ h => h⟩
  · rename_i i hw
    split at hv
    · rename_i hd
      obtain ⟨v', h1, h2, h3⟩ := h.val i v hv
      exact ⟨v', by simp [hd, h1], h2, h3⟩
    · rename_i hd
      split at hv
      · rename_i he; exact ⟨v, by simp [hd, he, hv], fun _ => rfl, fun _ h => h⟩
      · cases hv

theorem evRel_more {vals vals' : Vals} (h : More vals vals') {D : List Nat} {x : Nat} {ρ : Nat → Nat} {a : Act} (hr : EvRel (evAt ops D fr vals' x) ρ a) : EvRel (evAt ops D fr vals x) ρ a := by
  intro t v hv
  obtain ⟨v', h1, h2, _⟩ := evAt_more ops fr h hv
  rw [hr t v' h1, h2]

/-- Listed. -/
def lst (L : Array Bool) (i : Nat) : Prop := L.getD i false = true

/-- All that a listed one hangs on is listed. -/
def ShutL (L : Array Bool) : Prop := ∀ j, lst L j → ∀ i, hasDep (depsD ops) j i = true → lst L i

/-- The slots as they stand when some operations are done. -/
structure AOK (L : Array Bool) (vals : Vals) (ρ : Nat → Nat) (a : Act) : Prop where
  done : ∀ (i : Nat) (o : Oper) d v, lst L i → ops[i]? = some o → o.dst = some d → valOf vals i = some v → a.tmps.getD d undef = v.den ρ
  old : ∀ t v, evFr fr t = some v → (∀ (i : Nat) (o : Oper), lst L i → ops[i]? = some o → o.dst ≠ some t) → a.tmps.getD t undef = v.den ρ
  len : fr.n ≤ a.tmps.size
  all : ∀ (i : Nat) (o : Oper) d, ops[i]? = some o → o.dst = some d → d < fr.n
  defers : a.defers = []

theorem AOK.ev {L : Array Bool} {vals : Vals} {ρ : Nat → Nat} {a : Act} (h : AOK ops fr L vals ρ a) (hdis : distinct ops = true) (hshut : ShutL ops L) {x : Nat} (hx : ¬ lst L x) (hdep : ∀ i, hasDep (depsD ops) x i = true → lst L i) :
    EvRel (evAt ops (depsD ops) fr vals x) ρ a := by
  intro t v hv
  unfold evAt at hv
  split at hv
  · rename_i hw
    exact h.old t v hv fun i o _ ho => writerOf_none ops 0 t hw i o ho
  · rename_i i hw
    obtain ⟨m, o, hm, ho, hd⟩ := writerOf_some ops 0 t i hw
    have him : i = m := by omega
    subst him
    split at hv
    · rename_i hdp
      exact h.done i o t v (hdep i hdp) ho hd hv
    · split at hv
      · rename_i hor
        refine h.old t v hv fun i' o' hi' ho' hd' => ?_
        have : i' = i := distinct_spec ops hdis i' i o' o t ho' ho hd' hd
        subst this
        simp only [Bool.or_eq_true] at hor
        rcases hor with hor | hor
        · have := Nat.eq_of_beq_eq_true hor
          subst this
          exact hx hi'
        · exact hx (hshut i' hi' x hor)
      · cases hv

theorem lst_set {L : Array Bool} {x : Nat} (hx : x < L.size) (i : Nat) : lst (L.setIfInBounds x true) i ↔ i = x ∨ lst L i := by
  unfold lst
  by_cases e : x = i
  · subst e
    simp [Array.getD_eq_getD_getElem?, hx]
  · rw [Array.getD_eq_getD_getElem?, Array.getElem?_setIfInBounds_ne e, Array.getD_eq_getD_getElem?]
    exact ⟨.inr, fun h => h.resolve_left fun h => e h.symm⟩

theorem ready_iff {L : Array Bool} (hL : L.size = ops.length) (x : Nat) : x ∈ Region.ready .any ops.toArray L ↔ ∃ o, ops[x]? = some o ∧ ¬ lst L x ∧ ∀ e ∈ o.after, Region.binds .any e = true → lst L e.on := by
  rw [mem_ready]
  constructor
  · rintro ⟨h0, o, ho, h⟩
    have ho' : ops[x]? = some o := by simpa using ho
    have hlt : x < L.size := by rw [hL]; exact (List.getElem?_eq_some_iff.1 ho').1
    refine ⟨o, ho', ?_, h⟩
    unfold lst
    simp only [Array.getD_eq_getD_getElem?, Array.getElem?_eq_getElem hlt, Option.getD_some] at h0 ⊢
    rw [h0]; simp
  · rintro ⟨o, ho, h0, h⟩
    have hlt : x < L.size := by rw [hL]; exact (List.getElem?_eq_some_iff.1 ho).1
    refine ⟨?_, o, by simpa using ho, h⟩
    unfold lst at h0
    simp only [Array.getD_eq_getD_getElem?, Array.getElem?_eq_getElem hlt, Option.getD_some] at h0 ⊢
    simpa using h0

theorem ready_deps {L : Array Bool} (hshut : ShutL ops L) {x : Nat} {o : Oper} (ho : ops[x]? = some o) (h : ∀ e ∈ o.after, Region.binds .any e = true → lst L e.on) : ∀ i, hasDep (depsD ops) x i = true → lst L i := by
  intro i hi
  obtain ⟨e, he, hb, hr⟩ := dep_bound ops ho hi
  rcases hr with rfl | hr
  · exact h e he hb
  · exact hshut e.on (h e he hb) i hr

theorem readyB_spec {vals : Vals} : ∀ {l : List Edge}, readyB vals l = true → ∀ e ∈ l, Region.binds .any e = true → ∃ v, valOf vals e.on = some v
  | [], _, e, he, _ => by simp at he
  | e0 :: l, h, e, he, hb => by
    simp only [readyB, Bool.and_eq_true, Bool.or_eq_true, Bool.not_eq_true'] at h
    rcases List.mem_cons.1 he with rfl | he
    · rcases h.1 with h1 | h1
      · rw [hb] at h1; cases h1
      · exact Option.isSome_iff_exists.1 h1
    · exact readyB_spec h.2 e he hb

theorem readyB_of {vals : Vals} : ∀ {l : List Edge}, (∀ e ∈ l, Region.binds .any e = true → ∃ v, valOf vals e.on = some v) → readyB vals l = true
  | [], _ => rfl
  | e0 :: l, h => by
    simp only [readyB, Bool.and_eq_true, Bool.or_eq_true, Bool.not_eq_true']
    refine ⟨?_, readyB_of fun e he => h e (by simp [he])⟩
    cases hb : Region.binds .any e0 with
    | false => exact .inl rfl
    | true =>
      obtain ⟨v, hv⟩ := h e0 (by simp) hb
      exact .inr (by rw [hv]; rfl)

theorem noLight_spec {vals : Vals} : ∀ (l : List Oper) (k : Nat), noLight vals l k = true → ∀ (m : Nat) (o : Oper), l[m]? = some o → valOf vals (k + m) = none → readyB vals o.after.toList = true → lightB vals o = false
  | [], k, _, m, o, hm, _, _ => by simp at hm
  | o0 :: l, k, h, m, o, hm, hv, hr => by
    simp only [noLight, Bool.and_eq_true, Bool.or_eq_true, Bool.not_eq_true'] at h
    cases m with
    | zero =>
      simp at hm; subst hm
      rcases h.1 with (h1 | h1) | h1
      · rw [Nat.add_zero] at hv; rw [hv] at h1; cases h1
      · rw [hr] at h1; cases h1
      · exact h1
    | succ m => exact noLight_spec l (k + 1) h.2 m o (by simpa using hm) (by rw [show k + 1 + m = k + (m + 1) by omega]; exact hv) hr

theorem allHang_spec {M : Type} {cfg : Cfg M} {D : List Nat} {vals : Vals} {x : Nat} : ∀ (l : List Oper) (k : Nat), allHang cfg D vals x l k = true → ∀ (m : Nat) (o : Oper), l[m]? = some o → valOf vals (k + m) = none → k + m = x ∨ hasDep D (k + m) x = true ∨ isAlloc cfg o = true
  | [], k, _, m, o, hm, _ => by simp at hm
  | o0 :: l, k, h, m, o, hm, hv => by
    simp only [allHang, Bool.and_eq_true, Bool.or_eq_true] at h
    cases m with
    | zero =>
      simp at hm; subst hm
      rcases h.1 with ((h1 | h1) | h1) | h1
      · rw [Nat.add_zero] at hv; rw [hv] at h1; cases h1
      · exact .inl (Nat.eq_of_beq_eq_true h1)
      · exact .inr (.inl h1)
      · exact .inr (.inr h1)
    | succ m =>
      have := allHang_spec l (k + 1) h.2 m o (by simpa using hm) (by rw [show k + 1 + m = k + (m + 1) by omega]; exact hv)
      rw [show k + 1 + m = k + (m + 1) by omega] at this
      exact this

theorem allSome_spec : ∀ {vals : Vals}, allSome vals = true → ∀ i, i < vals.length → ∃ v, valOf vals i = some v
  | [], _, i, hi => by simp at hi
  | v :: l, h, i, hi => by
    simp only [allSome, Bool.and_eq_true] at h
    cases i with
    | zero =>
      obtain ⟨u, hu⟩ := Option.isSome_iff_exists.1 h.1
      exact ⟨u, by rw [valOf_eq]; simp [hu]⟩
    | succ i =>
      obtain ⟨u, hu⟩ := allSome_spec h.2 i (by simpa using hi)
      exact ⟨u, by rw [valOf_eq] at hu ⊢; simpa using hu⟩
end
end Go.SX
