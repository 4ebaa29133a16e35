/- SX: maps. -/
import Derived.Test.YtgbhiamfjikonaaGreatDoorSxOps
set_option linter.unusedVariables false
set_option linter.unusedSimpArgs false
namespace Go.SX
section
variable {P : Program}

theorem checkKey_plain {t : TypeId} {x : AV} (h : plainType P t x = true) (ρ : Nat → Nat) (e : Bool) (d : Nat) (w : World) : (Instr.checkKey e (d + 1) t (x.den ρ)).run P w = .ok () w := by
  cases x <;> simp only [plainType, Bool.false_eq_true] at h
  all_goals
    cases hu : undB P t with
    | none => rw [hu] at h; cases h
    | some k =>
      rw [hu] at h
      cases k <;> simp only [Bool.false_eq_true] at h
      simp [Instr.checkKey, run_underlying (undB_und hu), AV.den]

/-- What a look at the keys owes. -/
def ChkOK (P : Program) (n : Nat) (re : TypeId → List AV → List AV → Option (Bool × Bool)) : Prop :=
  ∀ t xs ys r, re t xs ys = some r → ∀ ρ e w d, n < d → (Instr.checkKey e d t (.agg (denL ρ xs).toArray)).run P w = .ok () w

theorem chkOne {re : TypeId → List AV → List AV → Option (Bool × Bool)} {n : Nat} (hre : ChkOK P n re) {t : TypeId} {xs ys : List AV} {o z : Nat} {r : Bool × Bool} (hz : sizeB P t = some z)
    (h : eqOne P re t xs ys o z = some r) (ρ : Nat → Nat) (e : Bool) (w : World) (d : Nat) (hd : n < d) :
    ∃ x : Value, (part t (denL ρ xs).toArray o).run P w = .ok x w ∧ (Instr.checkKey e d t x).run P w = .ok () w := by
  unfold eqOne at h
  split at h
  · rename_i a a' hx hy hg
    exact ⟨_, run_part_sx hg hz ρ xs o w a (.agg a) (.inl ⟨rfl, hx, rfl⟩), hre t a a' r h ρ e w d hd⟩
  · rename_i a a' hx hy hg
    split at h
    · rename_i hp
      simp only [Bool.and_eq_true] at hp
      obtain ⟨d', rfl⟩ : ∃ d', d = d' + 1 := ⟨d - 1, by omega⟩
      exact ⟨_, run_part_sx hg hz ρ xs o w [] a (.inr ⟨rfl, (ltake_one hx).2⟩), checkKey_plain hp.1 ρ e d' w⟩
    · cases h
  · cases h

theorem aggChk {okt : TypeId → Bool} (hok : ∀ t, okt t = true → OkType P t) : ∀ n, ChkOK P n (aggEq P okt n)
  | 0 => fun t xs ys r h => by simp [aggEq] at h
  | n + 1 => by
    intro t xs ys r h ρ e w d hd
    have ih := aggChk hok n
    obtain ⟨d', rfl⟩ : ∃ d', d = d' + 1 := ⟨d - 1, by omega⟩
    simp only [aggEq] at h
    split at h
    · rename_i fs hu
      split at h
      · rename_i ht
        have hu' := undB_und hu
        have hn := (hok t ht).names fs hu'
        rw [Instr.checkKey]
        simp only [Sem.run_bind, run_underlying hu', Result.andThen_ok]
        rw [← Array.forIn_toList]
        clear hu hu' ht
        generalize fs.toList = L at h hn
        induction L generalizing r with
        | nil => simp
        | cons f L ihL =>
          simp only [eqFields] at h
          split at h
          · rename_i z hz
            split at h
            · rename_i s1 b1 s2 b2 h1 h2
              obtain ⟨x, p1, p2⟩ := chkOne ih hz h1 ρ e w d' (by omega)
              have hf := hn f (by simp)
              simp only [List.forIn_cons, hf, ne_eq, not_false_eq_true, if_true, Sem.run_bind, p1, p2, Result.andThen_ok, Sem.run_pure]
              exact ihL _ h2 (fun g hg => hn g (by simp [hg]))
            · cases h
          · cases h
      · cases h
    · rename_i m el hu
      split at h
      · rename_i z hz
        rw [Instr.checkKey]
        simp only [Sem.run_bind, run_underlying (undB_und hu), Result.andThen_ok]
        simp only [Std.Legacy.Range.forIn_eq_forIn_range', Std.Legacy.Range.size, Nat.sub_zero, Nat.add_one_sub_one, Nat.div_one]
        clear hu
        generalize 0 = i0 at h ⊢
        induction m generalizing r i0 with
        | zero => simp
        | succ m ihm =>
          simp only [eqElems] at h
          split at h
          · rename_i s1 b1 s2 b2 h1 h2
            obtain ⟨x, p1, p2⟩ := chkOne ih hz h1 ρ e w d' (by omega)
            simp only [List.range'_succ, List.forIn_cons, Sem.run_bind, run_sizeOfB hz, p1, p2, Result.andThen_ok, Sem.run_pure]
            exact ihm _ _ h2
          · cases h
      · cases h
    · cases h

theorem keyEq_run {okt : TypeId → Bool} (hok : ∀ t, okt t = true → OkType P t) {t : TypeId} {x y : AV} {s b : Bool} (h : keyEq P okt t x y = some (s, b)) (ρ : Nat → Nat) (w : World) :
    (Op.equal t (x.den ρ) (y.den ρ)).run P w = .ok b w := by
  unfold keyEq at h
  split at h
  · exact aggEq_sound hok 8 t _ _ s b h ρ w 10000 (by omega)
  · split at h
    · rename_i hp
      simp only [Bool.and_eq_true] at hp
      exact plainType_eq hp.1 h ρ w 9999
    · cases h

theorem okKey_run {okt : TypeId → Bool} (hok : ∀ t, okt t = true → OkType P t) {t : TypeId} {x : AV} (h : okKey P okt t x = true) (ρ : Nat → Nat) (e : Bool) (w : World) :
    (Instr.checkKey e 10000 t (x.den ρ)).run P w = .ok () w := by
  unfold okKey at h
  split at h
  · rename_i r hr
    unfold keyEq at hr
    split at hr
    · exact aggChk hok 8 t _ _ r hr ρ e w 10000 (by omega)
    · split at hr
      · rename_i hp
        simp only [Bool.and_eq_true] at hp
        exact checkKey_plain hp.1 ρ e 9999 w
      · cases hr
  · cases h

/-- The entries of a map read as these. -/
def readsAs (ρ : Nat → Nat) (ents : List MapEntry) (es : List (AV × AV)) : Prop := ents.map (fun e => (e.key, e.val)) = es.map fun p => (p.1.den ρ, p.2.den ρ)

/-- What a search comes to. -/
def Found {α : Type} (ρ : Nat → Nat) (hit : Nat → AV → Tree α) (miss : Tree α) (Φ : α → Prop) (i : Nat) (es : List (AV × AV)) : Option (Nat × Value) → Prop
  | none => miss.all Φ
  | some (k, v) => ∃ j x, k = i + j ∧ es[j]? = some x ∧ v = x.2.den ρ ∧ (hit k x.2).all Φ

theorem findAsking_sound {α : Type} {okt : TypeId → Bool} (hok : ∀ t, okt t = true → OkType P t) {t : TypeId} {k : AV} (ρ : Nat → Nat) (w : World) {hit : Nat → AV → Tree α} {miss : Tree α} {Φ : α → Prop} :
    ∀ (es : List (AV × AV)) (ents : List MapEntry) (i : Nat), readsAs ρ ents es → (mapFind P okt t k hit miss i es).all Φ →
      ∃ r, (Instr.findAsking t (k.den ρ) ents i).run P w = .ok r w ∧ Found ρ hit miss Φ i es r
  | [], ents, i, hr, h => by
    have : ents = [] := by simpa [readsAs] using hr
    subst this
    exact ⟨none, by simp [Instr.findAsking], h⟩
  | (k', v) :: es, ents, i, hr, h => by
    cases ents with
    | nil => simp [readsAs] at hr
    | cons e ents =>
      simp only [readsAs, List.map_cons, List.cons.injEq, Prod.mk.injEq] at hr
      obtain ⟨⟨hk, hv⟩, hrest⟩ := hr
      simp only [mapFind] at h
      split at h
      · rename_i s b he
        obtain ⟨h1, h2⟩ := all_test h
        have hq := keyEq_run hok he ρ w
        cases b with
        | true =>
          refine ⟨some (i, e.val), by simp [Instr.findAsking, hk, hq], 0, (k', v), rfl, rfl, hv, ?_⟩
          exact h1 rfl
        | false =>
          obtain ⟨r, hrun, hf⟩ := findAsking_sound hok ρ w es ents (i + 1) hrest (h2 rfl)
          refine ⟨r, by simp [Instr.findAsking, hk, hq, hrun], ?_⟩
          cases r with
          | none => exact hf
          | some q =>
            obtain ⟨k0, v0⟩ := q
            obtain ⟨j, x, a1, a2, a3, a4⟩ := hf
            exact ⟨j + 1, x, by omega, by simpa using a2, a3, a4⟩
      · exact h.elim

theorem findNow_sound {α : Type} {okt : TypeId → Bool} {t : TypeId} {k : AV} {d : TypeDesc} (hd : undB P t = some d) (hk : plainType P t k = true) (ρ : Nat → Nat) {hit : Nat → AV → Tree α} {miss : Tree α} {Φ : α → Prop} :
    ∀ (es : List (AV × AV)) (ents : List MapEntry) (i : Nat), readsAs ρ ents es → (mapFind P okt t k hit miss i es).all Φ →
      ∃ r, Instr.findNow d (k.den ρ) ents i = some r ∧ Found ρ hit miss Φ i es r
  | [], ents, i, hr, h => by
    have : ents = [] := by simpa [readsAs] using hr
    subst this
    exact ⟨none, by simp [Instr.findNow], h⟩
  | (k', v) :: es, ents, i, hr, h => by
    cases ents with
    | nil => simp [readsAs] at hr
    | cons e ents =>
      simp only [readsAs, List.map_cons, List.cons.injEq, Prod.mk.injEq] at hr
      obtain ⟨⟨hke, hv⟩, hrest⟩ := hr
      simp only [mapFind] at h
      split at h
      · rename_i s b he
        obtain ⟨h1, h2⟩ := all_test h
        have hs : Instr.sameNow d (k.den ρ) (k'.den ρ) = some b := by
          unfold keyEq at he
          split at he
          · simp [plainType] at hk
          · split at he
            · rename_i hp
              simp only [Bool.and_eq_true] at hp
              have hk2 := hp.2
              cases k <;> cases k' <;> simp only [cellEq, reduceCtorEq] at he
              · simp only [Option.some.injEq, Prod.mk.injEq] at he
                simp only [plainType, hd] at hk
                cases d <;> simp only [Bool.false_eq_true] at hk
                simp [Instr.sameNow, AV.den, ← he.2]
              · split at he
                · rename_i hkk
                  subst hkk
                  simp only [Option.some.injEq, Prod.mk.injEq] at he
                  simp only [plainType, hd] at hk
                  cases d <;> simp only [Bool.false_eq_true] at hk
                  simp [Instr.sameNow, AV.den, ← he.2]
                · cases he
              · simp only [Option.some.injEq, Prod.mk.injEq] at he
                simp only [plainType, hd] at hk
                cases d <;> simp only [Bool.false_eq_true] at hk
                rw [bytes_beq] at he
                simp only [Instr.sameNow, AV.den, ← he.2]
            · cases he
        rw [← hke] at hs
        cases b with
        | true =>
          refine ⟨some (i, e.val), by simp [Instr.findNow, hs], 0, (k', v), rfl, rfl, hv, ?_⟩
          exact h1 rfl
        | false =>
          obtain ⟨r, hrun, hf⟩ := findNow_sound hd hk ρ es ents (i + 1) hrest (h2 rfl)
          refine ⟨r, by simp [Instr.findNow, hs, hrun], ?_⟩
          cases r with
          | none => exact hf
          | some q =>
            obtain ⟨k0, v0⟩ := q
            obtain ⟨j, x, a1, a2, a3, a4⟩ := hf
            exact ⟨j + 1, x, by omega, by simpa using a2, a3, a4⟩
      · exact h.elim

theorem findKey_sound {α : Type} {okt : TypeId → Bool} (hok : ∀ t, okt t = true → OkType P t) {t : TypeId} {k : AV} (hkey : okKey P okt t k = true) (ρ : Nat → Nat) (w : World) {hit : Nat → AV → Tree α} {miss : Tree α} {Φ : α → Prop}
    (es : List (AV × AV)) (ents : List MapEntry) (hr : readsAs ρ ents es) (h : (mapFind P okt t k hit miss 0 es).all Φ) :
    ∃ r, (Instr.findKey t (k.den ρ) ents).run P w = .ok r w ∧ Found ρ hit miss Φ 0 es r := by
  unfold okKey at hkey
  split at hkey
  · rename_i r hr'
    unfold keyEq at hr'
    split at hr'
    · rename_i xs
      have hd : ∃ d, P.underlying t = some d ∧ ((∃ fs, d = .struct fs) ∨ ∃ n e, d = .array n e) := by
        simp only [aggEq] at hr'
        split at hr'
        · rename_i fs hu; exact ⟨_, undB_und hu, .inl ⟨fs, rfl⟩⟩
        · rename_i n e hu; exact ⟨_, undB_und hu, .inr ⟨n, e, rfl⟩⟩
        · cases hr'
      obtain ⟨d, hd, hdd⟩ := hd
      cases ents with
      | nil =>
        have : es = [] := by have := hr; simp [readsAs] at this; simpa using this
        subst this
        exact ⟨none, by simp [Instr.findKey, run_underlying hd, Instr.findNow], h⟩
      | cons e ents =>
        obtain ⟨r, h1, h2⟩ := findAsking_sound hok ρ w es (e :: ents) 0 hr h
        refine ⟨r, ?_, h2⟩
        have hnone : Instr.findNow d ((AV.agg xs).den ρ) (e :: ents) 0 = none := by
          simp only [Instr.findNow, AV.den]
          have : Instr.sameNow d (.agg (denL ρ xs).toArray) e.key = none := by
            rcases hdd with ⟨fs, rfl⟩ | ⟨n, e', rfl⟩ <;> rfl
          rw [this]
        simp only [Instr.findKey, Sem.run_bind, run_underlying hd, Result.andThen_ok, hnone, h1]
    · split at hr'
      · rename_i hp
        simp only [Bool.and_eq_true] at hp
        have hd : ∃ d, undB P t = some d := by
          have := hp.1
          cases hu : undB P t with
          | some d => exact ⟨d, rfl⟩
          | none => cases k <;> simp [plainType, hu] at this
        obtain ⟨d, hd⟩ := hd
        obtain ⟨r, h1, h2⟩ := findNow_sound hd hp.1 ρ es ents 0 hr h
        refine ⟨r, ?_, h2⟩
        simp only [Instr.findKey, Sem.run_bind, run_underlying (undB_und hd), Result.andThen_ok, h1, Sem.run_pure]
      · cases hr'
  · cases hkey

variable {M : Type} {S : Seal M}

theorem lookupB_sound {okt : TypeId → Bool} (hok : ∀ t, okt t = true → OkType P t) {H : Hp M} {ρ : Nat → Nat} {F : Nat → Nat → Prop} {w : World} (hr : ∀ (l : Nat) (o : AO M), H[l]? = some o → o.rep S ρ (ρ l) (F l) w)
    {t : TypeId} {x k : AV} {c : Bool} {Φ : AV → Prop} (h : (lookupB P okt H t x k c).all Φ) : ∃ v, Φ v ∧ (Instr.lookup t (x.den ρ) (k.den ρ) c).run P w = .ok (v.den ρ) w := by
  unfold lookupB at h
  split at h
  · rename_i kt el hu
    split at h
    · rename_i z hz hkey
      simp only at h
      have hzero := run_zeroB hz ρ w
      split at h
      · refine ⟨_, h, ?_⟩
        simp only [Instr.lookup, AV.den, Sem.run_bind, run_underlying (undB_und hu), Result.andThen_ok, Sem.run_pure, okKey_run hok hkey]
        have hfk : (Instr.findKey kt (k.den ρ) []).run P w = .ok none w := by
          obtain ⟨r, h1, h2⟩ := findKey_sound (α := Unit) hok hkey ρ w (hit := fun _ _ => .stuck 0) (miss := .leaf ()) (Φ := fun _ => True) [] [] rfl trivial
          cases r with
          | none => exact h1
          | some q => obtain ⟨j, x, _, h3, _⟩ := h2; simp at h3
        simp only [Array.toList_empty, hfk, Result.andThen_ok, Sem.run_bind, hzero, Sem.run_pure]
        cases c <;> rfl
      · rename_i l
        split at h
        · rename_i es hl
          rw [lget_eq] at hl
          obtain ⟨_, ents, clock, hb, hread⟩ := hr l _ hl
          obtain ⟨r, h1, h2⟩ := findKey_sound hok hkey ρ w es ents.toList hread h
          have hg : (getObj (ρ l)).run P w = .ok (.map ents clock) w := by simp [getObj, Sem.run, hb]
          cases r with
          | none =>
            refine ⟨_, h2, ?_⟩
            simp only [Instr.lookup, AV.den, Sem.run_bind, run_underlying (undB_und hu), Result.andThen_ok, hg, Sem.run_pure, okKey_run hok hkey, h1, hzero]
            cases c <;> rfl
          | some q =>
            obtain ⟨i, v⟩ := q
            obtain ⟨j, p, _, _, hv, hΦ⟩ := h2
            refine ⟨_, hΦ, ?_⟩
            simp only [Instr.lookup, AV.den, Sem.run_bind, run_underlying (undB_und hu), Result.andThen_ok, hg, Sem.run_pure, okKey_run hok hkey, h1, hv]
            cases c <;> rfl
        · exact h.elim
      · exact h.elim
    · exact h.elim
  · exact h.elim

theorem mapUpdateB_sound {okt : TypeId → Bool} (hok : ∀ t, okt t = true → OkType P t) {H : Hp M} {ρ : Nat → Nat} {F : Nat → Nat → Prop} {w : World} (hr : ∀ (l : Nat) (o : AO M), H[l]? = some o → o.rep S ρ (ρ l) (F l) w)
    {t : TypeId} {x k v : AV} {Φ : Nat × AO M → Prop} (h : (mapUpdateB P okt H t x k v).all Φ) :
    ∃ l o' w', Φ (l, o') ∧ (∃ o, H[l]? = some o ∧ o.vis = true) ∧ o'.vis = true ∧ (Instr.mapUpdate t (x.den ρ) (k.den ρ) (v.den ρ)).run P w = .ok () w' ∧ o'.rep S ρ (ρ l) (F l) w' ∧ (∀ x, ¬ F l x → w'.heap[x]? = w.heap[x]?) ∧
      w'.heap.size = w.heap.size ∧ w'.os = w.os ∧ w'.tape = w.tape ∧ w'.output = w.output := by
  unfold mapUpdateB at h
  split at h
  · rename_i kt el l hu
    split at h
    · rename_i es hkey hl
      rw [lget_eq] at hl
      obtain ⟨hF, ents, clock, hb, hread⟩ := hr l _ hl
      obtain ⟨r, h1, h2⟩ := findKey_sound hok hkey ρ w es ents.toList hread h
      have hg : (getObj (ρ l)).run P w = .ok (.map ents clock) w := by simp [getObj, Sem.run, hb]
      have hlt : ρ l < w.heap.size := by
        rcases Nat.lt_or_ge (ρ l) w.heap.size with h | h
        · exact h
        · rw [Array.getElem?_eq_none h] at hb; cases hb
      have hset : ∀ o, (setObj (ρ l) o).run P w = .ok () { w with heap := w.heap.setIfInBounds (ρ l) o } := fun o => by
        simp [setObj, Sem.run, hb]
      cases r with
      | none =>
        refine ⟨l, _, { w with heap := w.heap.setIfInBounds (ρ l) (.map (ents.push { key := k.den ρ, val := v.den ρ, born := clock }) (clock + 1)) }, h2, ⟨_, hl, rfl⟩, rfl, ?_, ⟨hF, _, _, Array.getElem?_setIfInBounds_self_of_lt hlt, ?_⟩, fun x hx => ?_, by simp, rfl, rfl, rfl⟩
        · simp only [Instr.mapUpdate, AV.den, Sem.run_bind, run_underlying (undB_und hu), Result.andThen_ok, hg, okKey_run hok hkey, h1, hset]
        · simp only [Array.toList_push, List.map_append, List.map_cons, List.map_nil, lapp_eq]
          rw [hread]
        · exact Array.getElem?_setIfInBounds_ne (fun e => hx ((hF x).2 e.symm))
      | some q =>
        obtain ⟨i, v0⟩ := q
        obtain ⟨j, p, hj, hp, hv, hΦ⟩ := h2
        exact hΦ.elim
    · exact h.elim
  · exact h.elim
end
end Go.SX
