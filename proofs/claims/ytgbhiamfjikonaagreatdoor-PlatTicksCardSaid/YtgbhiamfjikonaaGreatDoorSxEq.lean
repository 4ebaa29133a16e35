/- SX: equality, integers, conversions. -/
import Derived.Test.YtgbhiamfjikonaaGreatDoorSxVal
import Derived.ChangeKeysEq
namespace Go.SX
section
variable {P : Program}

/-- What is owed for a type whose aggregates are compared. -/
structure OkType (P : Program) (t : TypeId) : Prop where
  held : P.stoodInHeld t = false
  guard : P.eqGuardType P.depth t = false
  names : ∀ fs, P.underlying t = some (.struct fs) → ∀ f ∈ fs.toList, f.name ≠ "_"

theorem bytes_beq (x y : ByteArray) : (x.data.toList == y.data.toList) = (x == y) := by
  rw [beq_toListBytes, ByteArray.toList_eq, ByteArray.toList_eq]

theorem extract_den (ρ : Nat → Nat) (cs : List AV) (o n : Nat) (l : List AV) (h : ltake cs o n = some l) : (denL ρ cs).toArray.extract o (o + n) = (denL ρ l).toArray := by
  obtain ⟨h1, h2⟩ := ltake_spec cs o n l h
  apply Array.ext_getElem?
  intro j
  simp only [Array.getElem?_extract, List.size_toArray, denL_eq, List.length_map, List.getElem?_toArray, List.getElem?_map]
  by_cases hj : j < n
  · have hp := ltake_len cs o n l h (by omega)
    rw [if_pos (by omega), h2 j hj]
  · rw [if_neg (by omega), List.getElem?_eq_none (by omega)]; rfl

theorem run_part_sx {t : TypeId} {g : Bool} {n : Nat} (hg : isAggB P t = some g) (hn : sizeB P t = some n) (ρ : Nat → Nat) (cs : List AV) (o : Nat) (w : World) (l : List AV) (v : AV)
    (h : (g = true ∧ ltake cs o n = some l ∧ v = .agg l) ∨ (g = false ∧ lget cs o = some v)) :
    (part t (denL ρ cs).toArray o).run P w = .ok (v.den ρ) w := by
  rcases h with ⟨rfl, hl, rfl⟩ | ⟨rfl, hl⟩
  · simp only [part, Sem.run_bind, run_isAggB hg, Result.andThen_ok, if_true, run_sizeOfB hn, extract_den ρ cs o n l hl]
    rfl
  · rw [lget_eq] at hl
    have : (denL ρ cs).toArray[o]? = some (v.den ρ) := by simp [denL_eq, hl]
    simp [part, Sem.run_bind, run_isAggB hg, this]

theorem plainType_eq {t : TypeId} {x y : AV} (hx : plainType P t x = true) {s b : Bool} (h : cellEq x y = some (s, b)) (ρ : Nat → Nat) (w : World) (d : Nat) :
    (Op.equalIn (d + 1) t (x.den ρ) (y.den ρ)).run P w = .ok b w := by
  cases x <;> cases y <;> simp only [cellEq, reduceCtorEq] at h
  · simp only [Option.some.injEq, Prod.mk.injEq] at h
    simp only [plainType] at hx
    cases hu : undB P t with
    | none => rw [hu] at hx; cases hx
    | some k =>
      rw [hu] at hx
      cases k <;> simp only [Bool.false_eq_true] at hx
      simp only [AV.den, ← h.2]; exact run_equalIn_bool' w d t _ _ (undB_und hu)
  · split at h
    · rename_i hk
      subst hk
      simp only [Option.some.injEq, Prod.mk.injEq] at h
      simp only [plainType] at hx
      cases hu : undB P t with
      | none => rw [hu] at hx; cases hx
      | some k =>
        rw [hu] at hx
        cases k <;> simp only [Bool.false_eq_true] at hx
        simp only [AV.den, ← h.2]; exact run_equalIn_int w d t _ _ _ _ (undB_und hu)
    · cases h
  · simp only [Option.some.injEq, Prod.mk.injEq] at h
    simp only [plainType] at hx
    cases hu : undB P t with
    | none => rw [hu] at hx; cases hx
    | some k =>
      rw [hu] at hx
      cases k <;> simp only [Bool.false_eq_true] at hx
      simp only [AV.den, ← h.2]; rw [run_equalIn_string w d t _ _ (undB_und hu), bytes_beq, beq_toListBytes]

/-- What a comparison of aggregates owes. -/
def EqOK (P : Program) (n : Nat) (re : TypeId → List AV → List AV → Option (Bool × Bool)) : Prop :=
  ∀ t xs ys s b, re t xs ys = some (s, b) → ∀ ρ w d, n < d → (Op.equalIn d t (.agg (denL ρ xs).toArray) (.agg (denL ρ ys).toArray)).run P w = .ok b w

theorem eqOne_sound {re : TypeId → List AV → List AV → Option (Bool × Bool)} {n : Nat} (hre : EqOK P n re) {t : TypeId} {xs ys : List AV} {o z : Nat} {s b : Bool} (hz : sizeB P t = some z)
    (h : eqOne P re t xs ys o z = some (s, b)) (ρ : Nat → Nat) (w : World) (d : Nat) (hd : n < d) :
    ∃ x y : Value, (part t (denL ρ xs).toArray o).run P w = .ok x w ∧ (part t (denL ρ ys).toArray o).run P w = .ok y w ∧ (Op.equalIn d t x y).run P w = .ok b w := by
  unfold eqOne at h
  split at h
  · rename_i a a' hx hy hg
    exact ⟨_, _, run_part_sx hg hz ρ xs o w a (.agg a) (.inl ⟨rfl, hx, rfl⟩), run_part_sx hg hz ρ ys o w a' (.agg a') (.inl ⟨rfl, hy, rfl⟩), hre t a a' s b h ρ w d hd⟩
  · rename_i a a' hx hy hg
    split at h
    · rename_i hp
      simp only [Bool.and_eq_true] at hp
      obtain ⟨d', rfl⟩ : ∃ d', d = d' + 1 := ⟨d - 1, by omega⟩
      have hone : ∀ {l : List AV} {v : AV}, ltake l o z = some [v] → lget l o = some v := by
        intro l v hl
        obtain ⟨e1, e2⟩ := ltake_spec l o z [v] hl
        have := e2 0 (by simp at e1; omega)
        rw [lget_eq]; simpa using this.symm
      exact ⟨_, _, run_part_sx hg hz ρ xs o w [] a (.inr ⟨rfl, hone hx⟩), run_part_sx hg hz ρ ys o w [] a' (.inr ⟨rfl, hone hy⟩), plainType_eq hp.1 h ρ w d'⟩
    · cases h
  · cases h

theorem eqFields_sound {re : TypeId → List AV → List AV → Option (Bool × Bool)} {n : Nat} (hre : EqOK P n re) (ρ : Nat → Nat) (xs ys : List AV) (w : World) (d : Nat) (hd : n < d) :
    ∀ (fs : List Field) (s b : Bool), (∀ f ∈ fs, f.name ≠ "_") → eqFields P re fs xs ys = some (s, b) → (Op.eqFields d (denL ρ xs).toArray (denL ρ ys).toArray fs).run P w = .ok b w
  | [], s, b, _, h => by
    simp only [eqFields, Option.some.injEq, Prod.mk.injEq] at h
    simp [Op.eqFields, ← h.2]
  | f :: fs, s, b, hn, h => by
    simp only [eqFields] at h
    split at h
    · rename_i z hz
      split at h
      · rename_i s1 b1 s2 b2 h1 h2
        simp only [Option.some.injEq, Prod.mk.injEq] at h
        obtain ⟨x, y, p1, p2, p3⟩ := eqOne_sound hre hz h1 ρ w d hd
        have ih := eqFields_sound hre ρ xs ys w d hd fs s2 b2 (fun g hg => hn g (by simp [hg])) h2
        simp only [Op.eqFields, hn f (by simp), ne_eq, not_false_eq_true, if_true, Sem.run_bind, p1, p2, p3, Result.andThen_ok]
        rw [← h.2]
        cases b1
        · simp
        · simpa using ih
      · cases h
    · cases h

theorem eqElems_sound {re : TypeId → List AV → List AV → Option (Bool × Bool)} {n : Nat} (hre : EqOK P n re) (ρ : Nat → Nat) (xs ys : List AV) (w : World) (d : Nat) (hd : n < d) {e : TypeId} {z : Nat} (hz : sizeB P e = some z) :
    ∀ (m i : Nat) (s b : Bool), eqElems P re m i z e xs ys = some (s, b) → (Op.eqItems d e z (denL ρ xs).toArray (denL ρ ys).toArray (List.range' i m)).run P w = .ok b w
  | 0, i, s, b, h => by
    simp only [eqElems, Option.some.injEq, Prod.mk.injEq] at h
    simp [Op.eqItems, ← h.2]
  | m + 1, i, s, b, h => by
    simp only [eqElems] at h
    split at h
    · rename_i s1 b1 s2 b2 h1 h2
      simp only [Option.some.injEq, Prod.mk.injEq] at h
      obtain ⟨x, y, p1, p2, p3⟩ := eqOne_sound hre hz h1 ρ w d hd
      have ih := eqElems_sound hre ρ xs ys w d hd hz m (i + 1) s2 b2 h2
      simp only [List.range'_succ, Op.eqItems, Sem.run_bind, p1, p2, p3, Result.andThen_ok]
      rw [← h.2]
      cases b1
      · simp
      · simpa using ih
    · cases h

theorem aggEq_sound {okt : TypeId → Bool} (hok : ∀ t, okt t = true → OkType P t) : ∀ n, EqOK P n (aggEq P okt n)
  | 0 => fun t xs ys s b h => by simp [aggEq] at h
  | n + 1 => by
    intro t xs ys s b h ρ w d hd
    have ih := aggEq_sound hok n
    obtain ⟨d', rfl⟩ : ∃ d', d = d' + 1 := ⟨d - 1, by omega⟩
    simp only [aggEq] at h
    split at h
    · rename_i fs hu
      split at h
      · rename_i ht
        have hu' := undB_und hu
        have hfs : P.fieldsOf t = fs := by simp [Program.fieldsOf, hu']
        rw [run_equalIn_struct w d' t _ _ (by rw [hfs]; exact hu') (hok t ht).held, hfs]
        exact eqFields_sound ih ρ xs ys w d' (by omega) fs.toList s b ((hok t ht).names fs hu') h
      · cases h
    · rename_i m e hu
      split at h
      · rename_i z hz
        have hz' := hz
        unfold sizeB at hz'
        split at hz'
        · rename_i i hi
          simp only [Option.some.injEq] at hz'
          rw [run_equalIn_array w d' _ _ (undB_und hu) (infoB_info hi)]
          have hc : P.cellsOf e = z := by simp [Program.cellsOf, infoB_info hi, hz']
          rw [hc, List.range_eq_range']
          exact eqElems_sound ih ρ xs ys w d' (by omega) hz m 0 s b h
        · cases hz'
      · cases h
    · cases h

theorem eqGuard_skip {op : BinOp} {t : TypeId} {x y : Operand} {a b : Value} (h : (∀ c d, a = .agg c → b = .agg d → P.eqGuardType P.depth t = false) ∧ ¬ (a = .nilIface ∧ b = .nilIface)) (w : World) :
    (eqGuard op t x y a b).run P w = .ok () w := by
  have key : (match a, b with
      | .nilIface, .nilIface =>
        if (x matches .const _) || (y matches .const _) then (pure () : Sem Unit) else do
        if ← Op.eqGuardIn Op.maxDepth t a b then unsupported (.noEntry "binop/eql: two nil values of an interface type with methods, neither of them the literal nil")
      | .agg _, .agg _ => do
        if !(← program).eqGuardType (← program).depth t then return
        if ← Op.eqGuardIn Op.maxDepth t a b then unsupported (.noEntry "binop/eql: two nil values of an interface type with methods, in a part of a struct or an array")
      | _, _ => pure ()).run P w = .ok () w := by
    split
    · exact absurd ⟨rfl, rfl⟩ h.2
    · simp [Sem.run_bind, h.1 _ _ rfl rfl]
    · simp
  unfold eqGuard
  cases op <;> first | rfl | exact key

theorem intBin_sound {op : BinOp} {s : Bool} {k : IntKind} {x y : Int} {t : TypeId} {Φ : AV → Prop} (hop : op ≠ .shl ∧ op ≠ .shr) (h : (intBin op s k x y).all Φ) (w : World) (ρ : Nat → Nat) :
    ∃ v, Φ v ∧ (binOp op t (.int k x) (.int k y)).run P w = .ok (v.den ρ) w := by
  cases op <;> simp only [intBin] at h <;> first
    | exact h.elim
    | exact ⟨_, h, by simp [binOp, Op.intArith, Op.intBits, Op.intCmp, AV.den]⟩
    | (obtain ⟨h1, h2⟩ := all_test h
       by_cases hy : y = 0
       · exact (h1 (by simpa using hy)).elim
       · exact ⟨_, h2 (by simpa using hy), by simp [binOp, Op.intDiv, hy, AV.den]⟩)

/-- Equality by type, and the test that the model makes ahead of it. -/
structure EqRun (P : Program) (t : TypeId) (x y : Value) (b : Bool) : Prop where
  eql : ∀ w, (binOp .eql t x y).run P w = .ok (.bool b) w
  neq : ∀ w, (binOp .neq t x y).run P w = .ok (.bool (!b)) w
  agg : ∀ c d, x = .agg c → y = .agg d → P.eqGuardType P.depth t = false
  nil : ¬ (x = .nilIface ∧ y = .nilIface)

theorem undB_case {t : TypeId} {α : Type} {f : TypeDesc → Option α} {r : α} (h : (match undB P t with | some d => f d | none => none) = some r) : ∃ d, P.underlying t = some d ∧ f d = some r := by
  cases hu : undB P t with
  | none => rw [hu] at h; cases h
  | some d => rw [hu] at h; exact ⟨d, undB_und hu, h⟩

theorem EqRun.of_equal {t : TypeId} {x y : Value} {b : Bool} (h : ∀ w, (Op.equal t x y).run P w = .ok b w)
    (hx : (∀ k n, x ≠ .int k n) ∧ (∀ k n, x ≠ .float k n) ∧ (∀ k m n, x ≠ .complex k m n) ∧ (∀ s, x ≠ .string s))
    (agg : ∀ c d, x = .agg c → y = .agg d → P.eqGuardType P.depth t = false) (nil : ¬ (x = .nilIface ∧ y = .nilIface)) : EqRun P t x y b := by
  have e1 : ∀ w, (binOp .eql t x y).run P w = .ok (.bool b) w := by
    intro w
    cases x <;> first
      | exact absurd rfl (hx.1 _ _)
      | exact absurd rfl (hx.2.1 _ _)
      | exact absurd rfl (hx.2.2.1 _ _ _)
      | exact absurd rfl (hx.2.2.2 _)
      | simp [binOp, h w]
  have e2 : ∀ w, (binOp .neq t x y).run P w = .ok (.bool (!b)) w := by
    intro w
    cases x <;> first
      | exact absurd rfl (hx.1 _ _)
      | exact absurd rfl (hx.2.1 _ _)
      | exact absurd rfl (hx.2.2.1 _ _ _)
      | exact absurd rfl (hx.2.2.2 _)
      | simp [binOp, h w]
  exact ⟨e1, e2, agg, nil⟩

theorem cell_eqRun {t : TypeId} {x y : AV} {s b : Bool} (hx : plainType P t x = true) (h : cellEq x y = some (s, b)) (ρ : Nat → Nat) : EqRun P t (x.den ρ) (y.den ρ) b := by
  have hp := fun w => plainType_eq hx h ρ w 9999
  cases x <;> cases y <;> simp only [cellEq, reduceCtorEq] at h
  · refine EqRun.of_equal hp ?_ ?_ ?_ <;> simp [AV.den]
  · split at h
    · rename_i hk
      subst hk
      simp only [Option.some.injEq, Prod.mk.injEq] at h
      refine ⟨fun w => ?_, fun w => ?_, fun c d hc => by simp [AV.den] at hc, fun hc => by simp [AV.den] at hc⟩ <;> simp [binOp, Op.intCmp, AV.den, ← h.2, bne]
    · cases h
  · simp only [Option.some.injEq, Prod.mk.injEq] at h
    refine ⟨fun w => ?_, fun w => ?_, fun c d hc => by simp [AV.den] at hc, fun hc => by simp [AV.den] at hc⟩ <;> simp [binOp, Op.stringOp, AV.den, ← h.2, ByteArray.toList_eq]

theorem equal_ptr1 {t e : TypeId} (h : P.underlying t = some (.pointer e)) (w : World) (d : Nat) (b : Option Addr) (r : Bool) (hr : b.isNone = r) : (Op.equalIn (d + 1) t (.pointer none) (.pointer b)).run P w = .ok r w := by
  simp [Op.equalIn, run_underlying h, hr]
theorem equal_ptr2 {t e : TypeId} (h : P.underlying t = some (.pointer e)) (w : World) (d : Nat) (a : Addr) (r : Bool) (hr : r = false) : (Op.equalIn (d + 1) t (.pointer (some a)) (.pointer none)).run P w = .ok r w := by
  simp [Op.equalIn, run_underlying h, hr]
theorem equal_fn1 {t : TypeId} {ps rs : Array TypeId} {v : Bool} (h : P.underlying t = some (.func ps rs v)) (w : World) (d : Nat) (r : Bool) (hr : r = true) : (Op.equalIn (d + 1) t .nilFunc .nilFunc).run P w = .ok r w := by
  simp [Op.equalIn, run_underlying h, hr]
theorem equal_fn2 {t : TypeId} {ps rs : Array TypeId} {v : Bool} (h : P.underlying t = some (.func ps rs v)) (w : World) (d : Nat) (f : Fn) (a b : Array Value) (r : Bool) (hr : r = false) : (Op.equalIn (d + 1) t .nilFunc (.func f a b)).run P w = .ok r w := by
  simp [Op.equalIn, run_underlying h, hr]
theorem equal_fn3 {t : TypeId} {ps rs : Array TypeId} {v : Bool} (h : P.underlying t = some (.func ps rs v)) (w : World) (d : Nat) (f : Fn) (a b : Array Value) (r : Bool) (hr : r = false) : (Op.equalIn (d + 1) t (.func f a b) .nilFunc).run P w = .ok r w := by
  simp [Op.equalIn, run_underlying h, hr]
theorem equal_sl1 {t e : TypeId} (h : P.underlying t = some (.slice e)) (w : World) (d : Nat) (b : Option Addr) (n c : Nat) (r : Bool) (hr : b.isNone = r) : (Op.equalIn (d + 1) t (.slice none 0 0) (.slice b n c)).run P w = .ok r w := by
  simp [Op.equalIn, run_underlying h, hr]
theorem equal_sl2 {t e : TypeId} (h : P.underlying t = some (.slice e)) (w : World) (d : Nat) (b : Addr) (n c : Nat) (r : Bool) (hr : r = false) : (Op.equalIn (d + 1) t (.slice (some b) n c) (.slice none 0 0)).run P w = .ok r w := by
  simp [Op.equalIn, run_underlying h, hr]

theorem eqB_sound {okt : TypeId → Bool} (hok : ∀ t, okt t = true → OkType P t) {t : TypeId} {x y : AV} {s b : Bool} (h : eqB P okt t x y = some (s, b)) (ρ : Nat → Nat) :
    EqRun P t (x.den ρ) (y.den ρ) b := by
  unfold eqB at h
  split at h
  · cases hu : undB P t with
    | none => rw [hu] at h; cases h
    | some d =>
      rw [hu] at h
      cases d <;> simp only [reduceCtorEq, Option.some.injEq, Prod.mk.injEq] at h
      rw [← h.2]
      refine EqRun.of_equal (fun w => equal_ptr1 (undB_und hu) w 9999 _ _ rfl) ?_ ?_ ?_ <;> simp [AV.den]
  · cases hu : undB P t with
    | none => rw [hu] at h; cases h
    | some d =>
      rw [hu] at h
      cases d <;> simp only [reduceCtorEq, Option.some.injEq, Prod.mk.injEq] at h
      rw [← h.2]
      refine EqRun.of_equal (fun w => equal_ptr1 (undB_und hu) w 9999 _ _ rfl) ?_ ?_ ?_ <;> simp [AV.den]
  · cases hu : undB P t with
    | none => rw [hu] at h; cases h
    | some d =>
      rw [hu] at h
      cases d <;> simp only [reduceCtorEq, Option.some.injEq, Prod.mk.injEq] at h
      rw [← h.2]
      refine EqRun.of_equal (fun w => equal_ptr2 (undB_und hu) w 9999 _ _ rfl) ?_ ?_ ?_ <;> simp [AV.den]
  · cases hu : undB P t with
    | none => rw [hu] at h; cases h
    | some d =>
      rw [hu] at h
      cases d <;> simp only [reduceCtorEq, Option.some.injEq, Prod.mk.injEq] at h
      rw [← h.2]
      refine EqRun.of_equal (fun w => equal_ptr1 (undB_und hu) w 9999 _ _ rfl) ?_ ?_ ?_ <;> simp [AV.den]
  · cases hu : undB P t with
    | none => rw [hu] at h; cases h
    | some d =>
      rw [hu] at h
      cases d <;> simp only [reduceCtorEq, Option.some.injEq, Prod.mk.injEq] at h
      rw [← h.2]
      refine EqRun.of_equal (fun w => equal_ptr2 (undB_und hu) w 9999 _ _ rfl) ?_ ?_ ?_ <;> simp [AV.den]
  · cases hu : undB P t with
    | none => rw [hu] at h; cases h
    | some d =>
      rw [hu] at h
      cases d <;> simp only [reduceCtorEq, Option.some.injEq, Prod.mk.injEq] at h
      rw [← h.2]
      refine EqRun.of_equal (fun w => equal_fn1 (undB_und hu) w 9999 _ rfl) ?_ ?_ ?_ <;> simp [AV.den]
  · cases hu : undB P t with
    | none => rw [hu] at h; cases h
    | some d =>
      rw [hu] at h
      cases d <;> simp only [reduceCtorEq, Option.some.injEq, Prod.mk.injEq] at h
      rw [← h.2]
      refine EqRun.of_equal (fun w => equal_fn2 (undB_und hu) w 9999 _ _ _ _ rfl) ?_ ?_ ?_ <;> simp [AV.den]
  · cases hu : undB P t with
    | none => rw [hu] at h; cases h
    | some d =>
      rw [hu] at h
      cases d <;> simp only [reduceCtorEq, Option.some.injEq, Prod.mk.injEq] at h
      rw [← h.2]
      refine EqRun.of_equal (fun w => equal_fn3 (undB_und hu) w 9999 _ _ _ _ rfl) ?_ ?_ ?_ <;> simp [AV.den]
  · cases hu : undB P t with
    | none => rw [hu] at h; cases h
    | some d =>
      rw [hu] at h
      cases d <;> simp only [reduceCtorEq, Option.some.injEq, Prod.mk.injEq] at h
      rw [← h.2]
      refine EqRun.of_equal (fun w => equal_sl1 (undB_und hu) w 9999 _ _ _ _ rfl) ?_ ?_ ?_ <;> simp [AV.den]
  · cases hu : undB P t with
    | none => rw [hu] at h; cases h
    | some d =>
      rw [hu] at h
      cases d <;> simp only [reduceCtorEq, Option.some.injEq, Prod.mk.injEq] at h
      rw [← h.2]
      refine EqRun.of_equal (fun w => equal_sl2 (undB_und hu) w 9999 _ _ _ _ rfl) ?_ ?_ ?_ <;> simp [AV.den]
  · cases hu : undB P t with
    | none => rw [hu] at h; cases h
    | some d =>
      rw [hu] at h
      cases d <;> simp only [reduceCtorEq, Option.some.injEq, Prod.mk.injEq] at h
      rw [← h.2]
      refine EqRun.of_equal (fun w => equal_sl1 (undB_und hu) w 9999 _ _ _ _ rfl) ?_ ?_ ?_ <;> simp [AV.den]
  · cases hu : undB P t with
    | none => rw [hu] at h; cases h
    | some d =>
      rw [hu] at h
      cases d <;> simp only [reduceCtorEq, Option.some.injEq, Prod.mk.injEq] at h
      rw [← h.2]
      refine EqRun.of_equal (fun w => equal_sl2 (undB_und hu) w 9999 _ _ _ _ rfl) ?_ ?_ ?_ <;> simp [AV.den]
  · cases hu : undB P t with
    | none => rw [hu] at h; cases h
    | some d =>
      rw [hu] at h
      cases d <;> simp only [reduceCtorEq, Option.some.injEq, Prod.mk.injEq] at h
      rw [← h.2]
      refine EqRun.of_equal (fun w => equal_sl1 (undB_und hu) w 9999 _ _ _ _ rfl) ?_ ?_ ?_ <;> simp [AV.den]
  · split at h
    · rename_i xs ys ht
      refine EqRun.of_equal (fun w => aggEq_sound hok 8 t _ _ s b h ρ w 10000 (by omega)) ?_ ?_ ?_ <;> simp [AV.den, (hok t ht).guard]
    · cases h
  · split at h
    · rename_i hp
      simp only [Bool.and_eq_true] at hp
      exact cell_eqRun hp.1 h ρ
    · cases h

theorem binB_sound {okt : TypeId → Bool} (hok : ∀ t, okt t = true → OkType P t) {op : BinOp} {t : TypeId} {x y : AV} {Φ : AV → Prop} (h : (binB P okt op t x y).all Φ) (ρ : Nat → Nat) (w : World) (a b : Operand) :
    ∃ v, Φ v ∧ (do eqGuard op t a b (x.den ρ) (y.den ρ); binOp op t (x.den ρ) (y.den ρ) : Sem Value).run P w = .ok (v.den ρ) w := by
  have ints : ∀ (s s' : Bool) (k k' : IntKind) (m n : Int), (do eqGuard op t a b (.int k m) (.int k' n); binOp op t (.int k m) (.int k' n) : Sem Value).run P w = (binOp op t (.int k m) (.int k' n)).run P w := by
    intro s s' k k' m n
    simp only [Sem.run_bind]
    rw [eqGuard_skip ⟨fun c d hc => by simp at hc, fun hc => by simp at hc⟩]
    rfl
  unfold binB at h
  split at h
  · rename_i s k m s' k' n
    obtain ⟨h1, h2⟩ := all_test h
    by_cases hn : n < 0
    · exact (h1 (by simpa using hn)).elim
    · refine ⟨_, h2 (by simpa using hn), ?_⟩
      simp only [AV.den]
      rw [ints s s']
      simp [binOp, Op.shift, hn]
  · rename_i s k m s' k' n
    obtain ⟨h1, h2⟩ := all_test h
    by_cases hn : n < 0
    · exact (h1 (by simpa using hn)).elim
    · refine ⟨_, h2 (by simpa using hn), ?_⟩
      simp only [AV.den]
      rw [ints s s']
      simp [binOp, Op.shift, hn]
  · rename_i s k m s' k' n hne1 hne2
    split at h
    · rename_i hk
      subst hk
      have hop : op ≠ .shl ∧ op ≠ .shr := ⟨fun e => hne1 e, fun e => hne2 e⟩
      obtain ⟨v, hv, hr⟩ := intBin_sound (P := P) (t := t) hop h w ρ
      refine ⟨v, hv, ?_⟩
      simp only [AV.den]
      rw [ints s s']
      exact hr
    · exact h.elim
  · split at h
    · rename_i s b' he
      have hE := eqB_sound hok he ρ
      refine ⟨_, h, ?_⟩
      simp only [Sem.run_bind]
      rw [eqGuard_skip ⟨hE.agg, hE.nil⟩]
      exact hE.eql w
    · exact h.elim
  · split at h
    · rename_i s b' he
      have hE := eqB_sound hok he ρ
      refine ⟨_, h, ?_⟩
      simp only [Sem.run_bind]
      rw [eqGuard_skip ⟨hE.agg, hE.nil⟩]
      exact hE.neq w
    · exact h.elim
  · exact h.elim

theorem unB_sound {op : UnOp} {x : AV} {Φ : AV → Prop} (h : (unB op x).all Φ) (ρ : Nat → Nat) (w : World) : ∃ v, Φ v ∧ (Op.unary op (x.den ρ)).run P w = .ok (v.den ρ) w := by
  unfold unB at h
  split at h
  · exact ⟨_, h, by simp [AV.den, Op.unary, Op.intArith]⟩
  · exact ⟨_, h, by simp [AV.den, Op.unary]⟩
  · exact h.elim

theorem convB_sound {s d : TypeId} {x : AV} {Φ : AV → Prop} (h : (convB P s d x).all Φ) (ρ : Nat → Nat) (w : World) : ∃ v, Φ v ∧ (convert s d (x.den ρ)).run P w = .ok (v.den ρ) w := by
  unfold convB at h
  split at h
  · rename_i hs hd
    exact ⟨_, h, by simp [AV.den, convert, run_underlying (undB_und hs), run_underlying (undB_und hd), Conv.intToInt]⟩
  · rename_i hs hd
    exact ⟨_, h, by simp [AV.den, convert, run_underlying (undB_und hs), run_underlying (undB_und hd)]⟩
  · exact h.elim
end
end Go.SX
