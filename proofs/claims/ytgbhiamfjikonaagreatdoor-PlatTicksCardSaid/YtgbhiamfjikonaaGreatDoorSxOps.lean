/- SX: places, indexes, slices, fields, maps, builtins. -/
import Derived.Test.YtgbhiamfjikonaaGreatDoorSxEq
import Derived.MapKept
import Derived.DeepKeys3
set_option linter.unusedVariables false
set_option linter.unusedSimpArgs false
namespace Go.SX
section
variable {P : Program}

theorem splitIdx_sound {i : Int} {f : Nat → Tree AV} {Φ : AV → Prop} : ∀ (n m : Nat), (splitIdx i n m f).all Φ → ∃ k, m ≤ k ∧ k < m + n ∧ i = (k : Int) ∧ (f k).all Φ
  | 0, m, h => h.elim
  | n + 1, m, h => by
    obtain ⟨h1, h2⟩ := h
    by_cases hi : i = (m : Int)
    · exact ⟨m, Nat.le_refl _, by omega, hi, h1 (by simpa using hi)⟩
    · obtain ⟨k, a, b, c, d⟩ := splitIdx_sound n (m + 1) (h2 (by simpa using hi))
      exact ⟨k, by omega, by omega, c, d⟩

theorem run_asIntOf (k : IntKind) (n : Int) (w : World) : (asIntOf (.int k n)).run P w = .ok (k, n) w := rfl

theorem run_indexAt_array {t e : TypeId} {len y : Nat} {b o : Nat} {k : IntKind} {n : Int} (hu : P.underlying t = some (.array len e)) (hy : ∀ w, (sizeOf e).run P w = .ok y w) (h0 : 0 ≤ n) (h1 : n < len) (w : World) :
    (Instr.indexAt t (.pointer (some ⟨b, o, none⟩)) (.int k n)).run P w = .ok (.pointer (some ⟨b, o + n.toNat * y, none⟩)) w := by
  simp [Instr.indexAt, run_asIntOf, run_underlying hu, sureAddr_run, hy, h0, h1, add_zero']

theorem run_indexAt_slice {t e : TypeId} {len cap y : Nat} {b o : Nat} {k : IntKind} {n : Int} (hu : P.underlying t = some (.slice e)) (hy : ∀ w, (sizeOf e).run P w = .ok y w) (h0 : 0 ≤ n) (h1 : n < len) (w : World) :
    (Instr.indexAt t (.slice (some ⟨b, o, none⟩) len cap) (.int k n)).run P w = .ok (.pointer (some ⟨b, o + n.toNat * y, none⟩)) w := by
  simp [Instr.indexAt, run_asIntOf, run_underlying hu, hy, h0, h1, add_zero']

theorem indexAddrB_sound {M : Type} {cfg : Cfg M} (hP : cfg.P = P) {t : TypeId} {x i : AV} {Φ : AV → Prop} (h : (indexAddrB cfg t x i).all Φ) (ρ : Nat → Nat) (w : World) :
    ∃ v, Φ v ∧ (Instr.indexAt t (x.den ρ) (i.den ρ)).run P w = .ok (v.den ρ) w := by
  subst hP
  unfold indexAddrB at h
  split at h
  · rename_i len e l a z o s k n hu
    split at h
    · rename_i y hy
      split at h
      · split at h
        · rename_i hb
          exact ⟨_, h, by simp only [AV.den]; rw [run_indexAt_array (undB_und hu) (run_sizeOfB hy) hb.1 hb.2, Nat.add_assoc]⟩
        · exact h.elim
      · split at h
        · obtain ⟨h1, h2⟩ := h
          by_cases hb : 0 ≤ n ∧ n < len
          · refine ⟨_, h1 (by simpa using hb), ?_⟩
            simp only [AV.den]
            rw [run_indexAt_array (undB_und hu) (run_sizeOfB hy) hb.1 hb.2]
            simp
          · exact (h2 (by simpa using hb)).elim
        · exact h.elim
    · exact h.elim
  · rename_i len e l a m z o f k n hu
    split at h
    · rename_i y hy
      split at h
      · rename_i hb
        exact ⟨_, h, by simp only [AV.den]; rw [run_indexAt_array (undB_und hu) (run_sizeOfB hy) hb.1 hb.2, Nat.add_assoc]⟩
      · exact h.elim
    · exact h.elim
  · rename_i e s l a z len c s' k n hu
    split at h
    · rename_i y hy
      split at h
      · split at h
        · rename_i hb
          exact ⟨_, h, by simp only [AV.den]; rw [run_indexAt_slice (undB_und hu) (run_sizeOfB hy) hb.1 hb.2]; simp⟩
        · exact h.elim
      · split at h
        · rename_i hz
          have hz := Nat.eq_of_beq_eq_true hz
          subst hz
          obtain ⟨h1, h2⟩ := h
          by_cases hb : 0 ≤ n ∧ n < len
          · refine ⟨_, h1 (by simpa using hb), ?_⟩
            simp only [AV.den]
            rw [run_indexAt_slice (undB_und hu) (run_sizeOfB hy) hb.1 hb.2, Nat.add_mul]
            rfl
          · exact (h2 (by simpa using hb)).elim
        · exact h.elim
    · exact h.elim
  · rename_i e l lc z len s k n hu
    split at h
    · rename_i y hy
      split at h
      · rename_i hz
        have hz := Nat.eq_of_beq_eq_true hz
        subst hz
        split at h
        · split at h
          · rename_i hb
            exact ⟨_, h, by simp only [AV.den]; rw [run_indexAt_slice (undB_und hu) (run_sizeOfB hy) hb.1 hb.2]⟩
          · exact h.elim
        · split at h
          · obtain ⟨m, h1, h2, h3, h4⟩ := splitIdx_sound _ _ h
            refine ⟨_, h4, ?_⟩
            subst h3
            simp only [AV.den]
            rw [run_indexAt_slice (undB_und hu) (run_sizeOfB hy) (by omega) (by omega)]
            simp only [Int.toNat_natCast, Nat.zero_mul, Nat.zero_add]
          · exact h.elim
      · exact h.elim
    · exact h.elim
  · exact h.elim

theorem ltake_one {l : List AV} {o n : Nat} {v : AV} (h : ltake l o n = some [v]) : n = 1 ∧ lget l o = some v := by
  obtain ⟨e1, e2⟩ := ltake_spec l o n [v] h
  have hn : n = 1 := by simpa using e1.symm
  subst hn
  have := e2 0 (by omega)
  exact ⟨rfl, by rw [lget_eq]; simpa using this.symm⟩

theorem indexB_sound {M : Type} {cfg : Cfg M} (hP : cfg.P = P) {t : TypeId} {x i : AV} {Φ : AV → Prop} (h : (indexB cfg t x i).all Φ) (ρ : Nat → Nat) (w : World) :
    ∃ v, Φ v ∧ (Instr.index t (x.den ρ) (i.den ρ)).run P w = .ok (v.den ρ) w := by
  subst hP
  unfold indexB at h
  split at h
  · rename_i len e cs k n hu
    split at h
    · rename_i y g hy hg
      split at h
      · rename_i hb
        split at h
        · rename_i l hl
          refine ⟨_, h, ?_⟩
          simp only [Instr.index, AV.den, Sem.run_bind, run_asIntOf, Result.andThen_ok, run_underlying (undB_und hu), hb, and_self, if_true, run_sizeOfB hy]
          exact run_part_sx hg hy ρ cs _ w l (.agg l) (.inl ⟨rfl, hl, rfl⟩)
        · rename_i v hl
          refine ⟨_, h, ?_⟩
          simp only [Instr.index, AV.den, Sem.run_bind, run_asIntOf, Result.andThen_ok, run_underlying (undB_und hu), hb, and_self, if_true, run_sizeOfB hy]
          exact run_part_sx hg hy ρ cs _ w [] v (.inr ⟨rfl, (ltake_one hl).2⟩)
        · exact h.elim
      · exact h.elim
    · exact h.elim
  · rename_i len e cs k n hu
    split at h
    · rename_i hy hg
      split at h
      · rename_i l hl
        split at h
        · rename_i v hv
          obtain ⟨h1, h2⟩ := h
          by_cases hb : 0 ≤ n ∧ n < len
          · refine ⟨v, h1 (by simpa using hb), ?_⟩
            obtain ⟨l1, l2⟩ := ltake_spec cs 0 len l hl
            have hsel := selAV_spec hv ρ (i := n.toNat) (by omega)
            rw [l2 n.toNat (by omega), Nat.zero_add] at hsel
            simp only [Option.map_eq_some_iff] at hsel
            obtain ⟨u, hu1, hu2⟩ := hsel
            simp only [Instr.index, AV.den, Sem.run_bind, run_asIntOf, Result.andThen_ok, run_underlying (undB_und hu), hb, and_self, if_true, run_sizeOfB hy, Nat.mul_one]
            rw [← hu2]
            exact run_part_sx hg hy ρ cs _ w [] u (.inr ⟨rfl, by rw [lget_eq]; exact hu1⟩)
          · exact (h2 (by simpa using hb)).elim
        · split at h
          · obtain ⟨m, h1, h2, h3, h4⟩ := splitIdx_sound _ _ h
            split at h4
            · rename_i v hv
              refine ⟨v, h4, ?_⟩
              have hb : 0 ≤ n ∧ n < len := by omega
              simp only [Instr.index, AV.den, Sem.run_bind, run_asIntOf, Result.andThen_ok, run_underlying (undB_und hu), hb, and_self, if_true, run_sizeOfB hy]
              refine run_part_sx hg hy ρ cs _ w [] v (.inr ⟨rfl, ?_⟩)
              rw [h3]; simpa using hv
            · exact h4.elim
          · exact h.elim
      · exact h.elim
    · exact h.elim
  · rename_i s b s' k n hu
    obtain ⟨h1, h2⟩ := all_test h
    by_cases hb : 0 ≤ n ∧ n < (b.size : Int)
    · refine ⟨_, h1 (by simpa using hb), ?_⟩
      simp only [Instr.index, AV.den, Sem.run_bind, run_asIntOf, Result.andThen_ok, run_underlying (undB_und hu), hb.1, if_true]
      have hlt : n.toNat < b.size := by omega
      have hlt' : n.toNat < b.data.toList.length := by simpa using hlt
      have : b[n.toNat]? = some (b.data.toList.getD n.toNat 0) := by
        rw [List.getD_eq_getElem?_getD, List.getElem?_eq_getElem hlt']
        rw [getElem?_pos b n.toNat hlt]
        rfl
      simp [this]
    · exact (h2 (by simpa using hb)).elim
  · exact h.elim

theorem fieldB_sound {t : TypeId} {x : AV} {i : Nat} {Φ : AV → Prop} (h : (fieldB P t x i).all Φ) (ρ : Nat → Nat) (w : World) :
    ∃ v, Φ v ∧ (Instr.field t (x.den ρ) i).run P w = .ok (v.den ρ) w := by
  unfold fieldB at h
  split at h
  · rename_i fs cs hu
    split at h
    · rename_i f hf
      have hf' : fs[i]? = some f := by rw [lget_eq] at hf; simpa using hf
      split at h
      · rename_i n hg hn
        split at h
        · rename_i l hl
          refine ⟨_, h, ?_⟩
          simp only [Instr.field, AV.den, Sem.run_bind, run_underlying (undB_und hu), Result.andThen_ok, hf', asAgg, Sem.run_pure]
          exact run_part_sx hg hn ρ cs _ w l (.agg l) (.inl ⟨rfl, hl, rfl⟩)
        · exact h.elim
      · rename_i n hg hn
        split at h
        · rename_i v hl
          refine ⟨_, h, ?_⟩
          simp only [Instr.field, AV.den, Sem.run_bind, run_underlying (undB_und hu), Result.andThen_ok, hf', asAgg, Sem.run_pure]
          exact run_part_sx hg hn ρ cs _ w [] v (.inr ⟨rfl, hl⟩)
        · exact h.elim
      · exact h.elim
    · exact h.elim
  · exact h.elim

theorem fieldAt_sound {t : TypeId} {fs : Array Field} {l a z o : Nat} {i n : Nat} {f : Field} (hu : undB P t = some (.struct fs)) (hf : lget fs.toList i = some f) (hn : sizeB P f.type = some n) (h0 : Nat.beq n 0 = false) (ρ : Nat → Nat) (w : World) :
    (Instr.fieldAt t (.pointer (some ⟨ρ l, a * z + o, none⟩)) i).run P w = .ok ((AV.ptr l a z (o + f.offset)).den ρ) w := by
  have hf' : fs[i]? = some f := by rw [lget_eq] at hf; simpa using hf
  have hn0 : n ≠ 0 := by intro e; subst e; simp at h0
  simp [Instr.fieldAt, run_underlying (undB_und hu), hf', sureAddr_run, fieldPlace, run_sizeOfB hn, hn0, AV.den, add_zero', Nat.add_assoc]

theorem fieldAtX_sound {t : TypeId} {fs : Array Field} {l a m z o g : Nat} {i n : Nat} {f : Field} (hu : undB P t = some (.struct fs)) (hf : lget fs.toList i = some f) (hn : sizeB P f.type = some n) (h0 : Nat.beq n 0 = false) (ρ : Nat → Nat) (w : World) :
    (Instr.fieldAt t (.pointer (some ⟨ρ l, o + a * z + g, none⟩)) i).run P w = .ok ((AV.ptrx l a m z o (g + f.offset)).den ρ) w := by
  have hf' : fs[i]? = some f := by rw [lget_eq] at hf; simpa using hf
  have hn0 : n ≠ 0 := by intro e; subst e; simp at h0
  simp [Instr.fieldAt, run_underlying (undB_und hu), hf', sureAddr_run, fieldPlace, run_sizeOfB hn, hn0, AV.den, add_zero', Nat.add_assoc]

/-! Slices. -/

theorem boundB_sound {v : Option AV} {d : Nat} {s : Bool} {n : Int} (h : boundB v d = some (s, n)) (ρ : Nat → Nat) :
    (v = none ∧ n = d) ∨ ∃ k, v.map (AV.den ρ) = some (.int k n) := by
  unfold boundB at h
  split at h
  · simp at h; exact .inl ⟨rfl, h.2.symm⟩
  · rename_i k m
    simp at h; obtain ⟨_, rfl⟩ := h; exact .inr ⟨_, rfl⟩
  · cases h

theorem run_sliceBound {k : IntKind} {i : Int} {y : Nat} {c : BoundsCode} (h0 : 0 ≤ i) (h1 : i ≤ y) (w : World) : (Instr.sliceBound (.int k i) y c).run P w = .ok i.toNat w := by
  simp [Instr.sliceBound, run_asIntOf, h0, h1]

theorem sliceBoundsB_sound {s isS : Bool} {len cap : Nat} {lo hi mx : Option AV} {Φ : Nat × Nat × Nat × Bool → Prop} (h : (sliceBoundsB s len cap lo hi mx).all Φ) (ρ : Nat → Nat) (w : World) :
    ∃ a b m f, Φ (a, b, m, f) ∧ (Instr.sliceBounds isS len cap (lo.map (AV.den ρ)) (hi.map (AV.den ρ)) (mx.map (AV.den ρ))).run P w = .ok (a, b, m) w := by
  unfold sliceBoundsB at h
  split at h
  · rename_i fa l fb hh fc m hl hhi hm
    simp only at h
    split at h
    · exact h.elim
    · rename_i hno
      obtain ⟨h1, h1'⟩ := all_test h
      by_cases c1 : 0 ≤ m ∧ m ≤ cap
      · obtain ⟨h2, h2'⟩ := all_test (h1 (by simpa using c1))
        by_cases c2 : 0 ≤ hh ∧ hh ≤ m
        · obtain ⟨h3, h3'⟩ := all_test (h2 (by simpa using c2))
          by_cases c3 : 0 ≤ l ∧ l ≤ hh
          · refine ⟨_, _, _, _, h3 (by simpa using c3), ?_⟩
            have e1 := boundB_sound hl ρ
            have e2 := boundB_sound hhi ρ
            have e3 := boundB_sound hm ρ
            rcases e3 with ⟨rfl, rfl⟩ | ⟨k3, e3⟩
            · rcases e2 with ⟨rfl, rfl⟩ | ⟨k2, e2⟩
              · rcases e1 with ⟨rfl, rfl⟩ | ⟨k1, e1⟩
                · simp [Instr.sliceBounds]
                · simp only [e1, Instr.sliceBounds, Option.map_none, Sem.run_bind, Sem.run_pure, Result.andThen_ok, Option.isSome_none, Bool.false_eq_true, if_false]
                  rw [run_sliceBound c3.1 (by omega)]
                  simp
              · rcases e1 with ⟨rfl, rfl⟩ | ⟨k1, e1⟩
                · simp only [e2, Instr.sliceBounds, Option.map_none, Sem.run_bind, Sem.run_pure, Result.andThen_ok]
                  rw [run_sliceBound c2.1 (by omega)]
                  simp
                · simp only [e1, e2, Instr.sliceBounds, Option.map_none, Sem.run_bind, Sem.run_pure, Result.andThen_ok, Option.isSome_none, Bool.false_eq_true, if_false]
                  rw [run_sliceBound c2.1 (by omega)]
                  simp only [Result.andThen_ok]
                  rw [run_sliceBound c3.1 (by omega)]
                  simp
            · have hmx : mx.isSome = true := by cases mx with | none => simp at e3 | some v => rfl
              rcases e2 with ⟨rfl, rfl⟩ | ⟨k2, e2⟩
              · simp [hmx] at hno
              · rcases e1 with ⟨rfl, rfl⟩ | ⟨k1, e1⟩
                · simp only [e2, e3, Instr.sliceBounds, Option.map_none, Sem.run_bind, Sem.run_pure, Result.andThen_ok]
                  rw [run_sliceBound c1.1 c1.2]
                  simp only [Result.andThen_ok]
                  rw [run_sliceBound c2.1 (by omega)]
                  simp
                · simp only [e1, e2, e3, Instr.sliceBounds, Sem.run_bind, Result.andThen_ok, Option.isSome_some, if_true]
                  rw [run_sliceBound c1.1 c1.2]
                  simp only [Result.andThen_ok]
                  rw [run_sliceBound c2.1 (by omega)]
                  simp only [Result.andThen_ok]
                  rw [run_sliceBound c3.1 (by omega)]
                  simp
          · exact (h3' (by simpa using c3)).elim
        · exact (h2' (by simpa using c2)).elim
      · exact (h1' (by simpa using c1)).elim
  · exact h.elim

theorem sliceB_sound {t : TypeId} {x : AV} {lo hi mx : Option AV} {Φ : AV → Prop} (h : (sliceB P t x lo hi mx).all Φ) (ρ : Nat → Nat) (w : World) :
    ∃ v, Φ v ∧ (Instr.sliceAt t (x.den ρ) (lo.map (AV.den ρ)) (hi.map (AV.den ρ)) (mx.map (AV.den ρ))).run P w = .ok (v.den ρ) w := by
  unfold sliceB at h
  split at h
  · rename_i n e l o hu
    split at h
    · rename_i z hz
      split at h
      · exact h.elim
      · rename_i hz0
        have hz0' : z ≠ 0 := by intro e; subst e; simp at hz0
        rw [Tree.all_bind] at h
        obtain ⟨a, b, m, f, h1, hrun⟩ := sliceBoundsB_sound (P := P) (isS := false) h ρ w
        simp only at h1
        obtain ⟨h2, h3⟩ := all_test h1
        by_cases hma : m = a
        · exact (h2 (by simpa using hma)).elim
        · have h4 := h3 (by simpa using hma)
          split at h4
          · rename_i hmod
            refine ⟨_, h4, ?_⟩
            simp only [Instr.sliceAt, AV.den, Sem.run_bind, run_underlying (undB_und hu), Result.andThen_ok, sureAddr_run, hrun, run_sizeOfB hz, Sem.run_pure, hma, if_false, add_zero', Nat.zero_mul, Nat.zero_add]
            congr 5
            rw [Nat.add_mul]; congr 1
            have := Nat.div_add_mod o z
            rw [hmod, Nat.add_zero, Nat.mul_comm] at this
            exact this.symm
          · exact h4.elim
    · exact h.elim
  · rename_i e s l i z n c hu
    split at h
    · rename_i y hy
      split at h
      · rename_i hyz
        have hyz := Nat.eq_of_beq_eq_true hyz
        subst hyz
        rw [Tree.all_bind] at h
        obtain ⟨a, b, m, f, h1, hrun⟩ := sliceBoundsB_sound (P := P) (isS := true) h ρ w
        simp only at h1
        obtain ⟨h2, h3⟩ := all_test h1
        by_cases hma : m = a
        · refine ⟨_, h2 (by simpa using hma), ?_⟩
          subst hma
          simp [Instr.sliceAt, Instr.slice, AV.den, Sem.run_bind, run_underlying (undB_und hu), hrun, run_sizeOfB hy]
        · refine ⟨_, h3 (by simpa using hma), ?_⟩
          simp [Instr.sliceAt, Instr.slice, AV.den, Sem.run_bind, run_underlying (undB_und hu), hrun, run_sizeOfB hy, hma, add_zero', Nat.add_mul]
      · exact h.elim
    · exact h.elim
  · rename_i e hu
    split at h
    · rename_i y hy
      rw [Tree.all_bind] at h
      obtain ⟨a, b, m, f, h1, hrun⟩ := sliceBoundsB_sound (P := P) (isS := true) h ρ w
      simp only at h1
      split at h1
      · rename_i hc
        simp only [Bool.and_eq_true] at hc
        obtain rfl := Nat.eq_of_beq_eq_true hc.1.1
        obtain rfl := Nat.eq_of_beq_eq_true hc.1.2
        obtain rfl := Nat.eq_of_beq_eq_true hc.2
        refine ⟨_, h1, ?_⟩
        simp [Instr.sliceAt, Instr.slice, AV.den, Sem.run_bind, run_underlying (undB_und hu), hrun, run_sizeOfB hy]
      · exact h1.elim
    · exact h.elim
  · rename_i e l lc z n hu
    split at h
    · rename_i y k k' hy
      split at h
      · rename_i hyz
        have hyz := Nat.eq_of_beq_eq_true hyz
        subst hyz
        obtain ⟨a, b, m, f, h1, hrun⟩ := sliceBoundsB_sound (P := P) (isS := true) (s := true) (len := n) (cap := ρ lc) (lo := none) (hi := some (.int false k 0)) (mx := some (.int false k' 0)) (Φ := fun r => r = (0, 0, 0, true))
          (by simp [sliceBoundsB, boundB, test, Tree.all]) ρ w
        simp only [Prod.mk.injEq] at h1
        obtain ⟨rfl, rfl, rfl, rfl⟩ := h1
        refine ⟨_, h, ?_⟩
        simp only [Option.map_none, Option.map_some, AV.den] at hrun
        simp [Instr.sliceAt, Instr.slice, AV.den, Sem.run_bind, run_underlying (undB_und hu), hrun, run_sizeOfB hy]
      · exact h.elim
    · exact h.elim
  · rename_i s b hu
    split at h
    · rw [Tree.all_bind] at h
      obtain ⟨a, e, m, f, h1, hrun⟩ := sliceBoundsB_sound (P := P) (isS := false) h ρ w
      refine ⟨_, h1, ?_⟩
      simp only [Option.map_none] at hrun
      simp [Instr.sliceAt, Instr.slice, AV.den, Sem.run_bind, run_underlying (undB_und hu), hrun]
    · exact h.elim
  · exact h.elim
end
end Go.SX
