/- SX: operations one behind the other. -/
import Derived.Test.YtgbhiamfjikonaaGreatDoorSxOp
set_option linter.unusedVariables false
set_option linter.unusedSimpArgs false
namespace Go.SX
section
variable {P : Program} {M : Type} {S : Seal M}

/-- The slots are as the abstract frame says. -/
structure FrRel (H : Hp M) (ρ : Nat → Nat) (fr : Fr) (a : Act) : Prop where
  den : ∀ t v, evFr fr t = some v → a.tmps.getD t undef = v.den ρ
  sc : ∀ t v, evFr fr t = some v → v.sc (vis H) = true
  len : fr.n ≤ a.tmps.size
  defers : a.defers = []

theorem evFr_set (fr : Fr) (d : Tmp) (v : AV) (t : Tmp) : evFr (setFr fr d v) t = if t = d then (if d < fr.n then some v else none) else evFr fr t := by
  unfold evFr setFr
  by_cases e : t = d
  · subst e
    by_cases hl : t < fr.n
    · have : Nat.blt t fr.n = true := by simpa [Nat.blt_eq] using hl
      simp [this, hl, fget]
    · have : Nat.blt t fr.n = false := by
        cases hb : Nat.blt t fr.n with
        | false => rfl
        | true => exact absurd (by simpa [Nat.blt_eq] using hb) hl
      simp [this, hl]
  · have hne : Nat.beq d t = false := by
      cases hb : Nat.beq d t with
      | false => rfl
      | true => exact absurd (Nat.eq_of_beq_eq_true hb).symm e
    simp [e, fget, hne]

theorem evFr_lt {fr : Fr} {t : Tmp} {v : AV} (h : evFr fr t = some v) : t < fr.n := by
  unfold evFr at h
  split at h
  · rename_i hb; simpa [Nat.blt_eq] using hb
  · cases h

theorem getD_set_ne {tmps : Array Value} {d t : Nat} {v : Value} (h : t ≠ d) : (tmps.setIfInBounds d v).getD t undef = tmps.getD t undef := by
  simp [Array.getD_eq_getD_getElem?, Array.getElem?_setIfInBounds_ne (fun e => h e.symm)]

theorem getD_set_eq {tmps : Array Value} {d : Nat} {v : Value} (h : d < tmps.size) : (tmps.setIfInBounds d v).getD d undef = v := by
  simp [Array.getD_eq_getD_getElem?, h]

/-- A slot set. -/
theorem FrRel.put {H H' : Hp M} {ρ ρ' : Nat → Nat} {fr : Fr} {a : Act} (h : FrRel H ρ fr a) (ha : Agree H H' ρ ρ') (dst : Option Tmp) (v : AV) (hv : v.sc (vis H') = true) :
    FrRel H' ρ' (putFr fr dst v) (a.put dst (v.den ρ')) := by
  have old : ∀ t u, evFr fr t = some u → u.den ρ' = u.den ρ := fun t u hu => den_agree (vis H) ρ ρ' ha.same u (h.sc t u hu)
  cases dst with
  | none => exact ⟨fun t u hu => by rw [old t u hu]; exact h.den t u hu, fun t u hu => sc_mono _ _ ha.keep u (h.sc t u hu), h.len, h.defers⟩
  | some d =>
    refine ⟨fun t u hu => ?_, fun t u hu => ?_, ?_, h.defers⟩
    · simp only [putFr, evFr_set] at hu
      split at hu
      · rename_i e
        subst e
        split at hu
        · rename_i hl
          simp only [Option.some.injEq] at hu
          subst hu
          exact getD_set_eq (Nat.lt_of_lt_of_le hl h.len)
        · cases hu
      · rename_i e
        show (a.tmps.setIfInBounds d _).getD t undef = _
        rw [getD_set_ne e, old t u hu]
        exact h.den t u hu
    · simp only [putFr, evFr_set] at hu
      split at hu
      · split at hu
        · simp only [Option.some.injEq] at hu
          subst hu
          exact hv
        · cases hu
      · exact sc_mono _ _ ha.keep u (h.sc t u hu)
    · simp only [putFr, setFr, Act.put, Array.size_setIfInBounds]
      exact h.len

/-- A slot told anew, of the same value. -/
theorem FrRel.retell {H : Hp M} {ρ : Nat → Nat} {fr : Fr} {a : Act} (h : FrRel H ρ fr a) {d : Tmp} {v u : AV} (hu : evFr fr d = some u) (hd : u.den ρ = v.den ρ) (hs : v.sc (vis H) = true) :
    FrRel H ρ (setFr fr d v) a := by
  refine ⟨fun t x hx => ?_, fun t x hx => ?_, h.len, h.defers⟩
  · rw [evFr_set] at hx
    split at hx
    · rename_i e
      subst e
      split at hx
      · simp only [Option.some.injEq] at hx
        subst hx
        rw [h.den t u hu, hd]
      · cases hx
    · exact h.den t x hx
  · rw [evFr_set] at hx
    split at hx
    · split at hx
      · simp only [Option.some.injEq] at hx; subst hx; exact hs
      · cases hx
    · exact h.sc t x hx

variable {w0 : World} {F0 : Nat → Prop}

/-- What is owed behind a list of operations. -/
def SeqLeaf (S : Seal M) (w0 : World) (F0 : Nat → Prop) (H : Hp M) (ρ : Nat → Nat) (R : Act → World → Prop) : Fr × Hs M → Prop
  | (fr', X) => ∀ ρ' F' w' a', Agree H X.h ρ ρ' → Con S w0 F0 X.h ρ' F' w' → FrRel X.h ρ' fr' a' → R a' w'

theorem SeqLeaf.trans {H H1 : Hp M} {ρ ρ1 : Nat → Nat} {R : Act → World → Prop} (ha : Agree H H1 ρ ρ1) {x : Fr × Hs M} (h : SeqLeaf S w0 F0 H ρ R x) : SeqLeaf S w0 F0 H1 ρ1 R x :=
  fun ρ' F' w' a' h1 h2 h3 => h ρ' F' w' a' (ha.trans h1) h2 h3

theorem app_h (X : Hs M) (e : Eff M) : (X.app e).h = e.app X.h := by cases e; rfl

theorem yielded_eq {ops : List Oper} {j : Nat} {d : Tmp} (hd : dstOf ops j = some d) (tmps : Array Value) : yielded ops.toArray tmps j = match tmps[d]? with | some (.bool b) => some b | _ => none := by
  unfold dstOf at hd
  rw [lget_eq] at hd
  unfold yielded
  cases ho : ops[j]? with
  | none => rw [ho] at hd; cases hd
  | some o =>
    rw [ho] at hd
    simp only at hd
    have : (ops.toArray[j]?).bind (·.dst) = some d := by simp [ho, hd]
    rw [this]
    rfl

section
variable {cfg : Cfg M} (hP : cfg.P = P) (hok : ∀ t, cfg.okt t = true → OkType P t) {call : FuncId → List AV → Hp M → Tree (Ans M)} (hcall : CallOK P S call)
include hP hok hcall

theorem runOp_sound {o : Oper} {fr : Fr} {X : Hs M} {ρ : Nat → Nat} {F : Nat → Nat → Prop} {w : World} {a : Act} {next : Act → World → Prop} {Q : Exit → Act → World → Prop} {k : Fr → Hs M → Tree (Fr × Hs M)} {Φ : Fr × Hs M → Prop}
    (hcon : Con S w0 F0 X.h ρ F w) (hfr : FrRel X.h ρ fr a) (h : (runOp cfg S.locs call o fr X k).all Φ)
    (hk : ∀ fr' X' ρ' F' w' a', Agree X.h X'.h ρ ρ' → Con S w0 F0 X'.h ρ' F' w' → FrRel X'.h ρ' fr' a' → (k fr' X').all Φ → next a' w') : o.wp P a w next Q := by
  unfold runOp at h
  simp only [scq2_eq, escq_eq] at h
  rw [Tree.all_bind] at h
  refine opB_sound hP hok hcall hcon (fun t v hv => hfr.den t v hv) (fun t v hv => hfr.sc t v hv) (Tree.all_mono h ?_)
  rintro ⟨v, e⟩ hl
  simp only at hl
  split at hl
  · rename_i hc
    simp only [Bool.and_eq_true, app_h] at hc
    exact ⟨hc.2, fun ρ' F' w' ha hcon' => hk _ (X.app e) ρ' F' w' _ (by rw [app_h]; exact ha) (by rw [app_h]; exact hcon') (by rw [app_h]; exact hfr.put ha o.dst v hc.1) hl⟩
  · exact hl.elim

theorem seqOps_sound {ops : List Oper} {Q : Exit → Act → World → Prop} : ∀ (rest : List Oper) (fr : Fr) (X : Hs M) (ρ : Nat → Nat) (F : Nat → Nat → Prop) (w : World) (a : Act),
    Con S w0 F0 X.h ρ F w → FrRel X.h ρ fr a → (seqOps cfg S.locs call ops rest fr X).all (SeqLeaf S w0 F0 X.h ρ (Q .normal)) → wpList P ops.toArray Q rest a w
  | [], fr, X, ρ, F, w, a, hcon, hfr, h => h ρ F w a (Agree.refl X.h ρ) hcon hfr
  | o :: rest, fr, X, ρ, F, w, a, hcon, hfr, h => by
    have go : ∀ (fr : Fr), FrRel X.h ρ fr a → Region.wanted o (yielded ops.toArray a.tmps) = true → (runOp cfg S.locs call o fr X fun fr' X' => seqOps cfg S.locs call ops rest fr' X').all (SeqLeaf S w0 F0 X.h ρ (Q .normal)) →
        wpList P ops.toArray Q (o :: rest) a w := by
      intro fr hfr hw h
      unfold wpList
      rw [if_pos hw]
      refine .inl (runOp_sound hP hok hcall hcon hfr h ?_)
      intro fr' X' ρ' F' w' a' ha hcon' hfr' h'
      exact seqOps_sound rest fr' X' ρ' F' w' a' hcon' hfr' (Tree.all_mono h' fun x hx => hx.trans ha)
    have pass : ∀ (fr : Fr), FrRel X.h ρ fr a → Region.wanted o (yielded ops.toArray a.tmps) = false → (seqOps cfg S.locs call ops rest (putFr fr o.dst (.tup [])) X).all (SeqLeaf S w0 F0 X.h ρ (Q .normal)) →
        wpList P ops.toArray Q (o :: rest) a w := by
      intro fr hfr hw h
      unfold wpList
      rw [if_neg (by simp [hw])]
      have := hfr.put (Agree.refl X.h ρ) o.dst (.tup []) rfl
      exact seqOps_sound rest _ X ρ F w _ hcon this h
    simp only [seqOps] at h
    split at h
    · rename_i hg
      exact go fr hfr (by simp [Region.wanted, hg]) h
    · rename_i j want hg
      split at h
      · exact h.elim
      · rename_i d hd
        have hy := yielded_eq hd a.tmps
        have hslot : ∀ v, evFr fr d = some v → a.tmps[d]? = some (v.den ρ) := by
          intro v hv
          have h1 := hfr.den d v hv
          have hl : d < fr.n := evFr_lt hv
          have hl2 : d < a.tmps.size := Nat.lt_of_lt_of_le hl hfr.len
          rw [Array.getD_eq_getD_getElem?, Array.getElem?_eq_getElem hl2] at h1
          rw [Array.getElem?_eq_getElem hl2]
          simpa using h1
        have hwant : ∀ b : Bool, (∃ s, evFr fr d = some (.bool s b)) → Region.wanted o (yielded ops.toArray a.tmps) = (b == want) := by
          rintro b ⟨s, hb⟩
          unfold Region.wanted
          rw [hg]
          simp only
          rw [hy, hslot _ hb]
          simp [AV.den]
        split at h
        · rename_i hway
          refine go fr hfr ?_ h
          cases he : evFr fr d with
          | none => rw [he] at hway; simp [wayOf] at hway
          | some v =>
            rw [he] at hway
            unfold wayOf at hway
            split at hway
            · rename_i b hb
              simp only [Option.some.injEq] at hb
              subst hb
              rw [hwant b ⟨_, he⟩]
              split at hway <;> first | rfl | cases hway
            · cases hway
            · cases hway
            · cases hway
        · rename_i hway
          refine pass fr hfr ?_ h
          cases he : evFr fr d with
          | none => rw [he] at hway; simp [wayOf] at hway
          | some v =>
            rw [he] at hway
            unfold wayOf at hway
            split at hway
            · rename_i b hb
              simp only [Option.some.injEq] at hb
              subst hb
              rw [hwant b ⟨_, he⟩]
              cases b <;> cases want <;> first | rfl | simp at hway
            · cases hway
            · rename_i hb
              simp only [Option.some.injEq] at hb
              subst hb
              unfold Region.wanted
              rw [hg]
              simp only
              rw [hy, hslot _ he]
              simp [AV.den, denL]
            · cases hway
        · exact h.elim
        · rename_i b hway
          have hb : ∃ s, evFr fr d = some (.bool s b) := by
            cases he : evFr fr d with
            | none => rw [he] at hway; simp [wayOf] at hway
            | some v =>
              rw [he] at hway
              unfold wayOf at hway
              split at hway
              · split at hway <;> cases hway
              · rename_i b' hb
                simp only [Way.part.injEq] at hway
                subst hway
                simp only [Option.some.injEq] at hb
                exact ⟨true, by rw [hb]⟩
              · cases hway
              · cases hway
          obtain ⟨s, hs⟩ := hb
          have hw := hwant b ⟨s, hs⟩
          obtain ⟨h1, h2⟩ := h
          cases b with
          | true =>
            have h1 := h1 rfl
            have hfr1 : FrRel X.h ρ (setFr fr d (.bool false true)) a := hfr.retell hs rfl rfl
            cases want with
            | true => exact go _ hfr1 hw h1
            | false => exact pass _ hfr1 hw h1
          | false =>
            have h2 := h2 rfl
            have hfr1 : FrRel X.h ρ (setFr fr d (.bool false false)) a := hfr.retell hs rfl rfl
            cases want with
            | true => exact pass _ hfr1 hw h2
            | false => exact go _ hfr1 hw h2
end
end
end Go.SX
