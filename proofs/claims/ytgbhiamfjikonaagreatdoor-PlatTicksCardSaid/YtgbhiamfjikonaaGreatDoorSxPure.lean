/- SX: operations that are pure answer the same in every world. -/
import Derived.Test.YtgbhiamfjikonaaGreatDoorSxSeq
set_option linter.unusedVariables false
set_option linter.unusedSimpArgs false
namespace Go.SX
section
variable {P : Program} {M : Type}

theorem pure_wp {s : Sem Value} {ex : Sem Next} {w : World} {Φ : Ans M → Prop} {ρ : Nat → Nat} (hop : ex = (do pure (.value (← s)))) (h : ∃ v : AV, Φ (v, .quiet) ∧ s.run P w = .ok (v.den ρ) w) :
    ∃ v : AV, Φ (v, .quiet) ∧ ex.run P w = .ok (.value (v.den ρ)) w := by
  obtain ⟨v, hv, hr⟩ := h
  refine ⟨v, hv, ?_⟩
  rw [hop]
  simp only [Sem.run_bind, hr, Result.andThen_ok, Sem.run_pure]

theorem pure_sound {cfg : Cfg M} (hP : cfg.P = P) (hok : ∀ t, cfg.okt t = true → OkType P t) {call : FuncId → List AV → Hp M → Tree (Ans M)} {o : Oper} {a : Act} {ρ : Nat → Nat} {H : Hp M}
    (hp : isPure o.op = true) {ev : Ev} (hev : EvRel ev ρ a) (w : World) {Φ : Ans M → Prop} (h : (opB cfg call o.op ev H).all Φ) :
    ∃ v : AV, Φ (v, .quiet) ∧ (execOp a.eval o).run P w = .ok (.value (v.den ρ)) w := by
  subst hP
  obtain ⟨dst, op, type, pos, after, guard⟩ := o
  cases op <;> simp only [isPure, Bool.false_eq_true] at hp <;> simp only [opB] at h
  case move x =>
    obtain ⟨v, hx, hl⟩ := with1_all h
    exact ⟨v, hl, by simp only [execOp, operand_den hev hx, Sem.run_pure]⟩
  case assign x =>
    obtain ⟨v, hx, hl⟩ := with1_all h
    exact ⟨v, hl, by simp only [execOp, operand_den hev hx, Sem.run_pure]⟩
  case pick c x y =>
    have h := quietV_all h
    unfold pickB at h
    split at h
    · rename_i hc
      split at h
      · rename_i v hv
        exact ⟨v, h, by simp [execOp, operand_den hev hc, operand_den hev hv, AV.den, asBool]⟩
      · exact h.elim
    · rename_i hc
      split at h
      · rename_i v hv
        exact ⟨v, h, by simp [execOp, operand_den hev hc, operand_den hev hv, AV.den, asBool]⟩
      · exact h.elim
    · rename_i c' hc
      split at h
      · rename_i k x' k' y' hx hy
        split at h
        · rename_i hk
          subst hk
          refine ⟨_, h, ?_⟩
          cases c' <;> simp [execOp, operand_den hev hc, operand_den hev hx, operand_den hev hy, AV.den, asBool]
        · exact h.elim
      · rename_i x' y' hx hy
        refine ⟨_, h, ?_⟩
        cases c' <;> simp [execOp, operand_den hev hc, operand_den hev hx, operand_den hev hy, AV.den, asBool]
      · rename_i v u _ _ hx hy
        obtain ⟨h1, h2⟩ := h
        cases c' with
        | true => exact ⟨v, h1 rfl, by simp [execOp, operand_den hev hc, operand_den hev hx, AV.den, asBool]⟩
        | false => exact ⟨u, h2 rfl, by simp [execOp, operand_den hev hc, operand_den hev hy, AV.den, asBool]⟩
      · exact h.elim
    · exact h.elim
  case build t ps =>
    split at h
    · rename_i l hl
      obtain ⟨v, hv, hl'⟩ := with1_all h
      refine ⟨v, hl', ?_⟩
      have := build_sound hv ρ w
      rw [← parts_den hev hl] at this
      simp only [execOp, Sem.run_bind]
      rw [show (ps.map fun (x : Nat × Operand) => match x with | (i, x) => (i, a.eval x)) = (ps.toList.map fun p => (p.1, a.eval p.2)).toArray from map_list _ ps]
      rw [this]
      rfl
    · exact h.elim
  case nilCheck x =>
    obtain ⟨v, hx, hl⟩ := with1_all h
    split at hl
    · exact ⟨_, hl, by simp [execOp, operand_den hev hx, AV.den]⟩
    · exact ⟨_, hl, by simp [execOp, operand_den hev hx, AV.den]⟩
    · exact ⟨_, hl, by simp [execOp, operand_den hev hx, AV.den]⟩
    · exact hl.elim
  case binOp op t x y u =>
    obtain ⟨p, v, hx, hy, hl⟩ := with2_all h
    obtain ⟨r, hr, hrun⟩ := binB_sound hok (quietV_all hl) ρ w x y
    exact pure_wp (s := do eqGuard op t x y (a.eval x) (a.eval y); binOp op t (a.eval x) (a.eval y)) rfl ⟨r, hr, by rw [operand_den hev hx, operand_den hev hy]; exact hrun⟩
  case unOp op t x =>
    obtain ⟨v, hx, hl⟩ := with1_all h
    obtain ⟨r, hr, hrun⟩ := unB_sound (P := cfg.P) (quietV_all hl) ρ w
    exact pure_wp (s := Op.unary op (a.eval x)) rfl ⟨r, hr, by rw [operand_den hev hx]; exact hrun⟩
  case convert s d x =>
    obtain ⟨v, hx, hl⟩ := with1_all h
    obtain ⟨r, hr, hrun⟩ := convB_sound (quietV_all hl) ρ w
    exact pure_wp (s := convert s d (a.eval x)) rfl ⟨r, hr, by rw [operand_den hev hx]; exact hrun⟩
  case sliceToArrayPointer t x =>
    obtain ⟨v, hx, hl⟩ := with1_all h
    split at hl
    · rename_i n e s l i z m c hu
      obtain ⟨h1, h2⟩ := all_test hl
      by_cases hm : n ≤ m
      · refine ⟨_, h1 (by simpa using hm), ?_⟩
        simp [execOp, Instr.arrayAt, operand_den hev hx, AV.den, run_underlying (undB_und hu), Nat.not_lt.2 hm]
      · exact (h2 (by simpa using hm)).elim
    · exact hl.elim
  case makeFunc f x y =>
    split at h
    · rename_i l m hl hm
      refine ⟨_, h, ?_⟩
      have h1 := operands_den hev hl
      have h2 := operands_den hev hm
      have e1 : x.map a.eval = (denL ρ l).toArray := by rw [← h1]; exact map_list _ x
      have e2 : y.map a.eval = (denL ρ m).toArray := by rw [← h2]; exact map_list _ y
      simp [execOp, Instr.makeFunc, e1, e2, AV.den]
    · exact h.elim
  case slice t x lo hi mx =>
    split at h
    · rename_i l hh m hl hhi hm
      obtain ⟨v, hx, hl'⟩ := with1_all h
      obtain ⟨r, hr, hrun⟩ := sliceB_sound (quietV_all hl') ρ w
      refine pure_wp (s := Instr.sliceAt t (a.eval x) (lo.map a.eval) (hi.map a.eval) (mx.map a.eval)) rfl ⟨r, hr, ?_⟩
      rw [operand_den hev hx, opt_den hev hl, opt_den hev hhi, opt_den hev hm]
      exact hrun
    · exact h.elim
  case fieldAddr t x i =>
    obtain ⟨v, hx, hl⟩ := with1_all h
    split at hl
    · rename_i fs l y z o hu
      split at hl
      · rename_i f hf
        split at hl
        · rename_i n hn
          split at hl
          · exact hl.elim
          · rename_i h0
            exact pure_wp (s := Instr.fieldAt t (a.eval x) i) rfl ⟨_, hl, by rw [operand_den hev hx]; exact fieldAt_sound hu hf hn (Bool.eq_false_iff.2 h0) ρ w⟩
        · exact hl.elim
      · exact hl.elim
    · rename_i fs l y m z o g hu
      split at hl
      · rename_i f hf
        split at hl
        · rename_i n hn
          split at hl
          · exact hl.elim
          · rename_i h0
            exact pure_wp (s := Instr.fieldAt t (a.eval x) i) rfl ⟨_, hl, by rw [operand_den hev hx]; exact fieldAtX_sound hu hf hn (Bool.eq_false_iff.2 h0) ρ w⟩
        · exact hl.elim
      · exact hl.elim
    · exact hl.elim
  case field t x i =>
    obtain ⟨v, hx, hl⟩ := with1_all h
    obtain ⟨r, hr, hrun⟩ := fieldB_sound (quietV_all hl) ρ w
    exact pure_wp (s := Instr.field t (a.eval x) i) rfl ⟨r, hr, by rw [operand_den hev hx]; exact hrun⟩
  case indexAddr t x y =>
    obtain ⟨p, v, hx, hy, hl⟩ := with2_all h
    obtain ⟨r, hr, hrun⟩ := indexAddrB_sound rfl (quietV_all hl) ρ w
    exact pure_wp (s := Instr.indexAt t (a.eval x) (a.eval y)) rfl ⟨r, hr, by rw [operand_den hev hx, operand_den hev hy]; exact hrun⟩
  case index t x y =>
    obtain ⟨p, v, hx, hy, hl⟩ := with2_all h
    obtain ⟨r, hr, hrun⟩ := indexB_sound rfl (quietV_all hl) ρ w
    exact pure_wp (s := Instr.index t (a.eval x) (a.eval y)) rfl ⟨r, hr, by rw [operand_den hev hx, operand_den hev hy]; exact hrun⟩
  case extract t i =>
    obtain ⟨v, hx, hl⟩ := with1_all h
    split at hl
    · rename_i l
      split at hl
      · rename_i u hu
        rw [lget_eq] at hu
        refine ⟨_, hl, ?_⟩
        have : (denL ρ l).toArray[i]? = some (u.den ρ) := by simp [denL_eq, hu]
        simp [execOp, Instr.extract, operand_den hev hx, AV.den, this]
      · exact hl.elim
    · exact hl.elim
end
end Go.SX
