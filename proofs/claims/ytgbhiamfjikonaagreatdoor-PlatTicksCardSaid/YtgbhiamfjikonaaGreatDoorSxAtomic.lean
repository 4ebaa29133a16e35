/- SX: atomic numbers of 64 bits. -/
import Derived.Test.YtgbhiamfjikonaaGreatDoorSxEmbed
set_option linter.unusedVariables false
set_option linter.unusedSimpArgs false
namespace Go.SX
section
variable {M : Type} {S : Seal M}

def atomLoad (H : Hp M) : List AV → Option (Tree (Ans M))
  | [.ptr l i z o] => match lget H l with
    | some b => some ((objLoad b i z o 1).bind fun c => match c with
      | [.int s .u64 x] => .leaf (.int s .u64 x, .quiet)
      | _ => .stuck 180)
    | none => none
  | _ => none

def atomStore (H : Hp M) : List AV → Option (Tree (Ans M))
  | [.ptr l i z o, .int s .u64 x] => match lget H l with
    | some b => some ((objLoad b i z o 1).bind fun _ => (objStore b i z o [.int s .u64 x]).bind fun b' => .leaf (.tup [], .ext [(l, b')] []))
    | none => none
  | _ => none

def atomAdd (H : Hp M) : List AV → Option (Tree (Ans M))
  | [.ptr l i z o, .int s .u64 y] => match lget H l with
    | some b => some ((objLoad b i z o 1).bind fun c => match c with
      | [.int s' .u64 x] => (objStore b i z o [.int (s' || s) .u64 (IntKind.u64.wrap (x + y))]).bind fun b' => .leaf (.int (s' || s) .u64 (IntKind.u64.wrap (x + y)), .ext [(l, b')] [])
      | _ => .stuck 181)
    | none => none
  | _ => none
theorem callRun_extern {P : Program} {f : FuncId} {fn : Func} {args : Array Value} {w w' : World} {v : Value} {R : Value → World → Prop} {e : Array Value → Sem Value}
    (hf : P.funcs[f]? = some fn) (hn : (fn.name == "runtime.NumGoroutine") = false) (hb : fn.body = none) (h1 : Extern.findNext fn = none) (h2 : Extern.find fn = some e)
    (hrun : (e args).run P w = .ok v w') (hR : R v w') : CallRun P f args w R := by
  intro o a next Q hnx
  have hcf : (callFunc f args).run P w = .ok (.value v) w' := by
    simp only [callFunc, Sem.run_bind, run_program, Result.andThen_ok, hf, hn, Bool.false_eq_true, if_false, hb, Option.isNone_none, if_true, h1, h2]
    simp [mark, Sem.run, hrun]
  rw [hcf]
  exact hnx v w' hR

theorem run_load_atomic {P : Program} {w : World} {a : Addr} {v : Value} (h : w.cell? a = some v) : (load a .atomic).run P w = .ok v w := by
  simp [load, Sem.run, h]

theorem atomLoad_sound {P : Program} {f : FuncId} {fn : Func} (hf : P.funcs[f]? = some fn) (hn : (fn.name == "runtime.NumGoroutine") = false) (hb : fn.body = none) (h1 : Extern.findNext fn = none)
    (h2 : Extern.find fn = some (Extern.Atomic.loadT (.int .u64))) {args : List AV} {H : Hp M} {t : Tree (Ans M)} (ht : atomLoad H args = some t) : LocalOK P S f args H t := by
  intro ρ F w w0 F0 R hcon hargs h
  unfold atomLoad at ht
  split at ht
  · rename_i l i z o
    split at ht
    · rename_i b hl
      rw [lget_eq] at hl
      simp only [Option.some.injEq] at ht
      subst ht
      rw [Tree.all_bind] at h
      obtain ⟨c, hΦ, hlen, hc⟩ := objLoad_sound (hcon.rep l b hl) h
      split at hΦ
      · rename_i s x
        have hcell := hc 0 (by omega) (.int .u64 x) rfl
        refine callRun_extern hf hn hb h1 h2 (v := .int .u64 x) (w' := w) ?_ (hΦ.2 ρ F w (Agree.refl H ρ) hcon)
        have hrun := run_load_atomic (P := P) (a := ⟨ρ l, i * z + o, none⟩) (w := w) (v := .int .u64 x) (by simpa using hcell)
        have e1 : Extern.Atomic.loadT (.int .u64) (denL ρ [.ptr l i z o]).toArray = (do Extern.Atomic.read (.int .u64) (← asAddr (.pointer (some ⟨ρ l, i * z + o, none⟩)))) := rfl
        rw [e1]
        simp [asAddr, Extern.Atomic.read, hrun]
      · exact hΦ.elim
    · cases ht
  · cases ht

theorem run_store_atomic {P : Program} {w w' : World} {a : Addr} {v u : Value} (hv : v.oneCell' = true) (hc : w.cell? a = some u) (h : (store a v).run P w = .ok () w') : (store a v .atomic).run P w = .ok () w' := by
  rw [run_store P w a v _ hv, hc] at h ⊢
  exact h

/-- One cell stored, as a store of cells. -/
theorem storeCells_one {P : Program} {w w' : World} {a : Addr} {v : Value} (h : (storeCells a [v]).run P w = .ok () w') : (store a v).run P w = .ok () w' := by
  simp only [storeCells, Sem.run_bind] at h
  have e : a.add 0 = a := by cases a; simp [Addr.add]
  rw [e] at h
  cases hs : (store a v).run P w with
  | ok u w1 => rw [hs] at h; simpa using h
  | _ => rw [hs] at h; simp [Result.andThen] at h

theorem atomStore_sound {P : Program} {f : FuncId} {fn : Func} (hf : P.funcs[f]? = some fn) (hn : (fn.name == "runtime.NumGoroutine") = false) (hb : fn.body = none) (h1 : Extern.findNext fn = none)
    (h2 : Extern.find fn = some Extern.Atomic.storeT) {args : List AV} {H : Hp M} {t : Tree (Ans M)} (ht : atomStore H args = some t) : LocalOK P S f args H t := by
  intro ρ F w w0 F0 R hcon hargs h
  unfold atomStore at ht
  split at ht
  · rename_i l i z o s x
    split at ht
    · rename_i b hl
      rw [lget_eq] at hl
      simp only [Option.some.injEq] at ht
      subst ht
      rw [Tree.all_bind] at h
      obtain ⟨c, h, hlen, hcc⟩ := objLoad_sound (hcon.rep l b hl) h
      have hcell : ∃ u, w.cell? ⟨ρ l, i * z + o, none⟩ = some u := by
        cases c with
        | nil => simp at hlen
        | cons u c => exact ⟨u.den ρ, by simpa using hcc 0 (by omega) (u.den ρ) rfl⟩
      obtain ⟨u, hcell⟩ := hcell
      rw [Tree.all_bind] at h
      obtain ⟨b', w', hΦ, hrun, hrep, hrest, g0, g1, g2, g3⟩ := objStore_sound (P := P) (hcon.rep l b hl) rfl h
      obtain ⟨hsc, hR⟩ := hΦ
      rw [app_set] at hsc hR
      have hsc' := scSets_mem (s := [(l, b')]) (by simpa [Eff.sc, scNews] using hsc) (l, b') (by simp)
      have hv : b.vis = true := by
        have := hargs (.ptr l i z o) (by simp)
        simp only [AV.sc] at this
        rw [vis_eq, hl] at this; exact this
      have hst := run_store_atomic rfl hcell (storeCells_one (P := P) (by simpa [denL, AV.den] using hrun))
      refine callRun_extern hf hn hb h1 h2 (v := .tuple #[]) (w' := w') ?_ (hR ρ F w' (agree_set (vis_set hl hv hsc'.2.1) ρ) (hcon.set hl hv hsc'.2.1 (Sc_of_sc hsc'.2.2) hrep hrest g0 g1 g2 g3))
      have e1 : Extern.Atomic.storeT (denL ρ [.ptr l i z o, .int s .u64 x]).toArray = (do store (← asAddr (.pointer (some ⟨ρ l, i * z + o, none⟩))) (.int .u64 x) .atomic; pure Extern.Atomic.none_) := rfl
      rw [e1]
      simp [asAddr, hst, Extern.Atomic.none_]
    · cases ht
  · cases ht

theorem atomAdd_sound {P : Program} {f : FuncId} {fn : Func} (hf : P.funcs[f]? = some fn) (hn : (fn.name == "runtime.NumGoroutine") = false) (hb : fn.body = none) (h1 : Extern.findNext fn = none)
    (h2 : Extern.find fn = some (Extern.Atomic.update (Op.intArith .add) .u64 true)) {args : List AV} {H : Hp M} {t : Tree (Ans M)} (ht : atomAdd H args = some t) : LocalOK P S f args H t := by
  intro ρ F w w0 F0 R hcon hargs h
  unfold atomAdd at ht
  split at ht
  · rename_i l i z o s y
    split at ht
    · rename_i b hl
      rw [lget_eq] at hl
      simp only [Option.some.injEq] at ht
      subst ht
      rw [Tree.all_bind] at h
      obtain ⟨c, h, hlen, hcc⟩ := objLoad_sound (hcon.rep l b hl) h
      split at h
      · rename_i s' x
        have hcell : w.cell? ⟨ρ l, i * z + o, none⟩ = some (.int .u64 x) := by simpa using hcc 0 (by omega) (.int .u64 x) rfl
        rw [Tree.all_bind] at h
        obtain ⟨b', w', hΦ, hrun, hrep, hrest, g0, g1, g2, g3⟩ := objStore_sound (P := P) (hcon.rep l b hl) rfl h
        obtain ⟨hsc, hR⟩ := hΦ
        rw [app_set] at hsc hR
        have hsc' := scSets_mem (s := [(l, b')]) (by simpa [Eff.sc, scNews] using hsc) (l, b') (by simp)
        have hv : b.vis = true := by
          have := hargs (.ptr l i z o) (by simp)
          simp only [AV.sc] at this
          rw [vis_eq, hl] at this; exact this
        have hld := run_load_atomic (P := P) hcell
        have hst := run_store_atomic rfl hcell (storeCells_one (P := P) (by simpa [denL, AV.den] using hrun))
        refine callRun_extern hf hn hb h1 h2 (v := .int .u64 (IntKind.u64.wrap (x + y))) (w' := w') ?_ (hR ρ F w' (agree_set (vis_set hl hv hsc'.2.1) ρ) (hcon.set hl hv hsc'.2.1 (Sc_of_sc hsc'.2.2) hrep hrest g0 g1 g2 g3))
        have e1 : Extern.Atomic.update (Op.intArith .add) .u64 true (denL ρ [.ptr l i z o, .int s .u64 y]).toArray = (do
            let a ← asAddr (.pointer (some ⟨ρ l, i * z + o, none⟩))
            let old ← Extern.Atomic.read (.int .u64) a
            let new ← Op.intArith .add .u64 (← asInt old) (← asInt (.int .u64 y))
            store a new .atomic
            pure (if true then new else old)) := rfl
        rw [e1]
        simp [asAddr, asInt, asIntOf, Extern.Atomic.read, hld, Op.intArith, hst]
      · exact h.elim
    · cases ht
  · cases ht
end
end Go.SX
