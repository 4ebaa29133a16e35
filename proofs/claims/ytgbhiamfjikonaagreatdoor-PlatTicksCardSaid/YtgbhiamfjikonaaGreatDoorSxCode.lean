/- SX: code and calls: the evaluator is sound. -/
import Derived.Test.YtgbhiamfjikonaaGreatDoorSxLog
import Derived.LoopN
set_option linter.unusedVariables false
set_option linter.unusedSimpArgs false
set_option linter.unusedSectionVars false
namespace Go.SX
section
variable {M : Type} {S : Seal M}

def exOf : Ex → Exit
  | .normal => .normal
  | .exit id => .exit id
  | .ret => .ret

/-- What is owed behind code. -/
def CodeLeaf (S : Seal M) (w0 : World) (F0 : Nat → Prop) (H : Hp M) (ρ : Nat → Nat) (Q : Exit → Act → World → Prop) : Ex × Fr × Hs M → Prop
  | (e, fr', X) => ∀ ρ' F' w' a', Agree H X.h ρ ρ' → Con S w0 F0 X.h ρ' F' w' → FrRel X.h ρ' fr' a' → Q (exOf e) a' w'

theorem CodeLeaf.trans {w0 : World} {F0 : Nat → Prop} {H H1 : Hp M} {ρ ρ1 : Nat → Nat} {Q : Exit → Act → World → Prop} (ha : Agree H H1 ρ ρ1) {x : Ex × Fr × Hs M} (h : CodeLeaf S w0 F0 H ρ Q x) : CodeLeaf S w0 F0 H1 ρ1 Q x :=
  fun ρ' F' w' a' h1 h2 h3 => h ρ' F' w' a' (ha.trans h1) h2 h3

/-- A contract of a loop. -/
def LoopSound (P : Program) (S : Seal M) (b : Code) (fr : Fr) (H : Hp M) (t : Tree (Ex × Fr × Eff M)) : Prop :=
  ∀ ρ F w w0 F0 a Q, Con S w0 F0 H ρ F w → FrRel H ρ fr a → t.all (fun x => CodeLeaf S w0 F0 H ρ Q (x.1, x.2.1, ⟨x.2.2.app H, []⟩)) → (Code.loop b).wp P Q a w

def LoopsIn (P : Program) (S : Seal M) (loop : Nat → Fr → Hp M → Option (Tree (Ex × Fr × Eff M))) : Code → Prop
  | .seq a b => LoopsIn P S loop a ∧ LoopsIn P S loop b
  | .cond _ a b => LoopsIn P S loop a ∧ LoopsIn P S loop b
  | .block _ b => LoopsIn P S loop b
  | .loop b => LoopsIn P S loop b ∧ ∀ fr H t, loop (loopKey b) fr H = some t → LoopSound P S b fr H t
  | _ => True

/-- Contracts of functions. -/
def KOK (P : Program) (S : Seal M) (K : FuncId → List AV → Hp M → Option (Tree (Ans M))) : Prop :=
  ∀ (f : FuncId) (args : List AV) (H : Hp M) (t : Tree (Ans M)), K f args H = some t → ∀ (ρ : Nat → Nat) (F : Nat → Nat → Prop) (w w0 : World) (F0 : Nat → Prop) (R : Value → World → Prop),
    Con S w0 F0 H ρ F w → (∀ x ∈ args, x.sc (vis H) = true) → t.all (LeafOK S w0 F0 H ρ R) → CallRun P f (denL ρ args).toArray w R

/-- What the evaluator leans on. -/
structure CfgOK (S : Seal M) (cfg : Cfg M) : Prop where
  okt : ∀ t, cfg.okt t = true → OkType cfg.P t
  K : KOK cfg.P S cfg.K
  loop : ∀ f fn c, funcB cfg.P f = some fn → fn.body = some c → LoopsIn cfg.P S (cfg.loop f) c
  mixed : cfg.P.follows .mixedOrders = true
  name : ∀ f fn, funcB cfg.P f = some fn → (fn.name == "runtime.NumGoroutine") = false

theorem enterL_get : ∀ (args : List AV) (n t : Nat) (v : AV), fget (enterL args n) t = some v → n ≤ t ∧ args[t - n]? = some v
  | [], n, t, v, h => by simp [enterL, fget] at h
  | a :: l, n, t, v, h => by
    simp only [enterL, fget] at h
    split at h
    · rename_i hb
      have e := Nat.eq_of_beq_eq_true hb
      subst e
      simpa using h
    · rename_i hb
      obtain ⟨h1, h2⟩ := enterL_get l (n + 1) t v h
      refine ⟨by omega, ?_⟩
      rw [show t - n = (t - (n + 1)) + 1 by omega]
      simpa using h2

theorem enterFr_ev (args : List AV) (n : Nat) (t : Tmp) (v : AV) (h : evFr (enterFr args n) t = some v) : args[t]? = some v := by
  unfold evFr enterFr at h
  split at h
  · have := enterL_get args 0 t v h
    simpa using this.2
  · cases h

theorem enterFr_len (args : List AV) (n : Nat) : (enterFr args n).n = max args.length n := by
  unfold enterFr
  rw [lenB_eq]

theorem enter_rel {H : Hp M} {ρ : Nat → Nat} {args : List AV} (hs : ∀ x ∈ args, x.sc (vis H) = true) (n : Nat) :
    FrRel H ρ (enterFr args n) { tmps := (denL ρ args).toArray ++ Array.replicate (n - (denL ρ args).toArray.size) undef, defers := [] } := by
  have hlen : (denL ρ args).length = args.length := by simp [denL_eq]
  refine ⟨fun t v h => ?_, fun t v h => hs v (List.mem_of_getElem? (enterFr_ev args n t v h)), ?_, rfl⟩
  · have ha := enterFr_ev args n t v h
    have hlt := (List.getElem?_eq_some_iff.1 ha).1
    have : ((denL ρ args).toArray ++ Array.replicate (n - (denL ρ args).toArray.size) undef)[t]? = some (v.den ρ) := by
      rw [Array.getElem?_append_left (by simpa [hlen] using hlt)]
      simp [denL_eq, ha]
    rw [Array.getD_eq_getD_getElem?, this]
    rfl
  · rw [enterFr_len]; simp [hlen]; omega

/-- What a result's variable holds. -/
def rvRun (tmps : Array Value) : ResultVar → Sem Value
  | .tmp t => pure (tmps.getD t undef)
  | .cell x t => do loadVar t (← asAddr (tmps.getD x undef))

theorem results_eq (fn : Func) (tmps : Array Value) : results fn tmps = (do let vs ← fn.results.mapM (rvRun tmps); pure (if h : vs.size = 1 then vs[0] else .tuple vs)) := by
  unfold results
  congr 1

theorem asAddr_run {P : Program} (A : Addr) (w : World) : (asAddr (.pointer (some A))).run P w = .ok A w := rfl

theorem resultVars_sound {P : Program} {H : Hp M} {ρ : Nat → Nat} {F : Nat → Nat → Prop} {w : World} (hr : ∀ (l : Nat) (o : AO M), H[l]? = some o → o.rep S ρ (ρ l) (F l) w) {fr : Fr} {a : Act} (hfr : FrRel H ρ fr a) :
    ∀ (l : List ResultVar) (Φ : List AV → Prop), (resultVars P H fr l).all Φ → ∃ vs, Φ vs ∧ vs.length = l.length ∧ (l.mapM (rvRun a.tmps)).run P w = .ok (denL ρ vs) w
  | [], Φ, h => ⟨[], h, rfl, by simp [denL]⟩
  | .tmp t :: l, Φ, h => by
    simp only [resultVars] at h
    split at h
    · rename_i v hv
      rw [Tree.all_bind] at h
      obtain ⟨vs, h1, h2, h3⟩ := resultVars_sound hr hfr l _ h
      refine ⟨v :: vs, h1, by simp [h2], ?_⟩
      simp only [List.mapM_cons, rvRun, Sem.run_bind, Sem.run_pure, Result.andThen_ok, h3, hfr.den t v hv]
      rfl
    · exact h.elim
  | .cell x t :: l, Φ, h => by
    simp only [resultVars] at h
    split at h
    · rename_i p hp
      rw [Tree.all_bind] at h
      obtain ⟨v, hv, hrun⟩ := loadAt_sound (P := P) hr h
      rw [Tree.all_bind] at hv
      obtain ⟨vs, h1, h2, h3⟩ := resultVars_sound hr hfr l _ hv
      refine ⟨v :: vs, h1, by simp [h2], ?_⟩
      have hptr : ∃ A, p.den ρ = .pointer (some A) := by
        cases p <;> first | exact ⟨_, rfl⟩ | exact h.elim
      obtain ⟨A, hA⟩ := hptr
      rw [hA] at hrun
      simp only [Instr.loadAt, Sem.run_bind, sureAddr_run, Result.andThen_ok] at hrun
      simp only [List.mapM_cons, rvRun, Sem.run_bind, Sem.run_pure, Result.andThen_ok, hfr.den x p hp, hA, asAddr_run, hrun, h3]
      rfl
    · exact h.elim

/-- What nobody can name is let go of. -/
theorem Con.forget {w0 : World} {F0 : Nat → Prop} {base news : Hp M} {ρ : Nat → Nat} {F : Nat → Nat → Prop} {w : World} (h : Con S w0 F0 (base ++ news) ρ F w) (hsc : ∀ (l : Nat) (o : AO M), base[l]? = some o → o.Sc S (vis base)) :
    Con S w0 F0 base ρ (fun l x => l < base.length ∧ F l x) w where
  rep := fun l o hl => by
    have hlt := (List.getElem?_eq_some_iff.1 hl).1
    have e : (fun x => l < base.length ∧ F l x) = F l := by funext x; simp [hlt]
    rw [e]
    exact h.rep l o (by rw [List.getElem?_append_left hlt]; exact hl)
  scp := hsc
  out := fun l hl x hx => by have := List.getElem?_eq_none_iff.1 hl; omega
  dis := fun l l' x h1 h2 => h.dis _ _ x h1.2 h2.2
  lt := fun l x hx => h.lt _ x hx.2
  own := fun l x hx => h.own _ x hx.2
  old := h.old
  size := h.size
  os := h.os
  tape := h.tape
  output := h.output

theorem scSets_mem {V : Nat → Bool} {locs : M → List Nat} : ∀ {s : List (Nat × AO M)}, scSets V locs s = true → ∀ p ∈ s, V p.1 = true ∧ p.2.vis = true ∧ p.2.sc V locs = true
  | [], _, p, hp => by simp at hp
  | (i, o) :: r, h, p, hp => by
    simp only [scSets, Bool.and_eq_true] at h
    rcases List.mem_cons.1 hp with rfl | hp
    · exact ⟨h.1.1.1, h.1.1.2, h.1.2⟩
    · exact scSets_mem h.2 p hp

theorem applySets_or : ∀ (s : List (Nat × AO M)) (H : Hp M) (l : Nat) (o : AO M), (applySets s H)[l]? = some o → H[l]? = some o ∨ ∃ p ∈ s, p.1 = l ∧ p.2 = o
  | [], H, l, o, h => .inl h
  | (k, ok) :: r, H, l, o, h => by
    simp only [applySets] at h
    rcases applySets_or r _ l o h with h1 | ⟨p, hp, e⟩
    · rw [lset_eq, List.getElem?_set] at h1
      by_cases e : k = l
      · subst e
        rw [if_pos rfl] at h1
        split at h1
        · cases h1; exact .inr ⟨(k, ok), by simp, rfl, rfl⟩
        · cases h1
      · rw [if_neg e] at h1; exact .inl h1
    · exact .inr ⟨p, by simp [hp], e⟩

theorem applySets_vis {locs : M → List Nat} {s : List (Nat × AO M)} {H : Hp M} (h : scSets (vis H) locs s = true) : ∀ l, vis H l = true → vis (applySets s H) l = true := by
  intro l hl
  have hlt := vis_lt hl
  have e := List.getElem?_eq_getElem (l := applySets s H) (i := l) (by rw [applySets_len]; exact hlt)
  rw [vis_eq, e]
  rcases applySets_or s H l _ e with h1 | ⟨p, hp, e1, e2⟩
  · rw [vis_eq, h1] at hl; exact hl
  · have := (scSets_mem h p hp).2.1
    rw [e2] at this; exact this

/-- Behind a call, without what nobody can name. -/
theorem leafC {w0 : World} {F0 : Nat → Prop} {H : Hp M} {ρ : Nat → Nat} {F : Nat → Nat → Prop} {w : World} (hcon : Con S w0 F0 H ρ F w) {X : Hs M} (hlg : LogOK H X) {v : AV} {R : Value → World → Prop} (hv : LeafOK S w0 F0 H ρ R (v, effC S.locs H X v))
    {ρ' : Nat → Nat} {F' : Nat → Nat → Prop} {w' : World} (hag : Agree H X.h ρ ρ') (hcon' : Con S w0 F0 X.h ρ' F' w') : R (v.den ρ') w' := by
  have heff := effOf_app hlg
  unfold effC at hv
  simp only [scq2_eq, scSetsq_eq] at hv
  split at hv
  · rename_i hc
    rw [Bool.and_eq_true] at hc
    obtain ⟨_, hl⟩ := hv
    rw [app_ext, List.append_nil] at hl
    unfold effOf at heff
    rw [app_ext] at heff
    have hvis := applySets_vis hc.2
    refine hl ρ' _ w' ⟨hag.same, hvis⟩ (Con.forget (news := ldrop (lenH H) X.h) (by rw [heff]; exact hcon') fun l o ho => ?_)
    rcases applySets_or _ H l o ho with h1 | ⟨p, hp, _, e2⟩
    · exact Sc_mono hvis (hcon.scp l o h1)
    · have := (scSets_mem hc.2 p hp).2.2
      rw [e2] at this
      exact Sc_mono hvis (Sc_of_sc this)
  · exact hv.2 ρ' F' w' (by rw [heff]; exact hag) (by rw [heff]; exact hcon')

section
variable {cfg : Cfg M} (hcfg : CfgOK S cfg)
include hcfg

/-- The code of a function, called. -/
theorem callWith_calls {run : FuncId → Code → Fr → Hs M → Tree (Ex × Fr × Hs M)}
    (hrun : ∀ fid c fr X ρ F w w0 F0 a Q, LoopsIn cfg.P S (cfg.loop fid) c → Con S w0 F0 X.h ρ F w → FrRel X.h ρ fr a → (run fid c fr X).all (CodeLeaf S w0 F0 X.h ρ Q) → c.wp cfg.P Q a w)
    (hlog : ∀ fid c fr X H0, LogOK H0 X → (run fid c fr X).allw fun r => LogOK H0 r.2.2)
    {f : FuncId} {args : List AV} {H : Hp M} {ρ : Nat → Nat} {F : Nat → Nat → Prop} {w w0 : World} {F0 : Nat → Prop} {R : Value → World → Prop} {fn : Func} {c : Code}
    (hfn : funcB cfg.P f = some fn) (hc : fn.body = some c)
    (hcon : Con S w0 F0 H ρ F w) (hargs : ∀ x ∈ args, x.sc (vis H) = true)
    (h : ((run f c (enterFr args fn.ntmps) ⟨H, []⟩).bind fun (e, fr, X) => match e with
        | .exit _ => .stuck 144
        | _ => (resultVars cfg.P X.h fr fn.results.toList).bind fun vs => match vs with
          | [v] => .leaf (v, effC S.locs H X v)
          | vs => .leaf (.tup vs, effC S.locs H X (.tup vs))).all (LeafOK S w0 F0 H ρ R)) :
    Calls cfg.P f (denL ρ args).toArray w fun e w' => match e with | .returned v => R v w' | _ => False := by
  have hf : cfg.P.funcs[f]? = some fn := by
    have := hfn
    unfold funcB at this
    rw [lget_eq] at this
    simpa using this
  refine calls_of_wp hf hc (hrun f c _ ⟨H, []⟩ ρ F w w0 F0 _ _ (hcfg.loop f fn c hfn hc) hcon (enter_rel hargs fn.ntmps) ?_)
  rw [Tree.all_bind] at h
  refine Tree.all_mono (Tree.all_and h (hlog f c (enterFr args fn.ntmps) ⟨H, []⟩ H (LogOK.start H))) ?_
  rintro ⟨e, fr', X⟩ ⟨h1, hlg⟩
  have heff := effOf_app hlg
  simp only at heff
  intro ρ' F' w' a' hag hcon' hfr'
  simp only at hag
  have hpost : ∀ (vsT : (resultVars cfg.P X.h fr' fn.results.toList).all fun vs => match vs with | [v] => LeafOK S w0 F0 H ρ R (v, effC S.locs H X v) | vs => LeafOK S w0 F0 H ρ R (.tup vs, effC S.locs H X (.tup vs))),
      a'.defers = [] ∧ ∃ v, (results fn a'.tmps).run cfg.P w' = .ok v w' ∧ R v w' := by
    intro hT
    refine ⟨hfr'.defers, ?_⟩
    obtain ⟨vs, hv, hl, hr⟩ := resultVars_sound (P := cfg.P) (S := S) hcon'.rep hfr' _ _ hT
    have hres : ∀ u, (if h : (denL ρ' vs).toArray.size = 1 then (denL ρ' vs).toArray[0] else Value.tuple (denL ρ' vs).toArray) = u → (results fn a'.tmps).run cfg.P w' = .ok u w' := by
      intro u hu
      rw [results_eq, Array.mapM_eq_mapM_toList]
      simp only [Sem.run_bind, Sem.run_map, hr, Result.andThen_ok, Sem.run_pure, hu]
    rcases vs with _ | ⟨u, _ | ⟨v, l⟩⟩
    · exact ⟨(AV.tup []).den ρ', hres _ rfl, leafC hcon hlg hv hag hcon'⟩
    · exact ⟨u.den ρ', hres _ rfl, leafC hcon hlg hv hag hcon'⟩
    · exact ⟨(AV.tup (u :: v :: l)).den ρ', hres _ rfl, leafC hcon hlg hv hag hcon'⟩
  have hconv : (resultVars cfg.P X.h fr' fn.results.toList).bind (fun vs => match vs with | [v] => Tree.leaf (v, effC S.locs H X v) | vs => Tree.leaf (AV.tup vs, effC S.locs H X (.tup vs))) |>.all (LeafOK S w0 F0 H ρ R) →
      (resultVars cfg.P X.h fr' fn.results.toList).all fun vs => match vs with | [v] => LeafOK S w0 F0 H ρ R (v, effC S.locs H X v) | vs => LeafOK S w0 F0 H ρ R (.tup vs, effC S.locs H X (.tup vs)) := by
    intro hb
    rw [Tree.all_bind] at hb
    refine Tree.all_mono hb ?_
    intro vs hvs
    match vs, hvs with
    | [v], hvs => exact hvs
    | [], hvs => exact hvs
    | u :: v :: l, hvs => exact hvs
  cases e with
  | exit id => exact h1.elim
  | normal => exact hpost (hconv h1)
  | ret => exact hpost (hconv h1)

/-- Behind calls, as an operation meets them. -/
theorem callRun_of_calls {f : FuncId} {args : Array Value} {w : World} {R : Value → World → Prop} {fn : Func} {c : Code}
    (hfn : funcB cfg.P f = some fn) (hc : fn.body = some c)
    (hcalls : Calls cfg.P f args w fun e w' => match e with | .returned v => R v w' | _ => False) : CallRun cfg.P f args w R := by
  have hf : cfg.P.funcs[f]? = some fn := by
    have := hfn
    unfold funcB at this
    rw [lget_eq] at this
    simpa using this
  intro o a next Q hn
  have hcf : (callFunc f args).run cfg.P w = .ok (.enter f args) w := by
    simp only [callFunc, Sem.run_bind, run_program, Result.andThen_ok, hf, hcfg.name f fn hfn, Bool.false_eq_true, if_false, hc, Option.isNone_some, Sem.run_pure]
  rw [hcf]
  simp only [Oper.upon]
  refine hcalls.mono fun e w' he => ?_
  cases e with
  | returned v => exact hn v w' he
  | panicked c => exact he.elim
  | outgrown => exact he.elim

theorem callWith_sound {run : FuncId → Code → Fr → Hs M → Tree (Ex × Fr × Hs M)}
    (hrun : ∀ fid c fr X ρ F w w0 F0 a Q, LoopsIn cfg.P S (cfg.loop fid) c → Con S w0 F0 X.h ρ F w → FrRel X.h ρ fr a → (run fid c fr X).all (CodeLeaf S w0 F0 X.h ρ Q) → c.wp cfg.P Q a w)
    (hlog : ∀ fid c fr X H0, LogOK H0 X → (run fid c fr X).allw fun r => LogOK H0 r.2.2) :
    CallOK cfg.P S (callWith cfg S.locs run) := by
  intro f args H ρ F w w0 F0 R hcon hargs h
  unfold callWith at h
  split at h
  · rename_i t ht
    exact hcfg.K f args H t ht ρ F w w0 F0 R hcon hargs h
  · split at h
    · exact h.elim
    · rename_i fn hfn
      split at h
      · exact h.elim
      · rename_i c hc
        exact callRun_of_calls hcfg hfn hc (callWith_calls hcfg hrun hlog hfn hc hcon hargs h)

theorem code_sound : ∀ (n : Nat) fid c fr X ρ F w w0 F0 a Q, LoopsIn cfg.P S (cfg.loop fid) c → Con S w0 F0 X.h ρ F w → FrRel X.h ρ fr a → (code cfg S.locs n fid c fr X).all (CodeLeaf S w0 F0 X.h ρ Q) → c.wp cfg.P Q a w := by
  intro n
  induction n with
  | zero => intro fid c fr X ρ F w w0 F0 a Q _ _ _ h; exact h.elim
  | succ n ih =>
    intro fid c fr X ρ F w w0 F0 a Q hloops hcon hfr h
    have hcall := callWith_sound hcfg ih (fun fid c fr X H0 h => code_log n fid c fr X h)
    cases c <;> simp only [code] at h
    case skip => exact wp_skip (h ρ F w a (Agree.refl X.h ρ) hcon hfr)
    case label l => exact wp_label (h ρ F w a (Agree.refl X.h ρ) hcon hfr)
    case region id ops draw =>
      cases draw with
      | false =>
        simp only [Tree.all_bind] at h
        refine wp_region_list ?_
        have := seqOps_sound rfl hcfg.okt hcall (ops := ops.toList) (Q := Q) ops.toList fr X ρ F w a hcon hfr (Tree.all_mono h fun x hx => ?_)
        · rw [Array.toArray_toList] at this; exact this
        · obtain ⟨fr', X'⟩ := x
          exact hx
      | true =>
        simp only [Tree.all_bind] at h
        have hcon' : Con S w0 F0 X.h ρ F { w with drawn := w.drawn + 1 } := hcon.noteq rfl rfl rfl rfl
        have := drawAll_sound ops.toList fr hcfg.okt hcall (R := Q .normal) hcon' hfr (Tree.all_mono h fun x hx => ?_)
        · rw [Array.toArray_toList] at this
          refine wp_mono (wp_region_any hcfg.mixed this) ?_
          intro e a w hq
          cases e <;> first | exact hq | exact hq.elim
        · obtain ⟨fr', X'⟩ := x
          exact hx
    case seq x y =>
      rw [Tree.all_bind] at h
      refine wp_seq (ih fid x fr X ρ F w w0 F0 a _ hloops.1 hcon hfr (Tree.all_mono h ?_))
      rintro ⟨e, fr', X'⟩ h1
      intro ρ' F' w' a' hag hcon' hfr'
      cases e with
      | normal => exact ih fid y fr' X' ρ' F' w' w0 F0 a' Q hloops.2 hcon' hfr' (Tree.all_mono h1 fun x hx => hx.trans hag)
      | exit id => exact h1 ρ' F' w' a' hag hcon' hfr'
      | ret => exact h1 ρ' F' w' a' hag hcon' hfr'
    case cond x y z =>
      split at h
      · rename_i s v hx
        obtain ⟨h1, h2⟩ := all_test h
        have he : a.eval x = .bool v := operand_den (fun t u hu => hfr.den t u hu) hx
        refine wp_cond he ?_
        cases v with
        | true => exact ih fid y fr X ρ F w w0 F0 a Q hloops.1 hcon hfr (h1 rfl)
        | false => exact ih fid z fr X ρ F w w0 F0 a Q hloops.2 hcon hfr (h2 rfl)
      · exact h.elim
    case block id b =>
      rw [Tree.all_bind] at h
      refine wp_block (ih fid b fr X ρ F w w0 F0 a _ hloops hcon hfr (Tree.all_mono h ?_))
      rintro ⟨e, fr', X'⟩ h1
      intro ρ' F' w' a' hag hcon' hfr'
      cases e with
      | normal => exact h1 ρ' F' w' a' hag hcon' hfr'
      | ret => exact h1 ρ' F' w' a' hag hcon' hfr'
      | exit id' =>
        have h2 := h1 ρ' F' w' a' hag hcon' hfr'
        simp only [exOf, Exit.inBlock]
        by_cases e1 : id' = id
        · rw [if_pos e1]
          subst e1
          simpa [exOf] using h2
        · rw [if_neg e1]
          have : Nat.beq id' id = false := by
            cases hb : Nat.beq id' id with
            | false => rfl
            | true => exact absurd (Nat.eq_of_beq_eq_true hb) e1
          simpa [this, exOf] using h2
    case loop b =>
      split at h
      · rename_i t ht
        refine hloops.2 fr X.h t ht ρ F w w0 F0 a Q hcon hfr ?_
        rw [Tree.all_bind] at h
        refine Tree.all_mono h ?_
        rintro ⟨e, fr', ef⟩ h1
        intro ρ' F' w' a' hag hcon' hfr'
        exact h1 ρ' F' w' a' (by rw [app_h]; exact hag) (by rw [app_h]; exact hcon') (by rw [app_h]; exact hfr')
      · refine wp_loop_rounds (cfg.rounds fid (loopKey b) n) ?_
        have key : ∀ (k : Nat) (fr : Fr) (X : Hs M) (ρ : Nat → Nat) (F : Nat → Nat → Prop) (w : World) (a : Act), Con S w0 F0 X.h ρ F w → FrRel X.h ρ fr a → (loopB (code cfg S.locs n fid b) k fr X).all (CodeLeaf S w0 F0 X.h ρ Q) → Code.rounds cfg.P b Q k a w := by
          intro k
          induction k with
          | zero => intro fr X ρ F w a _ _ h; exact h.elim
          | succ k ihk =>
            intro fr X ρ F w a hcon hfr h
            simp only [loopB, Tree.all_bind] at h
            rw [rounds_succ]
            refine ih fid b fr X ρ F w w0 F0 a _ hloops.1 hcon hfr (Tree.all_mono h ?_)
            rintro ⟨e, fr', X'⟩ h1
            intro ρ' F' w' a' hag hcon' hfr'
            cases e with
            | normal => exact ihk fr' X' ρ' F' w' a' hcon' hfr' (Tree.all_mono h1 fun x hx => hx.trans hag)
            | exit id => exact h1 ρ' F' w' a' hag hcon' hfr'
            | ret => exact h1 ρ' F' w' a' hag hcon' hfr'
        exact key _ fr X ρ F w a hcon hfr h
    case exit id => exact wp_exit (h ρ F w a (Agree.refl X.h ρ) hcon hfr)
    case ret => exact wp_ret (h ρ F w a (Agree.refl X.h ρ) hcon hfr)
    all_goals exact h.elim
end
end
end Go.SX
