/- SX: one operation is what the evaluator says. -/
import Derived.Test.YtgbhiamfjikonaaGreatDoorSxGrow
set_option linter.unusedVariables false
set_option linter.unusedSimpArgs false
namespace Go.SX
section
variable {P : Program} {M : Type} {S : Seal M}

theorem with1_all {x : Option AV} {f : AV → Tree (Ans M)} {Φ : Ans M → Prop} (h : (with1 x f).all Φ) : ∃ v, x = some v ∧ (f v).all Φ := by
  cases x with
  | none => exact h.elim
  | some v => exact ⟨v, rfl, h⟩

theorem with2_all {x y : Option AV} {f : AV → AV → Tree (Ans M)} {Φ : Ans M → Prop} (h : (with2 x y f).all Φ) : ∃ v u, x = some v ∧ y = some u ∧ (f v u).all Φ := by
  cases x with
  | none => cases y <;> exact h.elim
  | some v => cases y with
    | none => exact h.elim
    | some u => exact ⟨v, u, rfl, rfl, h⟩

theorem quietV_all {t : Tree AV} {Φ : Ans M → Prop} (h : (quietV t).all Φ) : t.all fun v => Φ (v, .quiet) := by
  unfold quietV at h
  rw [Tree.all_bind] at h
  exact h

section
variable {w0 : World} {F0 : Nat → Prop} {H : Hp M} {ρ : Nat → Nat} {F : Nat → Nat → Prop} {w : World} {o : Oper} {a : Act} {next : Act → World → Prop} {Q : Exit → Act → World → Prop}

theorem quiet_wp (hcon : Con S w0 F0 H ρ F w) {v : AV} (hl : LeafOK S w0 F0 H ρ (fun v w' => next (a.put o.dst v) w') (v, .quiet)) {x : Value} (hx : x = v.den ρ)
    (hrun : (execOp a.eval o).run P w = .ok (.value x) w) : o.wp P a w next Q := by
  unfold Oper.wp
  rw [hrun, hx]
  exact hl.2 ρ F w (Agree.refl H ρ) hcon

theorem quiet_wp' (hcon : Con S w0 F0 H ρ F w) {s : Sem Value} (hop : execOp a.eval o = (do pure (.value (← s)))) (h : ∃ v : AV, LeafOK S w0 F0 H ρ (fun v w' => next (a.put o.dst v) w') (v, .quiet) ∧ s.run P w = .ok (v.den ρ) w) : o.wp P a w next Q := by
  obtain ⟨v, hl, hr⟩ := h
  refine quiet_wp hcon hl rfl ?_
  rw [hop]
  simp only [Sem.run_bind, hr, Result.andThen_ok, Sem.run_pure]

theorem new_wp (hcon : Con S w0 F0 H ρ F w) {v : AV} {ob : AO M} (hl : LeafOK S w0 F0 H ρ (fun v w' => next (a.put o.dst v) w') (v, .ext [] [ob])) {c : Obj} {x : Value}
    (hx : ∀ ρ' : Nat → Nat, ρ' H.length = w.heap.size → v.den ρ' = x) (hob : ob.sc (vis (H ++ [ob])) S.locs = true → ∀ w' : World, w'.heap[w.heap.size]? = some c → ob.rep S (fun l => if l = H.length then w.heap.size else ρ l) w.heap.size (fun x => x = w.heap.size) w')
    (hrun : (execOp a.eval o).run P w = .ok (.value x) (w.alloc c)) : o.wp P a w next Q := by
  unfold Oper.wp
  rw [hrun]
  obtain ⟨hsc, hl⟩ := hl
  rw [app_new] at hsc hl
  have hsc' : ob.sc (vis (H ++ [ob])) S.locs = true := by
    simp only [Eff.sc, scSets, scNews, Bool.true_and, Bool.and_true] at hsc
    exact hsc
  obtain ⟨hag, hc⟩ := hcon.new (Sc_of_sc hsc') (hob hsc')
  have := hl _ _ _ hag hc
  rw [hx _ (by simp)] at this
  exact this

theorem set_wp (hcon : Con S w0 F0 H ρ F w) {l : Nat} {o1 : AO M} {w' : World} (hl : LeafOK S w0 F0 H ρ (fun v w' => next (a.put o.dst v) w') (.tup [], .ext [(l, o1)] []))
    (hH : ∃ o, H[l]? = some o ∧ o.vis = true) (hv : o1.vis = true) (hr : o1.rep S ρ (ρ l) (F l) w') (hrest : ∀ x, ¬ F l x → w'.heap[x]? = w.heap[x]?) (hsz : w'.heap.size = w.heap.size) (h1 : w'.os = w.os) (h2 : w'.tape = w.tape) (h3 : w'.output = w.output)
    (hrun : (execOp a.eval o).run P w = .ok .skip w') : o.wp P a w next Q := by
  unfold Oper.wp
  rw [hrun]
  obtain ⟨hsc, hl⟩ := hl
  rw [app_set] at hsc hl
  obtain ⟨o0, ho0, hv0⟩ := hH
  have hsc' : o1.sc (vis (H.set l o1)) S.locs = true := by
    simp only [Eff.sc, scSets, scNews, Bool.and_true, Bool.and_eq_true] at hsc
    exact hsc.2
  exact hl ρ F w' (agree_set (vis_set ho0 hv0 hv) ρ) (hcon.set ho0 hv0 hv (Sc_of_sc hsc') hr hrest hsz h1 h2 h3)

theorem foldB_sound {f : AV → AV → Tree AV} {g : Value → Value → Sem Value} (hfg : ∀ x y (Φ : AV → Prop), (f x y).all Φ → ∃ v, Φ v ∧ ∀ w, (g (x.den ρ) (y.den ρ)).run P w = .ok (v.den ρ) w) :
    ∀ (l : List AV) (x : AV) (Φ : AV → Prop), (foldB f x l).all Φ → ∃ v, Φ v ∧ ∀ w, ((denL ρ l).foldlM g (x.den ρ)).run P w = .ok (v.den ρ) w
  | [], x, Φ, h => ⟨x, h, fun w => by simp [denL]⟩
  | y :: l, x, Φ, h => by
    simp only [foldB, Tree.all_bind] at h
    obtain ⟨z, hz, hr⟩ := hfg x y _ h
    obtain ⟨v, hv, hr'⟩ := foldB_sound hfg l z Φ hz
    exact ⟨v, hv, fun w => by simp [denL, List.foldlM_cons, hr, hr']⟩

theorem lenOfB_sound (hr : ∀ (l : Nat) (o : AO M), H[l]? = some o → o.rep S ρ (ρ l) (F l) w) {t : TypeId} {x : AV} {Φ : AV → Prop} (h : (lenOfB P H t x).all Φ) {ts : Array TypeId} {ty : TypeId} {args : Array Value}
    (ht : ts[0]? = some t) (hx : args[0]? = some (x.den ρ)) : ∃ v, Φ v ∧ (Builtin.len_ ts ty args).run P w = .ok (v.den ρ) w := by
  unfold lenOfB at h
  split at h
  · rename_i s b hu
    exact ⟨_, h, by simp [Builtin.len_, ht, hx, AV.den, run_underlying (undB_und hu), goInt]⟩
  · rename_i n e hu
    exact ⟨_, h, by simp [Builtin.len_, ht, hx, AV.den, run_underlying (undB_und hu), goInt]⟩
  · rename_i hu
    exact ⟨_, h, by simp [Builtin.len_, ht, hx, AV.den, run_underlying (undB_und hu), goInt]⟩
  · rename_i hu
    exact ⟨_, h, by simp [Builtin.len_, ht, hx, AV.den, run_underlying (undB_und hu), goInt]⟩
  · rename_i hu
    exact ⟨_, h, by simp [Builtin.len_, ht, hx, AV.den, run_underlying (undB_und hu), goInt]⟩
  · rename_i hu
    exact ⟨_, h, by simp [Builtin.len_, ht, hx, AV.den, run_underlying (undB_und hu), goInt]⟩
  · rename_i hu
    exact ⟨_, h, by simp [Builtin.len_, ht, hx, AV.den, run_underlying (undB_und hu), goInt]⟩
  · rename_i l hu
    split at h
    · rename_i es hl
      rw [lget_eq] at hl
      obtain ⟨_, ents, clock, hb, hread⟩ := hr l _ hl
      have hlen : ents.size = es.length := by
        have := congrArg List.length hread
        simpa using this
      refine ⟨_, h, ?_⟩
      have hg : (getObj (ρ l)).run P w = .ok (.map ents clock) w := by simp [getObj, Sem.run, hb]
      simp [Builtin.len_, ht, hx, AV.den, run_underlying (undB_und hu), goInt, hg, hlen]
    · exact h.elim
  · exact h.elim

theorem builtinB_sound (hcon : Con S w0 F0 H ρ F w) {b : Builtin} {ts : List TypeId} {args : List AV} {ty : TypeId} {cs : Array Bool}
    (h : (builtinB P H b ts args).all (LeafOK S w0 F0 H ρ fun v w' => next (a.put o.dst v) w')) : o.upon P a next Q ((builtin b ts.toArray ty cs (denL ρ args).toArray).run P w) := by
  unfold builtinB at h
  split at h
  · rename_i t ts x l
    rw [Tree.all_bind] at h
    obtain ⟨v, hv, hr⟩ := lenOfB_sound (P := P) (ty := ty) (ts := (t :: ts).toArray) (args := (denL ρ (x :: l)).toArray) hcon.rep h (by simp) (by simp [denL])
    simp only [builtin, Sem.run_bind, hr, Result.andThen_ok, Sem.run_pure]
    exact hv.2 ρ F w (Agree.refl H ρ) hcon
  · rename_i x l
    rw [Tree.all_bind] at h
    obtain ⟨v, hv, hr⟩ := foldB_sound (P := P) (ρ := ρ) (g := Builtin.min2) (fun x y Φ h => by
      unfold minB at h
      split at h
      · exact ⟨_, h, fun w => by simp [Builtin.min2, AV.den]⟩
      · exact h.elim) l x _ h
    have : (Builtin.min_ ts.toArray ty (denL ρ (x :: l)).toArray).run P w = .ok (v.den ρ) w := by
      simp only [Builtin.min_, denL, hr]
    simp only [builtin, Sem.run_bind, this, Result.andThen_ok, Sem.run_pure]
    exact hv.2 ρ F w (Agree.refl H ρ) hcon
  · rename_i x l
    rw [Tree.all_bind] at h
    obtain ⟨v, hv, hr⟩ := foldB_sound (P := P) (ρ := ρ) (g := Builtin.max2) (fun x y Φ h => by
      unfold maxB at h
      split at h
      · exact ⟨_, h, fun w => by simp [Builtin.max2, AV.den]⟩
      · exact h.elim) l x _ h
    have : (Builtin.max_ ts.toArray ty (denL ρ (x :: l)).toArray).run P w = .ok (v.den ρ) w := by
      simp only [Builtin.max_, denL, hr]
    simp only [builtin, Sem.run_bind, this, Result.andThen_ok, Sem.run_pure]
    exact hv.2 ρ F w (Agree.refl H ρ) hcon
  · rename_i t t' x y
    split at h
    · rename_i ht
      have ht := Nat.eq_of_beq_eq_true ht
      subst ht
      obtain ⟨v', w', hr, hv⟩ := appendB_sound (P := P) hcon h (ty := ty)
      have hr' : (Builtin.append_ [t, t].toArray ty (denL ρ [x, y]).toArray).run P w = .ok v' w' := hr
      simp only [builtin, Sem.run_bind, hr', Result.andThen_ok, Sem.run_pure]
      exact hv
    · exact h.elim
  · exact h.elim

theorem cells_rep {b : Nat} {cs : List AV} {e : TypeId} {ρ' : Nat → Nat} {w' : World} (hb : w'.heap[b]? = some (.cells (denL ρ cs).toArray e (0, 0))) (hd : denL ρ' cs = denL ρ cs) :
    (AO.cells cs e : AO M).rep S ρ' b (fun x => x = b) w' := by
  refine ⟨fun x => Iff.rfl, _, (0, 0), hb, fun i v hv => ?_, fun i _ h => by simp at h⟩
  have : (denL ρ' cs)[i]? = some v := by rw [denL_eq, List.getElem?_map]; exact hv
  rw [hd] at this
  simpa using this

theorem new_cells_wp (hcon : Con S w0 F0 H ρ F w) {v : AV} {cs : List AV} {e : TypeId} (hl : LeafOK S w0 F0 H ρ (fun v w' => next (a.put o.dst v) w') (v, .ext [] [.cells cs e])) {x : Value}
    (hx : ∀ ρ' : Nat → Nat, ρ' H.length = w.heap.size → v.den ρ' = x) (hself : scL (vis H) cs = true)
    (hrun : (execOp a.eval o).run P w = .ok (.value x) (w.alloc (.cells (denL ρ cs).toArray e))) : o.wp P a w next Q := by
  refine new_wp hcon hl hx (fun _ w' hw' => cells_rep hw' ?_) hrun
  refine denL_agree (vis H) ρ _ (fun l hl => ?_) cs hself
  have : l ≠ H.length := by intro e; subst e; rw [vis_eq] at hl; simp at hl
  simp [this]

theorem map_list {α β : Type} (f : α → β) (x : Array α) : x.map f = (x.toList.map f).toArray := by
  rw [← Array.toList_map]

theorem parts_sc {ev : Ev} {H : Hp M} (h : EvSc ev H) : ∀ {xs : List (Nat × Operand)} {vs : List (Nat × AV)}, parts ev xs = some vs → ∀ p ∈ vs, p.2.sc (vis H) = true
  | [], vs, hx => by simp [parts] at hx; subst hx; simp
  | (i, x) :: xs, vs, hx => by
    simp only [parts] at hx
    split at hx
    · rename_i v hv
      simp only [Option.map_eq_some_iff] at hx
      obtain ⟨l, hl, rfl⟩ := hx
      intro y hy
      rcases List.mem_cons.1 hy with rfl | hy
      · exact operand_sc h hv
      · exact parts_sc h hl y hy
    · cases hx

theorem cells_sc {V : Nat → Bool} {v : AV} (h : v.sc V = true) : scL V v.cells = true := by
  cases v <;> first | exact h | (simp only [AV.cells, scL, Bool.and_true]; exact h)

theorem lput_sc {V : Nat → Bool} : ∀ (l : List AV) (o : Nat) (bs r : List AV), lput l o bs = some r → scL V l = true → scL V bs = true → scL V r = true
  | l, o, [], r, h, hl, _ => by cases l <;> simp [lput] at h <;> subst h <;> exact hl
  | [], o, b :: bs, r, h, _, _ => by simp [lput] at h
  | a :: l, 0, b :: bs, r, h, hl, hb => by
    simp only [lput, Option.map_eq_some_iff] at h
    obtain ⟨r', h', rfl⟩ := h
    simp only [scL, Bool.and_eq_true] at hl hb ⊢
    exact ⟨hb.1, lput_sc l 0 bs r' h' hl.2 hb.2⟩
  | a :: l, o + 1, b :: bs, r, h, hl, hb => by
    simp only [lput, Option.map_eq_some_iff] at h
    obtain ⟨r', h', rfl⟩ := h
    simp only [scL, Bool.and_eq_true] at hl ⊢
    exact ⟨hl.1, lput_sc l o (b :: bs) r' h' hl.2 hb⟩

theorem fill_sc {V : Nat → Bool} (place : Nat → Option (Nat × Nat)) : ∀ (ps : List (Nat × AV)) (cs cs' : List AV), fillB place ps cs = some cs' → scL V cs = true → (∀ p ∈ ps, p.2.sc V = true) → scL V cs' = true
  | [], cs, cs', h, hc, _ => by simp only [fillB, Option.some.injEq] at h; subst h; exact hc
  | (i, v) :: rest, cs, cs', h, hc, hp => by
    simp only [fillB] at h
    split at h
    · split at h
      · split at h
        · rename_i c1 hl
          exact fill_sc place rest c1 cs' h (lput_sc _ _ _ _ hl hc (cells_sc (hp (i, v) (by simp)))) (fun p hp' => hp p (by simp [hp']))
        · cases h
      · cases h
    · cases h

theorem repB_sc {V : Nat → Bool} {l : List AV} (h : scL V l = true) : ∀ n, scL V (repB n l) = true
  | 0 => rfl
  | n + 1 => by
    have ih := repB_sc h n
    rw [scL_eq] at *
    rw [repB, lapp_eq, List.all_append, h, ih]; rfl

theorem repB_den {l : List AV} (ρ : Nat → Nat) (n : Nat) : denL ρ (repB n l) = (List.replicate n (denL ρ l)).flatten := by
  rw [repB_eq, denL_eq, List.map_flatten, List.map_replicate, denL_eq]

theorem rep_row (n : Nat) (z : Array Value) (hz : n * z.size ≠ 0 ∨ True) : (Array.range (n * z.size)).map (fun i => z[i % z.size]!) = (List.replicate n z.toList).flatten.toArray := by
  apply Array.ext_getElem?
  intro j
  simp only [Array.getElem?_map, List.getElem?_toArray]
  by_cases hj : j < n * z.size
  · have hs : 0 < z.size := by rcases Nat.eq_zero_or_pos z.size with h | h
                               · rw [h] at hj; simp at hj
                               · exact h
    have hlt := Nat.mod_lt j hs
    rw [Array.getElem?_eq_getElem (by simpa using hj)]
    simp only [Option.map_some, Array.getElem_range]
    rw [getElem!_pos z _ hlt]
    have hf : ∀ (n j : Nat), j < n * z.size → (List.replicate n z.toList).flatten[j]? = z.toList[j % z.size]? := by
      intro n
      induction n with
      | zero => intro j hj; simp at hj
      | succ n ih =>
        intro j hj
        rw [List.replicate_succ, List.flatten_cons]
        by_cases h1 : j < z.size
        · rw [List.getElem?_append_left (by simpa using h1), Nat.mod_eq_of_lt h1]
        · rw [List.getElem?_append_right (by simpa using h1), Array.length_toList, ih (j - z.size) (by rw [Nat.add_mul] at hj; omega)]
          rw [← Nat.mod_eq_sub_mod (by omega)]
    rw [hf n j hj]
    simp [hlt]
  · rw [Array.getElem?_eq_none (by simpa using hj), List.getElem?_eq_none (by simp [List.length_flatten, List.map_replicate, List.sum_replicate_nat]; omega)]
    rfl

theorem makeB_wp (hcon : Con S w0 F0 H ρ F w) {t : TypeId} {x y : AV} (h : (makeB P H t x y).all (LeafOK S w0 F0 H ρ fun v w' => next (a.put o.dst v) w'))
    (hop : execOp a.eval o = (do pure (.value (← Instr.makeSlice t (x.den ρ) (y.den ρ))))) : o.wp P a w next Q := by
  unfold makeB at h
  split at h
  · rename_i e s k l s' k' c hu
    split at h
    · rename_i i z hi hz
      have hinfo := infoB_info hi
      obtain ⟨hzs, i', v, hi', hv, hvc⟩ := zeroB_cells' hz ρ
      rw [hinfo] at hi'
      obtain rfl : i = i' := by simpa using hi'
      split at h
      · rename_i hc
        simp only [Bool.and_eq_true] at hc
        obtain ⟨⟨⟨hzl, hz1⟩, hby⟩, hp⟩ := hc
        have hzl := Nat.eq_of_beq_eq_true hzl
        have hz1 := Nat.le_of_ble_eq_true hz1
        have hby := Nat.le_of_ble_eq_true hby
        rw [lenB_eq] at hzl
        have hzsz : v.cells.size = i.size := by rw [hvc]; simp [denL_eq, hzl]
        obtain ⟨h1, h2⟩ := all_test h
        by_cases hb : 0 ≤ l ∧ l ≤ c ∧ c ≤ 4294967296
        · have h1 := h1 (by simpa using hb)
          have hbytes : (i.bytes : Int) * c ≤ 281474976710656 := by
            have hby' : (i.bytes : Int) ≤ 65536 := by omega
            calc (i.bytes : Int) * c ≤ 65536 * c := Int.mul_le_mul_of_nonneg_right hby' (by omega)
              _ ≤ 281474976710656 := by omega
          have hrun := run_make (P := P) w t e i v (undB_und hu) hinfo hv k k' l c hb.1 hb.2.1 hbytes (by omega)
          have hrun' : (execOp a.eval o).run P w = .ok (.value (.slice (some ⟨w.heap.size, 0, none⟩) l.toNat c.toNat)) (w.alloc (.cells (madeCells v.cells (c.toNat * i.size)) e)) := by
            rw [hop]
            simp only [AV.den, Sem.run_bind, hrun, Result.andThen_ok, Sem.run_pure]
          split at h1
          · refine new_cells_wp hcon h1 (x := .slice (some ⟨w.heap.size, 0, none⟩) l.toNat c.toNat) (fun ρ' hr => by simp [AV.den, hr]) (repB_sc (hzs _) _) ?_
            rw [hrun', repB_den]
            have hrow := rep_row c.toNat v.cells (.inr trivial)
            rw [hzsz] at hrow
            unfold madeCells
            rw [hzsz, hrow, hvc]
          · split at h1
            · split at h1
              · rename_i h1'
                have h1' := Nat.eq_of_beq_eq_true h1'
                refine new_wp hcon h1 (x := .slice (some ⟨w.heap.size, 0, none⟩) l.toNat c.toNat) (fun ρ' hr => by simp [AV.den, hr]) (fun _ w' hw' => ⟨fun x => Iff.rfl, _, (0, 0), hw', fun j u hj => ?_, fun j _ hh => by simp at hh⟩) hrun'
                simp only at hj
                split at hj
                · rename_i hjc
                  simp only [Option.some.injEq] at hj
                  subst hj
                  have hsz : j < (madeCells v.cells (c.toNat * i.size)).size := by rw [size_madeCells, h1']; omega
                  rw [Array.getElem?_eq_getElem hsz]
                  simp [madeCells, hvc, denL, AV.cells, AV.den, Nat.mod_one]
                · cases hj
              · exact h1.elim
            · exact h1.elim
        · exact (h2 (by simpa using hb)).elim
      · exact h.elim
    · exact h.elim
  · exact h.elim

theorem opB_sound {cfg : Cfg M} (hP : cfg.P = P) (hok : ∀ t, cfg.okt t = true → OkType P t) {call : FuncId → List AV → Hp M → Tree (Ans M)} (hcall : CallOK P S call)
    (hcon : Con S w0 F0 H ρ F w) {ev : Ev} (hev : EvRel ev ρ a) (hsc : EvSc ev H)
    (h : (opB cfg call o.op ev H).all (LeafOK S w0 F0 H ρ fun v w' => next (a.put o.dst v) w')) : o.wp P a w next Q := by
  subst hP
  obtain ⟨dst, op, type, pos, after, guard⟩ := o
  cases op <;> simp only [opB] at h
  case move x =>
    obtain ⟨v, hx, hl⟩ := with1_all h
    exact quiet_wp hcon hl rfl (by simp only [execOp, operand_den hev hx, Sem.run_pure])
  case assign x =>
    obtain ⟨v, hx, hl⟩ := with1_all h
    exact quiet_wp hcon hl rfl (by simp only [execOp, operand_den hev hx, Sem.run_pure])
  case pick c x y =>
    have h := quietV_all h
    unfold pickB at h
    split at h
    · rename_i hc
      split at h
      · rename_i v hv
        exact quiet_wp hcon h rfl (by simp [execOp, operand_den hev hc, operand_den hev hv, AV.den, asBool])
      · exact h.elim
    · rename_i hc
      split at h
      · rename_i v hv
        exact quiet_wp hcon h rfl (by simp [execOp, operand_den hev hc, operand_den hev hv, AV.den, asBool])
      · exact h.elim
    · rename_i c' hc
      split at h
      · rename_i k x' k' y' hx hy
        split at h
        · rename_i hk
          subst hk
          refine quiet_wp hcon h rfl ?_
          cases c' <;> simp [execOp, operand_den hev hc, operand_den hev hx, operand_den hev hy, AV.den, asBool]
        · exact h.elim
      · rename_i x' y' hx hy
        refine quiet_wp hcon h rfl ?_
        cases c' <;> simp [execOp, operand_den hev hc, operand_den hev hx, operand_den hev hy, AV.den, asBool]
      · rename_i v u _ _ hx hy
        obtain ⟨h1, h2⟩ := h
        cases c' with
        | true => exact quiet_wp hcon (h1 rfl) rfl (by simp [execOp, operand_den hev hc, operand_den hev hx, AV.den, asBool])
        | false => exact quiet_wp hcon (h2 rfl) rfl (by simp [execOp, operand_den hev hc, operand_den hev hy, AV.den, asBool])
      · exact h.elim
    · exact h.elim
  case alloc t =>
    obtain ⟨z, hz, hl⟩ := with1_all h
    obtain ⟨hzs, i, v, hi, hv, hvc⟩ := zeroB_cells hz ρ (vis H)
    refine new_cells_wp hcon hl (x := .pointer (some ⟨w.heap.size, 0, none⟩)) (fun ρ' hr => by simp [AV.den, hr]) hzs ?_
    simp [execOp, Instr.alloc, zeroValue, typeInfo, hi, hv, newVar, newRow, hvc]
  case box t x =>
    obtain ⟨v, hx, hl⟩ := with1_all h
    have hvs := operand_sc hsc hx
    split at hl
    · rename_i hp
      refine new_cells_wp hcon hl (x := .pointer (some ⟨w.heap.size, 0, none⟩)) (fun ρ' hr => by simp [AV.den, hr]) (cells_sc hvs) ?_
      have hd := den_cells ρ v (plain_raw hp)
      simp [execOp, Instr.box, newVar, newRow, operand_den hev hx, hd]
    · exact hl.elim
  case build t ps =>
    split at h
    · rename_i l hl
      obtain ⟨v, hv, hl'⟩ := with1_all h
      refine quiet_wp hcon hl' rfl ?_
      have := build_sound hv ρ w
      rw [← parts_den hev hl] at this
      simp only [execOp, Sem.run_bind]
      rw [show (ps.map fun (x : Nat × Operand) => match x with | (i, x) => (i, a.eval x)) = (ps.toList.map fun p => (p.1, a.eval p.2)).toArray from map_list _ ps]
      rw [this]
      rfl
    · exact h.elim
  case buildSlice t len ps =>
    split at h
    · rename_i e l hu hl
      split at h
      · rename_i n z hn hz
        split at h
        · exact h.elim
        · rename_i hbig
          split at h
          · exact h.elim
          · rename_i hc
            split at h
            · rename_i cs hf
              simp only [Bool.or_eq_true, not_or, Bool.not_eq_true', Bool.not_eq_true, Bool.not_eq_false] at hc
              obtain ⟨⟨hlen0, hzn⟩, hn0⟩ := hc
              obtain ⟨hzs, i, v, hi, hv, hvc⟩ := zeroB_cells hz ρ (vis H)
              have hzn' := Nat.eq_of_beq_eq_true hzn
              rw [lenB_eq] at hzn'
              have hzsz : v.cells.size = n := by rw [hvc]; simp [denL_eq, hzn']
              have hps := parts_sc hsc hl
              have hfs := fill_sc _ l _ cs hf (repB_sc hzs len) hps
              refine new_cells_wp hcon h (x := .slice (some ⟨w.heap.size, 0, none⟩) len len) (fun ρ' hr => by simp [AV.den, hr]) hfs ?_
              have hlen : len * n ≠ 0 := by
                intro e
                rcases Nat.mul_eq_zero.1 e with e | e
                · subst e; simp at hlen0
                · subst e; simp at hn0
              have hfill := fill_sound ρ (fun i => some (i * n, n)) l (repB len z.cells) cs hf
              rw [repB_den] at hfill
              have hrow := rep_row len v.cells (.inr trivial)
              rw [hzsz] at hrow
              have hparts : (ps.toList.map fun p => (p.1, a.eval p.2)) = l.map fun p => (p.1, p.2.den ρ) := parts_den hev hl
              simp only [execOp, Instr.buildSlice, Sem.run_bind, run_underlying (undB_und hu), Result.andThen_ok, run_sizeOfB hn, hbig, if_false, hlen, zeroValue, typeInfo, run_program, hi, hv, Sem.run_pure]
              rw [hzsz, hrow, hvc]
              rw [show (ps.map fun (x : Nat × Operand) => match x with | (i, x) => (i, a.eval x)).toList = l.map fun p => (p.1, p.2.den ρ) by rw [← hparts, Array.toList_map]]
              simp only [hfill]
              simp [newRow]
            · exact h.elim
      · exact h.elim
    · exact h.elim
  case load t x =>
    obtain ⟨v, hx, hl⟩ := with1_all h
    obtain ⟨r, hr, hrun⟩ := loadAt_sound (P := cfg.P) hcon.rep (quietV_all hl)
    exact quiet_wp' hcon (s := Instr.loadAt t (a.eval x)) rfl ⟨r, hr, by rw [operand_den hev hx]; exact hrun⟩
  case store t x y =>
    obtain ⟨p, v, hx, hy, hl⟩ := with2_all h
    rw [Tree.all_bind] at hl
    obtain ⟨l, o', w', hΦ, hH, hv', hrun, hrep, hrest, h0, h1, h2, h3⟩ := storeAt_sound (P := cfg.P) hcon.rep hl
    refine set_wp hcon hΦ hH hv' hrep hrest h0 h1 h2 h3 ?_
    simp only [execOp, Sem.run_bind, operand_den hev hx, operand_den hev hy, hrun, Result.andThen_ok, Sem.run_pure]
  case nilCheck x =>
    obtain ⟨v, hx, hl⟩ := with1_all h
    split at hl
    · exact quiet_wp hcon hl rfl (by simp [execOp, operand_den hev hx, AV.den])
    · exact quiet_wp hcon hl rfl (by simp [execOp, operand_den hev hx, AV.den])
    · exact quiet_wp hcon hl rfl (by simp [execOp, operand_den hev hx, AV.den])
    · exact hl.elim
  case binOp op t x y u =>
    obtain ⟨p, v, hx, hy, hl⟩ := with2_all h
    obtain ⟨r, hr, hrun⟩ := binB_sound hok (quietV_all hl) ρ w x y
    exact quiet_wp' hcon (s := do eqGuard op t x y (a.eval x) (a.eval y); binOp op t (a.eval x) (a.eval y)) rfl ⟨r, hr, by rw [operand_den hev hx, operand_den hev hy]; exact hrun⟩
  case unOp op t x =>
    obtain ⟨v, hx, hl⟩ := with1_all h
    obtain ⟨r, hr, hrun⟩ := unB_sound (P := cfg.P) (quietV_all hl) ρ w
    exact quiet_wp' hcon (s := Op.unary op (a.eval x)) rfl ⟨r, hr, by rw [operand_den hev hx]; exact hrun⟩
  case convert s d x =>
    obtain ⟨v, hx, hl⟩ := with1_all h
    obtain ⟨r, hr, hrun⟩ := convB_sound (quietV_all hl) ρ w
    exact quiet_wp' hcon (s := convert s d (a.eval x)) rfl ⟨r, hr, by rw [operand_den hev hx]; exact hrun⟩
  case sliceToArrayPointer t x =>
    obtain ⟨v, hx, hl⟩ := with1_all h
    split at hl
    · rename_i n e s l i z m c hu
      obtain ⟨h1, h2⟩ := all_test hl
      by_cases hm : n ≤ m
      · refine quiet_wp hcon (h1 (by simpa using hm)) rfl ?_
        simp [execOp, Instr.arrayAt, operand_den hev hx, AV.den, run_underlying (undB_und hu), Nat.not_lt.2 hm]
      · exact (h2 (by simpa using hm)).elim
    · exact hl.elim
  case makeFunc f x y =>
    split at h
    · rename_i l m hl hm
      refine quiet_wp hcon h rfl ?_
      have h1 := operands_den hev hl
      have h2 := operands_den hev hm
      have e1 : x.map a.eval = (denL ρ l).toArray := by rw [← h1]; exact map_list _ x
      have e2 : y.map a.eval = (denL ρ m).toArray := by rw [← h2]; exact map_list _ y
      simp [execOp, Instr.makeFunc, e1, e2, AV.den]
    · exact h.elim
  case makeMap t r =>
    cases r with
    | some x => exact h.elim
    | none =>
      refine new_wp hcon h (c := .map #[] 0) (x := .map (some w.heap.size)) (fun ρ' hr => by simp [AV.den, hr]) (fun _ w' hw' => ⟨fun x => Iff.rfl, #[], 0, hw', rfl⟩) ?_
      simp [execOp, Instr.makeMap]
  case makeSlice t x y =>
    obtain ⟨p, v, hx, hy, hl⟩ := with2_all h
    exact makeB_wp hcon hl (by simp only [execOp, operand_den hev hx, operand_den hev hy])
  case slice t x lo hi mx =>
    split at h
    · rename_i l hh m hl hhi hm
      obtain ⟨v, hx, hl'⟩ := with1_all h
      obtain ⟨r, hr, hrun⟩ := sliceB_sound (quietV_all hl') ρ w
      refine quiet_wp' hcon (s := Instr.sliceAt t (a.eval x) (lo.map a.eval) (hi.map a.eval) (mx.map a.eval)) rfl ⟨r, hr, ?_⟩
      rw [operand_den hev hx, opt_den hev hl, opt_den hev hhi, opt_den hev hm]
      exact hrun
    · exact h.elim
  case fieldAddr t x i =>
    obtain ⟨v, hx, hl⟩ := with1_all h
    split at hl
    · rename_i fs l y z o hu
      split at hl
      · rename_i f hf
        split at hl
        · rename_i n hn
          split at hl
          · exact hl.elim
          · rename_i h0
            exact quiet_wp' hcon (s := Instr.fieldAt t (a.eval x) i) rfl ⟨_, hl, by rw [operand_den hev hx]; exact fieldAt_sound hu hf hn (Bool.eq_false_iff.2 h0) ρ w⟩
        · exact hl.elim
      · exact hl.elim
    · rename_i fs l y m z o g hu
      split at hl
      · rename_i f hf
        split at hl
        · rename_i n hn
          split at hl
          · exact hl.elim
          · rename_i h0
            exact quiet_wp' hcon (s := Instr.fieldAt t (a.eval x) i) rfl ⟨_, hl, by rw [operand_den hev hx]; exact fieldAtX_sound hu hf hn (Bool.eq_false_iff.2 h0) ρ w⟩
        · exact hl.elim
      · exact hl.elim
    · exact hl.elim
  case field t x i =>
    obtain ⟨v, hx, hl⟩ := with1_all h
    obtain ⟨r, hr, hrun⟩ := fieldB_sound (quietV_all hl) ρ w
    exact quiet_wp' hcon (s := Instr.field t (a.eval x) i) rfl ⟨r, hr, by rw [operand_den hev hx]; exact hrun⟩
  case indexAddr t x y =>
    obtain ⟨p, v, hx, hy, hl⟩ := with2_all h
    obtain ⟨r, hr, hrun⟩ := indexAddrB_sound rfl (quietV_all hl) ρ w
    exact quiet_wp' hcon (s := Instr.indexAt t (a.eval x) (a.eval y)) rfl ⟨r, hr, by rw [operand_den hev hx, operand_den hev hy]; exact hrun⟩
  case index t x y =>
    obtain ⟨p, v, hx, hy, hl⟩ := with2_all h
    obtain ⟨r, hr, hrun⟩ := indexB_sound rfl (quietV_all hl) ρ w
    exact quiet_wp' hcon (s := Instr.index t (a.eval x) (a.eval y)) rfl ⟨r, hr, by rw [operand_den hev hx, operand_den hev hy]; exact hrun⟩
  case lookup t x y c =>
    obtain ⟨p, v, hx, hy, hl⟩ := with2_all h
    obtain ⟨r, hr, hrun⟩ := lookupB_sound hok hcon.rep (quietV_all hl)
    exact quiet_wp' hcon (s := Instr.lookup t (a.eval x) (a.eval y) c) rfl ⟨r, hr, by rw [operand_den hev hx, operand_den hev hy]; exact hrun⟩
  case mapUpdate t m k x =>
    split at h
    · rename_i p q v hm hk hx
      rw [Tree.all_bind] at h
      obtain ⟨l, o', w', hΦ, hH, hv', hrun, hrep, hrest, h0, h1, h2, h3⟩ := mapUpdateB_sound hok hcon.rep h
      refine set_wp hcon hΦ hH hv' hrep hrest h0 h1 h2 h3 ?_
      simp only [execOp, Sem.run_bind, operand_den hev hm, operand_den hev hk, operand_den hev hx, hrun, Result.andThen_ok, Sem.run_pure]
    · exact h.elim
  case insert t m k x =>
    split at h
    · rename_i p q v hm hk hx
      rw [Tree.all_bind] at h
      obtain ⟨l, o', w', hΦ, hH, hv', hrun, hrep, hrest, h0, h1, h2, h3⟩ := mapUpdateB_sound hok hcon.rep h
      refine set_wp hcon hΦ hH hv' hrep hrest h0 h1 h2 h3 ?_
      simp only [execOp, Sem.run_bind, operand_den hev hm, operand_den hev hk, operand_den hev hx, hrun, Result.andThen_ok, Sem.run_pure]
    · exact h.elim
  case extract t i =>
    obtain ⟨v, hx, hl⟩ := with1_all h
    split at hl
    · rename_i l
      split at hl
      · rename_i u hu
        rw [lget_eq] at hu
        refine quiet_wp hcon hl rfl ?_
        have : (denL ρ l).toArray[i]? = some (u.den ρ) := by simp [denL_eq, hu]
        simp [execOp, Instr.extract, operand_den hev hx, AV.den, this]
      · exact hl.elim
    · exact hl.elim
  case call c =>
    unfold callB at h
    split at h
    · exact h.elim
    · rename_i args hargs
      have hden : c.args.map a.eval = (denL ρ args).toArray := by rw [← operands_den hev hargs]; exact map_list _ _
      split at h
      · rename_i b hb
        unfold Oper.wp
        simp only [execOp, resolve, hb, Sem.run_bind, Sem.run_pure, Result.andThen_ok, hden, invoke]
        exact builtinB_sound (Q := Q) (ty := type) (o := ⟨dst, .call c, type, pos, after, guard⟩) hcon h
      · exact h.elim
      · rename_i f hf
        split at h
        · rename_i g first captured hfv
          unfold Oper.wp
          have hs := operand_sc hsc hfv
          simp only [AV.sc, Bool.and_eq_true, scL_eq, List.all_eq_true] at hs
          have hall : ∀ x ∈ lapp (lapp first args) captured, x.sc (vis H) = true := by
            intro x hx
            rw [lapp_eq, lapp_eq, List.mem_append, List.mem_append] at hx
            rcases hx with (hx | hx) | hx
            · exact hs.1 x hx
            · exact operands_sc hsc hargs x hx
            · exact hs.2 x hx
          have := hcall g _ H ρ F w w0 F0 _ hcon hall h
          have hargs2 : (denL ρ (lapp (lapp first args) captured)).toArray = (denL ρ first).toArray ++ (denL ρ args).toArray ++ (denL ρ captured).toArray := by
            simp [lapp_eq, denL_eq]
          rw [hargs2] at this
          simp only [execOp, resolve, hf, operand_den hev hfv, AV.den, Deferred.ofValue, Sem.run_bind, Sem.run_pure, Result.andThen_ok, hden, invoke]
          exact this ⟨dst, .call c, type, pos, after, guard⟩ a next Q (fun v w' hv => hv)
        · exact h.elim
  all_goals exact h.elim

end
end
end Go.SX
