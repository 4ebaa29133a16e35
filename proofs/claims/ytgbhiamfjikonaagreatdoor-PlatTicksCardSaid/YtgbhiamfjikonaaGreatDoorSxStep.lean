/- SX: one operation. -/
import Derived.Test.YtgbhiamfjikonaaGreatDoorSxMaps
set_option linter.unusedVariables false
set_option linter.unusedSimpArgs false
namespace Go.SX
section
variable {P : Program} {M : Type} {S : Seal M}

/-! What becomes of objects when the world, or the places, turn elsewhere. -/

theorem rowAt_here {w w' : World} {b : Nat} {e : TypeId} {n : Nat} {f : Nat → Option Value} (h : rowAt w b e n f) (hw : w'.heap[b]? = w.heap[b]?) : rowAt w' b e n f := by
  obtain ⟨arr, fz, hb, r⟩ := h
  exact ⟨arr, fz, by rw [hw]; exact hb, r⟩

theorem rep_here {o : AO M} {ρ : Nat → Nat} {b : Nat} {F : Nat → Prop} {w w' : World} (h : o.rep S ρ b F w) (hw : ∀ x, F x → w'.heap[x]? = w.heap[x]?) : o.rep S ρ b F w' := by
  cases o with
  | hid => exact h
  | none => exact h
  | cells c e => exact ⟨h.1, rowAt_here h.2 (hw b ((h.1 b).2 rfl))⟩
  | ints k q n sg g e => exact ⟨h.1, rowAt_here h.2 (hw b ((h.1 b).2 rfl))⟩
  | view k lo n g o => exact ⟨h.1, by rw [hw b ((h.1 b).2 rfl)]; exact h.2.1, h.2.2⟩
  | rows n z g e => exact ⟨h.1, h.2.1, rowAt_here h.2.2 (hw b ((h.1 b).2 rfl))⟩
  | at1 i v e => exact ⟨h.1, rowAt_here h.2 (hw b ((h.1 b).2 rfl))⟩
  | buf c lc y e =>
    obtain ⟨hF, arr, hb, r⟩ := h
    exact ⟨hF, arr, by rw [hw b ((hF b).2 rfl)]; exact hb, r⟩
  | map es =>
    obtain ⟨hF, ents, clock, hb, r⟩ := h
    exact ⟨hF, ents, clock, by rw [hw b ((hF b).2 rfl)]; exact hb, r⟩
  | res m => exact S.here m ρ b F w w' h hw

theorem scM_agree {V : Nat → Bool} {ρ ρ' : Nat → Nat} (h : ∀ l, V l = true → ρ' l = ρ l) : ∀ es : List (AV × AV), AO.sc.scM V es = true →
    (es.map fun p => (p.1.den ρ', p.2.den ρ')) = es.map fun p => (p.1.den ρ, p.2.den ρ)
  | [], _ => rfl
  | (a, b) :: l, hs => by
    simp only [AO.sc.scM, Bool.and_eq_true] at hs
    simp only [List.map_cons, den_agree V ρ ρ' h a hs.1.1, den_agree V ρ ρ' h b hs.1.2, scM_agree h l hs.2]

theorem allB_mem {V : Nat → Bool} : ∀ l : List Nat, AO.sc.allB V l = true → ∀ x ∈ l, V x = true
  | [], _, x, hx => by simp at hx
  | a :: l, h, x, hx => by
    simp only [AO.sc.allB, Bool.and_eq_true] at h
    rcases List.mem_cons.1 hx with rfl | hx
    · exact h.1
    · exact allB_mem l h.2 x hx

theorem den_cell_agree {V : Nat → Bool} {ρ ρ' : Nat → Nat} (h : ∀ l, V l = true → ρ' l = ρ l) {c : List AV} (hc : scL V c = true) (i : Nat) : (c[i]?).map (AV.den ρ') = (c[i]?).map (AV.den ρ) := by
  have := denL_agree V ρ ρ' h c hc
  rw [denL_eq, denL_eq] at this
  rw [← List.getElem?_map, ← List.getElem?_map, this]

theorem rep_agree {o : AO M} {V : Nat → Bool} {ρ ρ' : Nat → Nat} {b : Nat} {F : Nat → Prop} {w : World} (h : o.rep S ρ b F w) (hs : o.Sc S V) (ha : ∀ l, V l = true → ρ' l = ρ l) : o.rep S ρ' b F w := by
  cases o with
  | hid => exact h
  | none => exact h
  | cells c e =>
    obtain ⟨hF, arr, fz, hb, hc, hz⟩ := h
    refine ⟨hF, arr, fz, hb, fun i v hv => hc i v ?_, hz⟩
    rw [← hv]; exact (den_cell_agree ha hs i).symm
  | ints k q n sg g e => exact h
  | view k lo n g o => exact h
  | rows n z g e =>
    obtain ⟨hF, hl, arr, fz, hb, hc, hz⟩ := h
    refine ⟨hF, hl, arr, fz, hb, fun i v hv => hc i v ?_, hz⟩
    rw [← hv]
    by_cases hi : i < n * z
    · simp only [hi, if_true]
      have hz0 : 0 < z := by rcases Nat.eq_zero_or_pos z with h | h
                             · subst h; simp at hi
                             · exact h
      exact (den_cell_agree ha (hs (i / z) ((Nat.div_lt_iff_lt_mul hz0).2 hi)) _).symm
    · simp only [hi, if_false]
  | at1 i v e =>
    obtain ⟨hF, arr, fz, hb, hc, hz⟩ := h
    refine ⟨hF, arr, fz, hb, fun j u hu => hc j u ?_, hz⟩
    rw [den_agree V ρ ρ' ha v hs] at hu
    exact hu
  | buf c lc y e =>
    obtain ⟨hF, arr, hb, hsz, hmx, hle, hc⟩ := h
    have hs : (scL V c && V lc) = true := hs
    rw [Bool.and_eq_true] at hs
    have hlc := ha lc hs.2
    refine ⟨hF, arr, hb, by rw [hlc]; exact hsz, by rw [hlc]; exact hmx, hle, fun i v hv => hc i v ?_⟩
    rw [← hv]; exact (den_cell_agree ha hs.1 i).symm
  | map es =>
    obtain ⟨hF, ents, clock, hb, hr⟩ := h
    exact ⟨hF, ents, clock, hb, by rw [hr, scM_agree ha es hs]⟩
  | res m => exact S.ren m ρ ρ' b F w h fun l hl => ha l (allB_mem _ hs l hl)

theorem Sc_mono {o : AO M} {V W : Nat → Bool} (h : ∀ l, V l = true → W l = true) (hs : o.Sc S V) : o.Sc S W := by
  cases o with
  | hid => rfl
  | none => rfl
  | cells c e => exact scL_mono V W h c hs
  | ints k q n sg g e => rfl
  | view k lo n g o => rfl
  | rows n z g e => exact fun i hi => scL_mono V W h _ (hs i hi)
  | at1 i v e => exact sc_mono V W h v hs
  | buf c lc y e =>
    have hs : (scL V c && V lc) = true := hs
    rw [Bool.and_eq_true] at hs
    show (scL W c && W lc) = true
    rw [Bool.and_eq_true]
    exact ⟨scL_mono V W h c hs.1, h lc hs.2⟩
  | map es =>
    have : ∀ es : List (AV × AV), AO.sc.scM V es = true → AO.sc.scM W es = true := by
      intro es
      induction es with
      | nil => intro _; rfl
      | cons p l ih =>
        obtain ⟨a, b⟩ := p
        intro hp
        simp only [AO.sc.scM, Bool.and_eq_true] at hp ⊢
        exact ⟨⟨sc_mono V W h a hp.1.1, sc_mono V W h b hp.1.2⟩, ih hp.2⟩
    exact this es hs
  | res m =>
    have : ∀ l : List Nat, AO.sc.allB V l = true → AO.sc.allB W l = true := by
      intro l
      induction l with
      | nil => intro _; rfl
      | cons a l ih =>
        intro hp
        simp only [AO.sc.allB, Bool.and_eq_true] at hp ⊢
        exact ⟨h a hp.1, ih hp.2⟩
    exact this _ hs

theorem Sc_of_sc {o : AO M} {V : Nat → Bool} (h : o.sc V S.locs = true) : o.Sc S V := by
  cases o <;> first | exact h | (simp [AO.sc] at h)

/-! The heap turned. -/

section
variable {w0 : World} {F0 : Nat → Prop} {H : Hp M} {ρ : Nat → Nat} {F : Nat → Nat → Prop} {w : World}

theorem Con.noteq (h : Con S w0 F0 H ρ F w) {w' : World} (hh : w'.heap = w.heap) (ho : w'.os = w.os) (ht : w'.tape = w.tape) (hp : w'.output = w.output) : Con S w0 F0 H ρ F w' where
  rep := fun l o hl => rep_here (h.rep l o hl) (fun x _ => by rw [hh])
  scp := h.scp
  out := h.out
  dis := h.dis
  lt := fun l x hx => by rw [hh]; exact h.lt l x hx
  own := h.own
  old := fun x hx hn => by rw [hh]; exact h.old x hx hn
  size := by rw [hh]; exact h.size
  os := ho.trans h.os
  tape := ht.trans h.tape
  output := hp.trans h.output

/-- A new object. -/
theorem Con.new (h : Con S w0 F0 H ρ F w) {o : AO M} {ob : Obj} (hs : o.Sc S (vis (H ++ [o])))
    (hr : ∀ w' : World, w'.heap[w.heap.size]? = some ob → o.rep S (fun l => if l = H.length then w.heap.size else ρ l) w.heap.size (fun x => x = w.heap.size) w') :
    Agree H (H ++ [o]) ρ (fun l => if l = H.length then w.heap.size else ρ l) ∧
    Con S w0 F0 (H ++ [o]) (fun l => if l = H.length then w.heap.size else ρ l) (fun l => if l = H.length then (fun x => x = w.heap.size) else F l) (w.alloc ob) := by
  have hag : ∀ l, vis H l = true → (fun l => if l = H.length then w.heap.size else ρ l) l = ρ l := by
    intro l hl
    have : l ≠ H.length := by
      intro e; subst e
      rw [vis_eq] at hl; simp at hl
    simp [this]
  have hvis : ∀ l, vis H l = true → vis (H ++ [o]) l = true := by
    intro l hl
    rw [vis_eq] at hl ⊢
    have hlt : l < H.length := by
      rcases Nat.lt_or_ge l H.length with h | h
      · exact h
      · rw [List.getElem?_eq_none h] at hl; cases hl
    rw [List.getElem?_append_left hlt]; exact hl
  refine ⟨⟨hag, hvis⟩, ?_⟩
  have hnew : (w.alloc ob).heap[w.heap.size]? = some ob := by show (w.heap.push ob)[w.heap.size]? = _; simp
  have hold : ∀ x, x < w.heap.size → (w.alloc ob).heap[x]? = w.heap[x]? := fun x hx => by
    show (w.heap.push ob)[x]? = _
    simp [Array.getElem?_push, Nat.ne_of_lt hx]
  refine ⟨fun l o' hl => ?_, fun l o' hl => ?_, fun l hl x => ?_, fun l l' x h1 h2 => ?_, fun l x hx => ?_, fun l x hx => ?_, fun x hx hn => ?_, ?_, h.os, h.tape, h.output⟩
  · by_cases e : l = H.length
    · subst e
      simp at hl
      subst hl
      simpa using hr _ hnew
    · have hlt : l < H.length := by
        have := (List.getElem?_eq_some_iff.1 hl).1
        simp at this; omega
      rw [List.getElem?_append_left hlt] at hl
      simp only [e, if_false]
      exact rep_agree (rep_here (h.rep l o' hl) (fun x hx => hold x (h.lt l x hx))) (h.scp l o' hl) hag
  · by_cases e : l = H.length
    · subst e
      simp at hl
      subst hl
      exact hs
    · have hlt : l < H.length := by
        have := (List.getElem?_eq_some_iff.1 hl).1
        simp at this; omega
      rw [List.getElem?_append_left hlt] at hl
      exact Sc_mono hvis (h.scp l o' hl)
  · have hlen : H.length + 1 ≤ l := by simpa using hl
    have e : l ≠ H.length := by omega
    simp only [e, if_false]
    exact h.out l (List.getElem?_eq_none (by omega)) x
  · by_cases e : l = H.length <;> by_cases e' : l' = H.length
    · omega
    · simp only [e, if_true, e', if_false] at h1 h2
      have := h.lt l' x h2; omega
    · simp only [e, if_false, e', if_true] at h1 h2
      have := h.lt l x h1; omega
    · simp only [e, e', if_false] at h1 h2
      exact h.dis l l' x h1 h2
  · by_cases e : l = H.length
    · simp only [e, if_true] at hx; simp [hx]
    · simp only [e, if_false] at hx
      have := h.lt l x hx; simp; omega
  · by_cases e : l = H.length
    · simp only [e, if_true] at hx
      exact .inr (by rw [hx]; exact h.size)
    · simp only [e, if_false] at hx
      exact h.own l x hx
  · rw [hold x (Nat.lt_of_lt_of_le hx h.size)]; exact h.old x hx hn
  · have := h.size; simp; omega

theorem agree_set {l : Nat} {o' : AO M} (h : vis (H.set l o') = vis H) (ρ : Nat → Nat) : Agree H (H.set l o') ρ ρ := ⟨fun _ _ => rfl, fun l hl => by rw [h]; exact hl⟩

theorem vis_set {l : Nat} {o o' : AO M} (ho : H[l]? = some o) (hv : o.vis = true) (hv' : o'.vis = true) : vis (H.set l o') = vis H := by
  funext k
  rw [vis_eq, vis_eq, List.getElem?_set]
  by_cases e : l = k
  · subst e
    have hlt := (List.getElem?_eq_some_iff.1 ho).1
    rw [if_pos rfl, if_pos hlt, ho]
    simp [hv, hv']
  · simp [e]

/-- An object turned. -/
theorem Con.set (h : Con S w0 F0 H ρ F w) {l : Nat} {o o' : AO M} {w' : World} (ho : H[l]? = some o) (hv : o.vis = true) (hv' : o'.vis = true) (hs : o'.Sc S (vis (H.set l o')))
    (hr : o'.rep S ρ (ρ l) (F l) w') (hrest : ∀ x, ¬ F l x → w'.heap[x]? = w.heap[x]?) (hsz : w'.heap.size = w.heap.size) (h1 : w'.os = w.os) (h2 : w'.tape = w.tape) (h3 : w'.output = w.output) :
    Con S w0 F0 (H.set l o') ρ F w' := by
  have hlt := (List.getElem?_eq_some_iff.1 ho).1
  refine ⟨fun k ok hk => ?_, fun k ok hk => ?_, fun k hk => ?_, h.dis, fun k x hx => by rw [hsz]; exact h.lt k x hx, h.own, fun x hx hn => ?_, by rw [hsz]; exact h.size, h1.trans h.os, h2.trans h.tape, h3.trans h.output⟩
  · by_cases e : l = k
    · subst e
      simp [hlt] at hk
      subst hk
      exact hr
    · rw [List.getElem?_set_ne e] at hk
      exact rep_here (h.rep k ok hk) fun x hx => hrest x fun hx' => e (h.dis l k x hx' hx)
  · rw [vis_set ho hv hv'] at hs ⊢
    by_cases e : l = k
    · subst e
      simp [hlt] at hk
      subst hk
      exact hs
    · rw [List.getElem?_set_ne e] at hk
      exact h.scp k ok hk
  · exact h.out k (by simpa using hk)
  · by_cases hf : F l x
    · rcases h.own l x hf with h4 | h4
      · exact absurd h4 hn
      · omega
    · rw [hrest x hf]; exact h.old x hx hn
end

theorem app_quiet (H : Hp M) : (Eff.quiet : Eff M).app H = H := rfl
theorem app_new (H : Hp M) (o : AO M) : (Eff.ext [] [o] : Eff M).app H = H ++ [o] := by simp [Eff.app, applySets, lapp_eq]
theorem app_set (H : Hp M) (l : Nat) (o : AO M) : (Eff.ext [(l, o)] [] : Eff M).app H = H.set l o := by simp [Eff.app, applySets, lapp_eq, lset_eq]

/-- What is owed at a leaf. -/
def LeafOK (S : Seal M) (w0 : World) (F0 : Nat → Prop) (H : Hp M) (ρ : Nat → Nat) (R : Value → World → Prop) : Ans M → Prop
  | (v, e) => e.sc (vis (e.app H)) S.locs = true ∧ ∀ ρ' F' w', Agree H (e.app H) ρ ρ' → Con S w0 F0 (e.app H) ρ' F' w' → R (v.den ρ') w'

/-- A call of a function, as an operation meets it. -/
def CallRun (P : Program) (f : FuncId) (args : Array Value) (w : World) (R : Value → World → Prop) : Prop :=
  ∀ (o : Oper) (a : Act) (next : Act → World → Prop) (Q : Exit → Act → World → Prop), (∀ v w', R v w' → next (a.put o.dst v) w') → o.upon P a next Q ((callFunc f args).run P w)

def CallOK (P : Program) (S : Seal M) (call : FuncId → List AV → Hp M → Tree (Ans M)) : Prop :=
  ∀ (f : FuncId) (args : List AV) (H : Hp M) (ρ : Nat → Nat) (F : Nat → Nat → Prop) (w w0 : World) (F0 : Nat → Prop) (R : Value → World → Prop),
    Con S w0 F0 H ρ F w → (∀ x ∈ args, x.sc (vis H) = true) → (call f args H).all (LeafOK S w0 F0 H ρ R) → CallRun P f (denL ρ args).toArray w R

def EvRel (ev : Ev) (ρ : Nat → Nat) (a : Act) : Prop := ∀ t v, ev t = some v → a.tmps.getD t undef = v.den ρ
def EvSc (ev : Ev) (H : Hp M) : Prop := ∀ t v, ev t = some v → v.sc (vis H) = true

theorem constCell_sc (V : Nat → Bool) (v : Value) : (constCell v).sc V = true := by
  unfold constCell; split <;> rfl

theorem constAV_sc (V : Nat → Bool) (v : Value) : (constAV v).sc V = true := by
  unfold constAV
  split
  · simp only [AV.sc, scL_eq, List.all_map]
    exact List.all_eq_true.2 fun x _ => constCell_sc V x
  · exact constCell_sc V v

theorem operand_den {ev : Ev} {ρ : Nat → Nat} {a : Act} (h : EvRel ev ρ a) {x : Operand} {v : AV} (hx : operand ev x = some v) : a.eval x = v.den ρ := by
  cases x with
  | tmp t => exact h t v hx
  | const c => simp [operand] at hx; subst hx; simp [Act.eval, constAV_den]
  | global g => simp [operand] at hx; subst hx; rfl
  | func f => simp [operand] at hx; subst hx; rfl

theorem operand_sc {ev : Ev} {H : Hp M} (h : EvSc ev H) {x : Operand} {v : AV} (hx : operand ev x = some v) : v.sc (vis H) = true := by
  cases x with
  | tmp t => exact h t v hx
  | const c => simp [operand] at hx; subst hx; exact constAV_sc _ _
  | global g => simp [operand] at hx; subst hx; rfl
  | func f => simp [operand] at hx; subst hx; rfl

theorem operands_den {ev : Ev} {ρ : Nat → Nat} {a : Act} (h : EvRel ev ρ a) : ∀ {xs : List Operand} {vs : List AV}, operands ev xs = some vs → xs.map a.eval = denL ρ vs
  | [], vs, hx => by simp [operands] at hx; subst hx; rfl
  | x :: xs, vs, hx => by
    simp only [operands] at hx
    split at hx
    · rename_i v hv
      simp only [Option.map_eq_some_iff] at hx
      obtain ⟨l, hl, rfl⟩ := hx
      simp [denL, operand_den h hv, operands_den h hl]
    · cases hx

theorem operands_sc {ev : Ev} {H : Hp M} (h : EvSc ev H) : ∀ {xs : List Operand} {vs : List AV}, operands ev xs = some vs → ∀ v ∈ vs, v.sc (vis H) = true
  | [], vs, hx => by simp [operands] at hx; subst hx; simp
  | x :: xs, vs, hx => by
    simp only [operands] at hx
    split at hx
    · rename_i v hv
      simp only [Option.map_eq_some_iff] at hx
      obtain ⟨l, hl, rfl⟩ := hx
      intro y hy
      rcases List.mem_cons.1 hy with rfl | hy
      · exact operand_sc h hv
      · exact operands_sc h hl y hy
    · cases hx

theorem parts_den {ev : Ev} {ρ : Nat → Nat} {a : Act} (h : EvRel ev ρ a) : ∀ {xs : List (Nat × Operand)} {vs : List (Nat × AV)}, parts ev xs = some vs →
    (xs.map fun p => (p.1, a.eval p.2)) = vs.map fun p => (p.1, p.2.den ρ)
  | [], vs, hx => by simp [parts] at hx; subst hx; rfl
  | (i, x) :: xs, vs, hx => by
    simp only [parts] at hx
    split at hx
    · rename_i v hv
      simp only [Option.map_eq_some_iff] at hx
      obtain ⟨l, hl, rfl⟩ := hx
      simp [operand_den h hv, parts_den h hl]
    · cases hx

theorem opt_den {ev : Ev} {ρ : Nat → Nat} {a : Act} (h : EvRel ev ρ a) {x : Option Operand} {v : Option AV} (hx : optOperand ev x = some v) : x.map a.eval = v.map (AV.den ρ) := by
  cases x with
  | none => simp [optOperand] at hx; subst hx; rfl
  | some x =>
    simp only [optOperand] at hx
    split at hx
    · rename_i u hu
      simp at hx; subst hx
      simp [operand_den h hu]
    · cases hx
end
end Go.SX
