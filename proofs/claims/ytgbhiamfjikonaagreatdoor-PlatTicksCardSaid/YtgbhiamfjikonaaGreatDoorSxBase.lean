/- SX: the relation between abstract heaps and worlds, and the plain laws. -/
import Derived.Test.YtgbhiamfjikonaaGreatDoorSxCore
import Derived.WalkKit
import Derived.Laws.MakeOwn
namespace Go.SX

/-! Lists. -/
section
variable {α : Type}

theorem lget_eq (l : List α) (i : Nat) : lget l i = l[i]? := by
  induction l generalizing i with
  | nil => simp [lget]
  | cons a l ih => cases i <;> simp [lget, ih]

theorem lset_eq (l : List α) (i : Nat) (a : α) : lset l i a = l.set i a := by
  induction l generalizing i with
  | nil => simp [lset]
  | cons b l ih => cases i <;> simp [lset, ih]

theorem lapp_eq (l m : List α) : lapp l m = l ++ m := by
  induction l with
  | nil => rfl
  | cons a l ih => simp [lapp, ih]

theorem ltake_spec (l : List α) (o n : Nat) (r : List α) (h : ltake l o n = some r) : r.length = n ∧ ∀ j, j < n → r[j]? = l[o + j]? := by
  induction l generalizing o n r with
  | nil =>
    cases n with
    | zero => simp [ltake] at h; subst h; simp
    | succ n => simp [ltake] at h
  | cons a l ih =>
    cases n with
    | zero => simp [ltake] at h; subst h; simp
    | succ n =>
      cases o with
      | zero =>
        simp only [ltake, Option.map_eq_some_iff] at h
        obtain ⟨r', h', rfl⟩ := h
        obtain ⟨hl, hj⟩ := ih 0 n r' h'
        refine ⟨by simp [hl], fun j hj' => ?_⟩
        cases j with
        | zero => simp
        | succ j => have := hj j (by omega); simpa using this
      | succ o =>
        simp only [ltake] at h
        obtain ⟨hl, hj⟩ := ih o (n + 1) r h
        refine ⟨hl, fun j hj' => ?_⟩
        rw [hj j hj', show o + 1 + j = (o + j) + 1 by omega, List.getElem?_cons_succ]

theorem ltake_len (l : List α) (o n : Nat) (r : List α) (h : ltake l o n = some r) (hn : 0 < n) : o + n ≤ l.length := by
  induction l generalizing o n r with
  | nil => cases n with
    | zero => omega
    | succ n => simp [ltake] at h
  | cons a l ih =>
    cases n with
    | zero => omega
    | succ n =>
      cases o with
      | zero =>
        simp only [ltake, Option.map_eq_some_iff] at h
        obtain ⟨r', h', rfl⟩ := h
        rcases Nat.eq_zero_or_pos n with hz | hp
        · subst hz; simp
        · have := ih 0 n r' h' hp; simp at this ⊢; omega
      | succ o =>
        simp only [ltake] at h
        have := ih o (n + 1) r h (by omega)
        simp at this ⊢; omega

theorem lput_spec (l : List α) (o : Nat) (bs r : List α) (h : lput l o bs = some r) :
    r.length = l.length ∧ (bs ≠ [] → o + bs.length ≤ l.length) ∧ (∀ j, j < bs.length → r[o + j]? = bs[j]?) ∧ ∀ i, (i < o ∨ o + bs.length ≤ i) → r[i]? = l[i]? := by
  induction l generalizing o bs r with
  | nil =>
    cases bs with
    | nil => simp [lput] at h; subst h; simp
    | cons b bs => simp [lput] at h
  | cons a l ih =>
    cases bs with
    | nil => simp [lput] at h; subst h; simp
    | cons b bs =>
      cases o with
      | zero =>
        simp only [lput, Option.map_eq_some_iff] at h
        obtain ⟨r', h', rfl⟩ := h
        obtain ⟨h1, h2, h3, h4⟩ := ih 0 bs r' h'
        refine ⟨by simp [h1], fun _ => ?_, fun j hj => ?_, fun i hi => ?_⟩
        · cases bs with
          | nil => simp
          | cons c bs => have := h2 (by simp); simp at this ⊢; omega
        · cases j with
          | zero => simp
          | succ j => have := h3 j (by simpa using hj); simpa using this
        · cases i with
          | zero => simp at hi
          | succ i => have := h4 i (by simp at hi ⊢; omega); simpa using this
      | succ o =>
        simp only [lput, Option.map_eq_some_iff] at h
        obtain ⟨r', h', rfl⟩ := h
        obtain ⟨h1, h2, h3, h4⟩ := ih o (b :: bs) r' h'
        refine ⟨by simp [h1], fun hn => by have := h2 hn; simp at this ⊢; omega, fun j hj => ?_, fun i hi => ?_⟩
        · have := h3 j hj
          rw [show o + 1 + j = (o + j) + 1 by omega, List.getElem?_cons_succ]; exact this
        · cases i with
          | zero => simp
          | succ i => have := h4 i (by simp at hi ⊢; omega); simpa using this

theorem lenB_eq (l : List AV) : lenB l = l.length := by
  induction l with
  | nil => rfl
  | cons a l ih => simp [lenB, ih]
end

/-! Trees. -/
namespace Tree
variable {α β : Type}

theorem all_bind {t : Tree α} {f : α → Tree β} {Q : β → Prop} : (t.bind f).all Q ↔ t.all fun a => (f a).all Q := by
  induction t with
  | leaf a => rfl
  | ite b t e iht ihe => simp only [bind, all, iht, ihe]
  | any g ih => simp only [bind, all, ih]
  | stuck n => rfl

theorem all_mono {t : Tree α} {Q R : α → Prop} (h : t.all Q) (hr : ∀ a, Q a → R a) : t.all R := by
  induction t with
  | leaf a => exact hr _ h
  | ite b t e iht ihe => exact ⟨fun hb => iht (h.1 hb), fun hb => ihe (h.2 hb)⟩
  | any g ih => exact fun n => ih n (h n)
  | stuck n => exact h

theorem all_run {t : Tree α} {Q : α → Prop} (h : t.all Q) (a : α) (hr : t.run = some a) : Q a := by
  induction t with
  | leaf a' => simp [run] at hr; subst hr; exact h
  | ite b t e iht ihe =>
    cases b with
    | true => exact iht (h.1 rfl) hr
    | false => exact ihe (h.2 rfl) hr
  | any g ih => simp [run] at hr
  | stuck n => simp [run] at hr

theorem run_bind {t : Tree α} {f : α → Tree β} : (t.bind f).run = t.run.bind fun a => (f a).run := by
  induction t with
  | leaf a => rfl
  | ite b t e iht ihe => cases b <;> simp [bind, run, iht, ihe]
  | any g ih => rfl
  | stuck n => rfl

/-- No node that leaves a number open. -/
def shut : Tree α → Prop
  | .leaf _ => True
  | .ite _ t e => t.shut ∧ e.shut
  | .any _ => False
  | .stuck _ => True

theorem all_shut {t : Tree α} {Q : α → Prop} (h : t.all Q) (hs : t.shut) : ∃ a, t.run = some a ∧ Q a := by
  induction t with
  | leaf a => exact ⟨a, rfl, h⟩
  | ite b t e iht ihe =>
    cases b with
    | true => exact iht (h.1 rfl) hs.1
    | false => exact ihe (h.2 rfl) hs.2
  | any g ih => exact hs.elim
  | stuck n => exact h.elim

end Tree

theorem all_test {α : Type} {s b : Bool} {t e : Tree α} {Q : α → Prop} : (test s b t e).all Q → (b = true → t.all Q) ∧ (b = false → e.all Q) := by
  cases s with
  | true => exact id
  | false =>
    cases b with
    | true => exact fun h => ⟨fun _ => h, fun h' => (by cases h')⟩
    | false => exact fun h => ⟨fun h' => (by cases h'), fun _ => h⟩

/-! Values. -/

theorem denL_eq (ρ : Nat → Nat) (l : List AV) : denL ρ l = l.map (AV.den ρ) := by
  induction l with
  | nil => rfl
  | cons a l ih => simp [denL, ih]

theorem scL_eq (V : Nat → Bool) (l : List AV) : scL V l = l.all (AV.sc V) := by
  induction l with
  | nil => rfl
  | cons a l ih => simp [scL, ih]

mutual
theorem den_agree (V : Nat → Bool) (ρ ρ' : Nat → Nat) (h : ∀ l, V l = true → ρ' l = ρ l) : ∀ v : AV, v.sc V = true → v.den ρ' = v.den ρ
  | .bool _ _, _ => rfl
  | .int _ _ _, _ => rfl
  | .str _ _, _ => rfl
  | .ptr l _ _ _, hv => by simp only [AV.sc] at hv; simp only [AV.den, h l hv]
  | .ptrx l _ _ _ _ _, hv => by simp only [AV.sc] at hv; simp only [AV.den, h l hv]
  | .nilp, _ => rfl
  | .slice _ l _ _ _ _, hv => by simp only [AV.sc] at hv; simp only [AV.den, h l hv]
  | .nils, _ => rfl
  | .own l lc _ _, hv => by
    simp only [AV.sc, Bool.and_eq_true] at hv
    simp only [AV.den, h l hv.1, h lc hv.2]
  | .map l, hv => by simp only [AV.sc] at hv; simp only [AV.den, h l hv]
  | .nilm, _ => rfl
  | .fn _ a b, hv => by
    simp only [AV.sc, Bool.and_eq_true] at hv
    simp only [AV.den, denL_agree V ρ ρ' h a hv.1, denL_agree V ρ ρ' h b hv.2]
  | .nilfn, _ => rfl
  | .agg l, hv => by simp only [AV.sc] at hv; simp only [AV.den, denL_agree V ρ ρ' h l hv]
  | .tup l, hv => by simp only [AV.sc] at hv; simp only [AV.den, denL_agree V ρ ρ' h l hv]
  | .raw _, _ => rfl
theorem denL_agree (V : Nat → Bool) (ρ ρ' : Nat → Nat) (h : ∀ l, V l = true → ρ' l = ρ l) : ∀ l : List AV, scL V l = true → denL ρ' l = denL ρ l
  | [], _ => rfl
  | a :: l, hv => by
    simp only [scL, Bool.and_eq_true] at hv
    simp only [denL, den_agree V ρ ρ' h a hv.1, denL_agree V ρ ρ' h l hv.2]
end

mutual
theorem sc_mono (V W : Nat → Bool) (h : ∀ l, V l = true → W l = true) : ∀ v : AV, v.sc V = true → v.sc W = true
  | .bool _ _, _ => rfl
  | .int _ _ _, _ => rfl
  | .str _ _, _ => rfl
  | .ptr l _ _ _, hv => h l hv
  | .ptrx l _ _ _ _ _, hv => h l hv
  | .nilp, _ => rfl
  | .slice _ l _ _ _ _, hv => h l hv
  | .nils, _ => rfl
  | .own l lc _ _, hv => by
    simp only [AV.sc, Bool.and_eq_true] at hv ⊢
    exact ⟨h l hv.1, h lc hv.2⟩
  | .map l, hv => h l hv
  | .nilm, _ => rfl
  | .fn _ a b, hv => by
    simp only [AV.sc, Bool.and_eq_true] at hv ⊢
    exact ⟨scL_mono V W h a hv.1, scL_mono V W h b hv.2⟩
  | .nilfn, _ => rfl
  | .agg l, hv => scL_mono V W h l hv
  | .tup l, hv => scL_mono V W h l hv
  | .raw _, _ => rfl
theorem scL_mono (V W : Nat → Bool) (h : ∀ l, V l = true → W l = true) : ∀ l : List AV, scL V l = true → scL W l = true
  | [], _ => rfl
  | a :: l, hv => by
    simp only [scL, Bool.and_eq_true] at hv ⊢
    exact ⟨sc_mono V W h a hv.1, scL_mono V W h l hv.2⟩
end

/-! Sealed things, objects, and the relation. -/

/-- What sealed models mean: what they say of a world at a root block with a footprint. -/
structure Seal (M : Type) where
  locs : M → List Nat
  rep : M → (Nat → Nat) → Nat → (Nat → Prop) → World → Prop
  here : ∀ m ρ b F w w', rep m ρ b F w → (∀ x, F x → w'.heap[x]? = w.heap[x]?) → rep m ρ b F w'
  ren : ∀ m ρ ρ' b F w, rep m ρ b F w → (∀ l ∈ locs m, ρ' l = ρ l) → rep m ρ' b F w
  root : ∀ m ρ b F w, rep m ρ b F w → F b

section
variable {M : Type} (S : Seal M)

/-- A row of cells at a block: what stands in some of its cells, none of them frozen. -/
def rowAt (w : World) (b : Nat) (e : TypeId) (n : Nat) (f : Nat → Option Value) : Prop :=
  ∃ arr fz, w.heap[b]? = some (.cells arr e fz) ∧ (∀ i v, f i = some v → arr[i]? = some v) ∧ ∀ i, i < n → ¬ (fz.1 ≤ i ∧ i < fz.2)

def AO.rep (ρ : Nat → Nat) (o : AO M) (b : Nat) (F : Nat → Prop) (w : World) : Prop :=
  match o with
  | .hid => ∀ x, ¬ F x
  | .none => ∀ x, ¬ F x
  | .cells c e => (∀ x, F x ↔ x = b) ∧ rowAt w b e c.length fun i => (c[i]?).map (AV.den ρ)
  | .ints k _ n _ g e => (∀ x, F x ↔ x = b) ∧ rowAt w b e n fun i => if i < n then some (.int k (g i)) else Option.none
  | .view k lo n g o => (∀ x, F x ↔ x = b) ∧ w.heap[b]? = some o ∧ ∃ arr e fz, o = .cells arr e fz ∧ ∀ i, lo ≤ i → i < n → arr[i]? = some (.int k (g i))
  | .rows n z g e => (∀ x, F x ↔ x = b) ∧ (∀ i, i < n → (g i).length = z) ∧ rowAt w b e (n * z) fun i => if i < n * z then ((g (i / z))[i % z]?).map (AV.den ρ) else Option.none
  | .at1 i v e => (∀ x, F x ↔ x = b) ∧ rowAt w b e 0 fun j => if j = i then some (v.den ρ) else Option.none
  | .buf c lc z e => (∀ x, F x ↔ x = b) ∧ ∃ arr, w.heap[b]? = some (.cells arr e (0, 0)) ∧ arr.size = ρ lc * z ∧ ρ lc ≤ maxLen ∧ c.length ≤ arr.size ∧ ∀ (i : Nat) (v : Value), (c[i]?).map (AV.den ρ) = some v → arr[i]? = some v
  | .map es => (∀ x, F x ↔ x = b) ∧ ∃ ents clock, w.heap[b]? = some (.map ents clock) ∧ ents.toList.map (fun e => (e.key, e.val)) = es.map fun p => (p.1.den ρ, p.2.den ρ)
  | .res m => S.rep m ρ b F w

def AO.Sc (V : Nat → Bool) : AO M → Prop
  | .rows n _ g _ => ∀ i, i < n → scL V (g i) = true
  | o => o.sc V S.locs = true

/-- The world is as the abstract heap says, seen from an elder world with a footprint. -/
structure Con (w0 : World) (F0 : Nat → Prop) (H : Hp M) (ρ : Nat → Nat) (F : Nat → Nat → Prop) (w : World) : Prop where
  rep : ∀ (l : Nat) (o : AO M), H[l]? = some o → o.rep S ρ (ρ l) (F l) w
  scp : ∀ (l : Nat) (o : AO M), H[l]? = some o → o.Sc S (vis H)
  out : ∀ (l : Nat), H[l]? = none → ∀ x, ¬ F l x
  dis : ∀ l l' x, F l x → F l' x → l = l'
  lt : ∀ l x, F l x → x < w.heap.size
  own : ∀ l x, F l x → F0 x ∨ w0.heap.size ≤ x
  old : ∀ x, x < w0.heap.size → ¬ F0 x → w.heap[x]? = w0.heap[x]?
  size : w0.heap.size ≤ w.heap.size
  os : w.os = w0.os
  tape : w.tape = w0.tape
  output : w.output = w0.output

/-- The same places of all names that are seen, and these are seen still. -/
structure Agree (H H' : Hp M) (ρ ρ' : Nat → Nat) : Prop where
  same : ∀ l, vis H l = true → ρ' l = ρ l
  keep : ∀ l, vis H l = true → vis H' l = true

theorem Agree.refl (H : Hp M) (ρ : Nat → Nat) : Agree H H ρ ρ := ⟨fun _ _ => rfl, fun _ h => h⟩
theorem Agree.trans {H H' H'' : Hp M} {ρ ρ' ρ'' : Nat → Nat} (h : Agree H H' ρ ρ') (h' : Agree H' H'' ρ' ρ'') : Agree H H'' ρ ρ'' :=
  ⟨fun l hl => (h'.same l (h.keep l hl)).trans (h.same l hl), fun l hl => h'.keep l (h.keep l hl)⟩

theorem vis_eq (H : Hp M) (l : Nat) : vis H l = match H[l]? with | some o => o.vis | none => false := by
  unfold vis; rw [lget_eq]; cases H[l]? <;> rfl

theorem vis_some {H : Hp M} {l : Nat} {o : AO M} (h : H[l]? = some o) (hv : o.vis = true) : vis H l = true := by rw [vis_eq, h]; exact hv

/-- The footprint of all. -/
def foot (F : Nat → Nat → Prop) : Nat → Prop := fun x => ∃ l, F l x

/-- Seen from the world itself. -/
theorem Con.here {w0 : World} {F0 : Nat → Prop} {H : Hp M} {ρ : Nat → Nat} {F : Nat → Nat → Prop} {w : World} (h : Con S w0 F0 H ρ F w) :
    Con S w (foot F) H ρ F w :=
  ⟨h.rep, h.scp, h.out, h.dis, h.lt, fun l _ hx => .inl ⟨l, hx⟩, fun _ _ _ => rfl, Nat.le_refl _, rfl, rfl, rfl⟩

/-- From a nearer world to a farther one. -/
theorem Con.far {w0 w1 : World} {F0 : Nat → Prop} {H0 H : Hp M} {ρ0 ρ : Nat → Nat} {F1 F : Nat → Nat → Prop} {w : World} (h0 : Con S w0 F0 H0 ρ0 F1 w1)
    (h : Con S w1 (foot F1) H ρ F w) : Con S w0 F0 H ρ F w where
  rep := h.rep
  scp := h.scp
  out := h.out
  dis := h.dis
  lt := h.lt
  own := fun l _ hx => by
    rcases h.own l _ hx with ⟨l', hl'⟩ | hge
    · exact h0.own l' _ hl'
    · exact .inr (Nat.le_trans h0.size hge)
  old := fun x hx hn => by
    rw [h.old x (Nat.lt_of_lt_of_le hx h0.size) (fun ⟨l, hl⟩ => by
      rcases h0.own l x hl with h1 | h1
      · exact hn h1
      · omega), h0.old x hx hn]
  size := Nat.le_trans h0.size h.size
  os := h.os.trans h0.os
  tape := h.tape.trans h0.tape
  output := h.output.trans h0.output
end
end Go.SX
