/- SX: contracts by templates: a small heap with holes is found in a large one. -/
import Derived.Test.YtgbhiamfjikonaaGreatDoorSxMask
set_option linter.unusedVariables false
set_option linter.unusedSimpArgs false
namespace Go.SX
section
variable {M : Type} {S : Seal M}

/-- A value with holes: numbers, truths, lengths; names are those of the small heap. -/
inductive TV where
  | int (k : IntKind) (h : Nat)
  | num (k : IntKind) (n : Int)
  | bool (h : Nat)
  | tt (b : Bool)
  | ptr (i : Nat)
  | nilp
  | nils
  | nilm
  | nilfn
  | own (i j z n : Nat)
  | sl (i z hn hc : Nat)
  | slo (i z ho hn hc : Nat)

inductive TA where
  | one (t : TV)
  | agg (l : List TV)

inductive TO where
  | none
  | cells (l : List TV) (e : TypeId)
  | buf (l : List TV) (j z : Nat) (e : TypeId)
  | ints (k : IntKind) (hn hg : Nat) (e : TypeId)
  | view (k : IntKind) (hlo hn hg ho : Nat)

/-- What fills the holes. -/
structure Env where
  I : Nat → Int
  B : Nat → Bool
  N : Nat → Nat
  SG : Nat → Nat → Bool
  G : Nat → Nat → Int
  O : Nat → Obj

/-- What was found, by holes, and names; and whether something symbolic was met. -/
structure Asg where
  i : List (Nat × Int)
  b : List (Nat × Bool)
  n : List (Nat × Nat)
  g : List (Nat × ((Nat → Bool) × (Nat → Int)))
  o : List (Nat × Obj)
  s : List (Nat × Nat)
  q : Bool

def Asg.nil : Asg := ⟨[], [], [], [], [], [], false⟩
def Asg.app (A B : Asg) : Asg := ⟨lapp A.i B.i, lapp A.b B.b, lapp A.n B.n, lapp A.g B.g, lapp A.o B.o, lapp A.s B.s, A.q || B.q⟩

def instV (E : Env) : TV → AV
  | .int k h => .int true k (E.I h)
  | .num k n => .int false k n
  | .bool h => .bool true (E.B h)
  | .tt b => .bool false b
  | .ptr i => .ptr i 0 0 0
  | .nilp => .nilp
  | .nils => .nils
  | .nilm => .nilm
  | .nilfn => .nilfn
  | .own i j z n => .own i j z n
  | .sl i z hn hc => .slice true i 0 z (E.N hn) (E.N hc)
  | .slo i z ho hn hc => .slice true i (E.N ho) z (E.N hn) (E.N hc)

def instL (E : Env) : List TV → List AV
  | [] => []
  | t :: l => instV E t :: instL E l

def instA (E : Env) : TA → AV
  | .one t => instV E t
  | .agg l => .agg (instL E l)

def instAs (E : Env) : List TA → List AV
  | [] => []
  | t :: l => instA E t :: instAs E l

def instO (E : Env) : TO → AO M
  | .none => .none
  | .cells l e => .cells (instL E l) e
  | .buf l j z e => .buf (instL E l) j z e
  | .ints k hn hg e => .ints k true (E.N hn) (E.SG hg) (E.G hg) e
  | .view k hlo hn hg ho => .view k (E.N hlo) (E.N hn) (E.G hg) (E.O ho)

def instH (E : Env) : List TO → Hp M
  | [] => []
  | t :: l => instO E t :: instH E l

def matchV (t : TV) (v : AV) : Option Asg :=
  match t, v with
  | .int k h, .int s k' n => if k = k' then some ⟨[(h, n)], [], [], [], [], [], s⟩ else none
  | .num k m, .int false k' n => if k = k' ∧ m = n then some Asg.nil else none
  | .bool h, .bool s b => some ⟨[], [(h, b)], [], [], [], [], s⟩
  | .tt true, .bool false true => some Asg.nil
  | .tt false, .bool false false => some Asg.nil
  | .ptr i, .ptr l 0 0 0 => some ⟨[], [], [], [], [], [(i, l)], false⟩
  | .nilp, .nilp => some Asg.nil
  | .nils, .nils => some Asg.nil
  | .nilm, .nilm => some Asg.nil
  | .nilfn, .nilfn => some Asg.nil
  | .own i j z n, .own l lc z' n' => match Nat.beq z z' && Nat.beq n n' with | true => some ⟨[], [], [], [], [], [(i, l), (j, lc)], false⟩ | false => none
  | .sl i z hn hc, .slice s l 0 z' n c => match Nat.beq z z' with | true => some ⟨[], [], [(hn, n), (hc, c)], [], [], [(i, l)], s⟩ | false => none
  | .slo i z ho hn hc, .slice s l a z' n c => match Nat.beq z z' with | true => some ⟨[], [], [(ho, a), (hn, n), (hc, c)], [], [], [(i, l)], s⟩ | false => none
  | _, _ => none

def matchL : List TV → List AV → Option Asg
  | [], [] => some Asg.nil
  | t :: l, v :: r => match matchV t v with
    | some A => match matchL l r with
      | some B => some (A.app B)
      | none => none
    | none => none
  | _, _ => none

def matchA (t : TA) (v : AV) : Option Asg :=
  match t, v with
  | .one t, v => matchV t v
  | .agg l, .agg r => matchL l r
  | _, _ => none

def matchAs : List TA → List AV → Option Asg
  | [], [] => some Asg.nil
  | t :: l, v :: r => match matchA t v with
    | some A => match matchAs l r with
      | some B => some (A.app B)
      | none => none
    | none => none
  | _, _ => none

def matchO (t : TO) (o : AO M) : Option Asg :=
  match t, o with
  | .none, o => match o.vis with | true => some Asg.nil | false => none
  | .cells l e, .cells c e' => match Nat.beq e e' with | true => matchL l c | false => none
  | .buf l j z e, .buf c lc z' e' => match Nat.beq e e' && Nat.beq z z' with
    | true => match matchL l c with
      | some A => some (Asg.app ⟨[], [], [], [], [], [(j, lc)], false⟩ A)
      | none => none
    | false => none
  | .ints k hn hg e, .ints k' q n sg g e' => if k = k' ∧ e = e' then some ⟨[], [], [(hn, n)], [(hg, (sg, g))], [], [], q⟩ else none
  | .view k hlo hn hg ho, .view k' lo n g o => if k = k' then some ⟨[], [], [(hlo, lo), (hn, n)], [(hg, (fun _ => true, g))], [(ho, o)], [], true⟩ else none
  | _, _ => none

def look {α : Type} (d : α) : List (Nat × α) → Nat → α
  | [], _ => d
  | (i, v) :: l, k => match Nat.beq i k with
    | true => v
    | false => look d l k

def hasK {α : Type} : List (Nat × α) → Nat → Bool
  | [], _ => false
  | (i, _) :: l, k => Nat.beq i k || hasK l k

/-- The small heap's objects, one behind the other: each name was met ahead of its turn. -/
def matchH (H : Hp M) : Nat → List TO → List (Nat × Nat) → Option Asg
  | _, [], _ => some Asg.nil
  | i, t :: l, s => match hasK s i with
    | true => match lget H (look 0 s i) with
      | some o => match matchO t o with
        | some A => match matchH H (i + 1) l (lapp A.s s) with
          | some B => some (A.app B)
          | none => none
        | none => none
      | none => none
    | false => none

/-- Each name means one place. -/
def sameN (s : List (Nat × Nat)) : List (Nat × Nat) → Bool
  | [] => true
  | (i, l) :: r => Nat.beq (look 0 s i) l && sameN s r

def notIn (σ : Nat → Nat) (l : Nat) : Nat → Nat → Bool
  | 0, _ => true
  | n + 1, i => !Nat.beq (σ i) l && notIn σ l n (i + 1)

/-- Each place has one name, of so many. -/
def apartN (σ : Nat → Nat) : Nat → Nat → Bool
  | 0, _ => true
  | n + 1, i => notIn σ (σ i) n (i + 1) && apartN σ n (i + 1)

def isNone : TO → Bool
  | .none => true
  | _ => false

/-- The places that are known by name alone. -/
def hidden (σ : Nat → Nat) : Nat → List TO → Nat → Bool
  | _, [], _ => false
  | i, t :: l, m => (isNone t && Nat.beq (σ i) m) || hidden σ (i + 1) l m

def Asg.env (A : Asg) : Env := ⟨look 0 A.i, look false A.b, look 0 A.n, fun h => (look (fun _ => true, fun _ => 0) A.g h).1, fun h => (look (fun _ => true, fun _ => 0) A.g h).2, look default A.o⟩

def lenT : List TO → Nat
  | [] => 0
  | _ :: l => lenT l + 1

/-- The holes are numbered in order. -/
def incK {α : Type} : List (Nat × α) → Bool
  | [] => true
  | [_] => true
  | (i, _) :: (j, v) :: l => Nat.blt i j && incK ((j, v) :: l)

/-- A contract by a template. -/
structure Entry (M : Type) where
  args : List TA
  heap : List TO
  out : Bool → Env → Tree (Ans M)

/-- What it tells of a call, if it fits. -/
def Entry.K (locs : M → List Nat) (e : Entry M) (args : List AV) (H : Hp M) : Option (Tree (Ans M)) :=
  match matchAs e.args args with
  | none => none
  | some A => match matchH H 0 e.heap A.s with
    | none => none
    | some B => match sameN (lapp A.s B.s) (lapp A.s B.s) && apartN (look 0 (lapp A.s B.s)) (lenT e.heap) 0 with
      | false => none
      | true => match incK (lapp A.i B.i) && incK (lapp A.b B.b) && incK (lapp A.n B.n) && incK (lapp A.g B.g) && incK (lapp A.o B.o) with
        | false => none
        | true => some (guardM (hidden (look 0 (lapp A.s B.s)) 0 e.heap) (embed locs (instH (A.app B).env e.heap) (look 0 (lapp A.s B.s)) H (e.out (A.q || B.q) (A.app B).env)))

/-! It is right. -/

structure Agr (A : Asg) (E : Env) (σ : Nat → Nat) : Prop where
  i : ∀ p ∈ A.i, E.I p.1 = p.2
  b : ∀ p ∈ A.b, E.B p.1 = p.2
  n : ∀ p ∈ A.n, E.N p.1 = p.2
  g : ∀ p ∈ A.g, E.SG p.1 = p.2.1 ∧ E.G p.1 = p.2.2
  o : ∀ p ∈ A.o, E.O p.1 = p.2
  s : ∀ p ∈ A.s, σ p.1 = p.2

theorem Agr.left {A B : Asg} {E : Env} {σ : Nat → Nat} (h : Agr (A.app B) E σ) : Agr A E σ := by
  refine ⟨fun p hp => h.i p ?_, fun p hp => h.b p ?_, fun p hp => h.n p ?_, fun p hp => h.g p ?_, fun p hp => h.o p ?_, fun p hp => h.s p ?_⟩ <;> simp only [Asg.app, lapp_eq, List.mem_append] <;> exact .inl hp

theorem Agr.right {A B : Asg} {E : Env} {σ : Nat → Nat} (h : Agr (A.app B) E σ) : Agr B E σ := by
  refine ⟨fun p hp => h.i p ?_, fun p hp => h.b p ?_, fun p hp => h.n p ?_, fun p hp => h.g p ?_, fun p hp => h.o p ?_, fun p hp => h.s p ?_⟩ <;> simp only [Asg.app, lapp_eq, List.mem_append] <;> exact .inr hp

theorem matchV_ok {t : TV} {v : AV} {A : Asg} {E : Env} {σ : Nat → Nat} (h : matchV t v = some A) (ha : Agr A E σ) : ((instV E t).ren σ).er = v.er := by
  unfold matchV at h
  split at h
  · split at h
    · rename_i hk
      simp only [Option.some.injEq] at h
      subst h
      have := ha.i _ List.mem_cons_self
      simp only at this
      simp only [instV, AV.ren, AV.er, hk, this]
    · cases h
  · split at h
    · rename_i hk
      simp only [instV, AV.ren, AV.er, hk.1, hk.2]
    · cases h
  · simp only [Option.some.injEq] at h
    subst h
    have := ha.b _ List.mem_cons_self
    simp only at this
    simp only [instV, AV.ren, AV.er, this]
  · rfl
  · rfl
  · simp only [Option.some.injEq] at h
    subst h
    have := ha.s _ List.mem_cons_self
    simp only at this
    simp only [instV, AV.ren, AV.er, this]
  · rfl
  · rfl
  · rfl
  · rfl
  · split at h
    · rename_i hz
      simp only [Bool.and_eq_true] at hz
      simp only [Option.some.injEq] at h
      subst h
      have h1 := ha.s _ List.mem_cons_self
      have h2 := ha.s _ (List.mem_cons_of_mem _ List.mem_cons_self)
      simp only at h1 h2
      simp only [instV, AV.ren, AV.er, h1, h2, Nat.eq_of_beq_eq_true hz.1, Nat.eq_of_beq_eq_true hz.2]
    · cases h
  · split at h
    · rename_i hz
      simp only [Option.some.injEq] at h
      subst h
      have h1 := ha.s _ List.mem_cons_self
      have h2 := ha.n _ List.mem_cons_self
      have h3 := ha.n _ (List.mem_cons_of_mem _ List.mem_cons_self)
      simp only at h1 h2 h3
      simp only [instV, AV.ren, AV.er, h1, h2, h3, Nat.eq_of_beq_eq_true hz]
    · cases h
  · split at h
    · rename_i hz
      simp only [Option.some.injEq] at h
      subst h
      have h1 := ha.s _ List.mem_cons_self
      have h0 := ha.n _ List.mem_cons_self
      have h2 := ha.n _ (List.mem_cons_of_mem _ List.mem_cons_self)
      have h3 := ha.n _ (List.mem_cons_of_mem _ (List.mem_cons_of_mem _ List.mem_cons_self))
      simp only at h0 h1 h2 h3
      simp only [instV, AV.ren, AV.er, h0, h1, h2, h3, Nat.eq_of_beq_eq_true hz]
    · cases h
  · cases h

theorem matchL_ok {E : Env} {σ : Nat → Nat} : ∀ {l : List TV} {r : List AV} {A : Asg}, matchL l r = some A → Agr A E σ → erL (renL σ (instL E l)) = erL r
  | [], [], _, _, _ => rfl
  | t :: l, v :: r, A, h, ha => by
    simp only [matchL] at h
    cases h1 : matchV t v with
    | none => rw [h1] at h; cases h
    | some A1 =>
      cases h2 : matchL l r with
      | none => rw [h1, h2] at h; cases h
      | some A2 =>
        rw [h1, h2] at h
        simp only [Option.some.injEq] at h
        subst h
        simp only [instL, renL, erL, matchV_ok h1 ha.left, matchL_ok h2 ha.right]
  | [], _ :: _, _, h, _ => by simp [matchL] at h
  | _ :: _, [], _, h, _ => by simp [matchL] at h

theorem matchA_ok {t : TA} {v : AV} {A : Asg} {E : Env} {σ : Nat → Nat} (h : matchA t v = some A) (ha : Agr A E σ) : ((instA E t).ren σ).er = v.er := by
  unfold matchA at h
  split at h
  · exact matchV_ok h ha
  · simp only [instA, AV.ren, AV.er, matchL_ok h ha]
  · cases h

theorem matchAs_ok {E : Env} {σ : Nat → Nat} : ∀ {l : List TA} {r : List AV} {A : Asg}, matchAs l r = some A → Agr A E σ → erL (renL σ (instAs E l)) = erL r
  | [], [], _, _, _ => rfl
  | t :: l, v :: r, A, h, ha => by
    simp only [matchAs] at h
    cases h1 : matchA t v with
    | none => rw [h1] at h; cases h
    | some A1 =>
      cases h2 : matchAs l r with
      | none => rw [h1, h2] at h; cases h
      | some A2 =>
        rw [h1, h2] at h
        simp only [Option.some.injEq] at h
        subst h
        simp only [instAs, renL, erL, matchA_ok h1 ha.left, matchAs_ok h2 ha.right]
  | [], _ :: _, _, h, _ => by simp [matchAs] at h
  | _ :: _, [], _, h, _ => by simp [matchAs] at h

theorem matchO_ok {t : TO} {o : AO M} {A : Asg} {E : Env} {σ : Nat → Nat} (h : matchO t o = some A) (ha : Agr A E σ) : (isNone t = true ∧ o.vis = true) ∨ (isNone t = false ∧ ((instO E t : AO M).ren σ).er = o.er) := by
  unfold matchO at h
  split at h
  · split at h
    · rename_i hv; exact .inl ⟨rfl, hv⟩
    · cases h
  · split at h
    · rename_i he
      refine .inr ⟨rfl, ?_⟩
      simp only [instO, AO.ren, AO.er, matchL_ok h ha, Nat.eq_of_beq_eq_true he]
    · cases h
  · split at h
    · rename_i he
      simp only [Bool.and_eq_true] at he
      split at h
      · rename_i A1 h1
        simp only [Option.some.injEq] at h
        subst h
        have h2 := ha.left.s _ List.mem_cons_self
        simp only at h2
        refine .inr ⟨rfl, ?_⟩
        simp only [instO, AO.ren, AO.er, matchL_ok h1 ha.right, Nat.eq_of_beq_eq_true he.1, Nat.eq_of_beq_eq_true he.2, h2]
      · cases h
    · cases h
  · split at h
    · rename_i hk
      simp only [Option.some.injEq] at h
      subst h
      have h1 := ha.n _ List.mem_cons_self
      have h2 := (ha.g _ List.mem_cons_self).2
      simp only at h1 h2
      refine .inr ⟨rfl, ?_⟩
      simp only [instO, AO.ren, AO.er, hk.1, hk.2, h1, h2]
    · cases h
  · split at h
    · rename_i hk
      simp only [Option.some.injEq] at h
      subst h
      have h0 := ha.n _ List.mem_cons_self
      have h1 := ha.n _ (List.mem_cons_of_mem _ List.mem_cons_self)
      have h2 := (ha.g _ List.mem_cons_self).2
      have h3 := ha.o _ List.mem_cons_self
      simp only at h0 h1 h2 h3
      refine .inr ⟨rfl, ?_⟩
      simp only [instO, AO.ren, AO.er, hk, h0, h1, h2, h3]
    · cases h
  · cases h

theorem look_app {s0 s1 : List (Nat × Nat)} {σ : Nat → Nat} (h : ∀ p ∈ s0, σ p.1 = p.2) {i : Nat} (hk : hasK s0 i = true) : look 0 s0 i = σ i := by
  induction s0 with
  | nil => simp [hasK] at hk
  | cons p s ih =>
    obtain ⟨k, v⟩ := p
    simp only [look]
    split
    · rename_i hb
      have := h _ List.mem_cons_self
      simp only at this
      rw [← this, Nat.eq_of_beq_eq_true hb]
    · rename_i hb
      refine ih (fun p hp => h p (List.mem_cons_of_mem _ hp)) ?_
      simp only [hasK, Bool.or_eq_true] at hk
      rcases hk with hk | hk
      · rw [hk] at hb; cases hb
      · exact hk

theorem matchH_ok {H : Hp M} {E : Env} {σ : Nat → Nat} : ∀ {l : List TO} {i : Nat} {s : List (Nat × Nat)} {B : Asg}, matchH H i l s = some B → Agr B E σ → (∀ p ∈ s, σ p.1 = p.2) →
    ∀ (j : Nat) (t : TO), l[j]? = some t → ∃ o, H[σ (i + j)]? = some o ∧ ((isNone t = true ∧ o.vis = true) ∨ (isNone t = false ∧ ((instO E t : AO M).ren σ).er = o.er))
  | [], i, s, B, h, ha, hs, j, t, hj => by simp at hj
  | t0 :: l, i, s, B, h, ha, hs, j, t, hj => by
    simp only [matchH] at h
    split at h
    · rename_i hk
      rw [look_app (s1 := []) hs hk, lget_eq] at h
      cases ho : H[σ i]? with
      | none => rw [ho] at h; cases h
      | some o =>
        rw [ho] at h
        simp only at h
        cases h1 : matchO t0 o with
        | none => rw [h1] at h; cases h
        | some A1 =>
          rw [h1] at h
          simp only at h
          cases h2 : matchH H (i + 1) l (lapp A1.s s) with
          | none => rw [h2] at h; cases h
          | some B1 =>
            rw [h2] at h
            simp only [Option.some.injEq] at h
            subst h
            cases j with
            | zero =>
              simp only [List.getElem?_cons_zero, Option.some.injEq] at hj
              subst hj
              exact ⟨o, by simpa using ho, matchO_ok h1 ha.left⟩
            | succ j =>
              have := matchH_ok h2 ha.right (fun p hp => by
                rw [lapp_eq, List.mem_append] at hp
                rcases hp with hp | hp
                · exact ha.left.s p hp
                · exact hs p hp) j t (by simpa using hj)
              rw [show i + 1 + j = i + (j + 1) by omega] at this
              exact this
    · cases h

theorem incK_mem {α : Type} (d : α) : ∀ {l : List (Nat × α)}, incK l = true → (∀ p ∈ l, look d l p.1 = p.2) ∧ ∀ i v r, l = (i, v) :: r → ∀ p ∈ r, i < p.1
  | [], _ => ⟨fun p hp => by simp at hp, fun i v r h => by cases h⟩
  | [(k, x)], _ => by
    refine ⟨fun p hp => ?_, fun i v r h => ?_⟩
    · simp only [List.mem_singleton] at hp
      subst hp
      simp [look]
    · simp only [List.cons.injEq] at h
      rw [← h.2]
      intro p hp
      simp at hp
  | (k, x) :: (j, y) :: l, h => by
    simp only [incK, Bool.and_eq_true] at h
    have hlt : k < j := by simpa [Nat.blt_eq] using h.1
    obtain ⟨h1, h2⟩ := incK_mem d h.2
    have hall : ∀ p ∈ (j, y) :: l, k < p.1 := by
      intro p hp
      simp only [List.mem_cons] at hp
      rcases hp with rfl | hp
      · exact hlt
      · have := h2 j y l rfl p hp; omega
    refine ⟨fun p hp => ?_, fun i v r he => ?_⟩
    · simp only [List.mem_cons] at hp
      rcases hp with rfl | hp
      · simp [look]
      · have hp' : p ∈ (j, y) :: l := by simpa using hp
        have hne : Nat.beq k p.1 = false := by
          cases hb : Nat.beq k p.1 with
          | false => rfl
          | true => have := hall p hp'; have := Nat.eq_of_beq_eq_true hb; omega
        simp only [look]
        rw [hne]
        exact h1 p hp'
    · simp only [List.cons.injEq, Prod.mk.injEq] at he
      rw [← he.2, ← he.1.1]
      exact hall

theorem sameN_mem {s : List (Nat × Nat)} : ∀ {r : List (Nat × Nat)}, sameN s r = true → ∀ p ∈ r, look 0 s p.1 = p.2
  | [], _, p, hp => by simp at hp
  | (i, l) :: r, h, p, hp => by
    simp only [sameN, Bool.and_eq_true] at h
    simp only [List.mem_cons] at hp
    rcases hp with rfl | hp
    · exact Nat.eq_of_beq_eq_true h.1
    · exact sameN_mem h.2 p hp

theorem notIn_spec {σ : Nat → Nat} {l : Nat} : ∀ {n i : Nat}, notIn σ l n i = true → ∀ j, i ≤ j → j < i + n → σ j ≠ l
  | 0, i, _, j, h1, h2 => by omega
  | n + 1, i, h, j, h1, h2 => by
    simp only [notIn, Bool.and_eq_true, Bool.not_eq_true'] at h
    by_cases e : j = i
    · subst e
      intro e'
      rw [e'] at h
      have := h.1
      simp at this
    · exact notIn_spec h.2 j (by omega) (by omega)

theorem apartN_spec {σ : Nat → Nat} : ∀ {n i : Nat}, apartN σ n i = true → ∀ a b, i ≤ a → a < b → b < i + n → σ a ≠ σ b
  | 0, i, _, a, b, h1, h2, h3 => by omega
  | n + 1, i, h, a, b, h1, h2, h3 => by
    simp only [apartN, Bool.and_eq_true] at h
    by_cases e : a = i
    · subst e
      exact fun e' => notIn_spec h.1 b (by omega) (by omega) e'.symm
    · exact apartN_spec h.2 a b (by omega) h2 (by omega)

theorem lenT_eq (l : List TO) : lenT l = l.length := by
  induction l with
  | nil => rfl
  | cons a l ih => simp [lenT, ih]

theorem instH_get (E : Env) : ∀ (l : List TO) (j : Nat), (instH E l : Hp M)[j]? = (l[j]?).map (instO E)
  | [], j => by simp [instH]
  | t :: l, 0 => by simp [instH]
  | t :: l, j + 1 => by simpa [instH] using instH_get E l j

theorem instH_len (E : Env) (l : List TO) : (instH E l : Hp M).length = l.length := by
  induction l with
  | nil => rfl
  | cons a l ih => simp [instH, ih]

theorem hidden_spec {σ : Nat → Nat} : ∀ {l : List TO} {i m : Nat}, hidden σ i l m = true ↔ ∃ j t, l[j]? = some t ∧ isNone t = true ∧ σ (i + j) = m
  | [], i, m => by simp [hidden]
  | t :: l, i, m => by
    simp only [hidden, Bool.or_eq_true, Bool.and_eq_true]
    constructor
    · rintro (⟨h1, h2⟩ | h)
      · exact ⟨0, t, rfl, h1, Nat.eq_of_beq_eq_true h2⟩
      · obtain ⟨j, u, a, b, c⟩ := hidden_spec.1 h
        exact ⟨j + 1, u, by simpa using a, b, by rw [← c]; congr 1; omega⟩
    · rintro ⟨j, u, a, b, c⟩
      cases j with
      | zero =>
        simp only [List.getElem?_cons_zero, Option.some.injEq] at a
        subst a
        exact .inl ⟨b, by simpa using c⟩
      | succ j => exact .inr (hidden_spec.2 ⟨j, u, by simpa using a, b, by rw [← c]; congr 1; omega⟩)

/-! Names in a template are the small heap's. -/

def tvIn (n : Nat) : TV → Bool
  | .ptr i => Nat.blt i n
  | .own i j _ _ => Nat.blt i n && Nat.blt j n
  | .sl i _ _ _ => Nat.blt i n
  | .slo i _ _ _ _ => Nat.blt i n
  | _ => true

def taIn (n : Nat) : TA → Bool
  | .one t => tvIn n t
  | .agg l => l.all (tvIn n)

def toIn (n : Nat) : TO → Bool
  | .cells l _ => l.all (tvIn n)
  | .buf l j _ _ => l.all (tvIn n) && Nat.blt j n
  | _ => true

def Entry.shut (e : Entry M) : Bool := e.args.all (taIn (lenT e.heap)) && e.heap.all (toIn (lenT e.heap))

theorem tvIn_sc {n : Nat} {V : Nat → Bool} (hV : ∀ l, l < n → V l = true) {E : Env} {t : TV} (h : tvIn n t = true) : (instV E t).sc V = true := by
  cases t <;> simp only [tvIn, Bool.and_eq_true, Nat.blt_eq] at h <;> simp only [instV, AV.sc, Bool.and_eq_true] <;> first | exact hV _ h | exact ⟨hV _ h.1, hV _ h.2⟩

theorem tvIn_scL {n : Nat} {V : Nat → Bool} (hV : ∀ l, l < n → V l = true) {E : Env} : ∀ {l : List TV}, l.all (tvIn n) = true → scL V (instL E l) = true
  | [], _ => rfl
  | t :: l, h => by
    simp only [List.all_cons, Bool.and_eq_true] at h
    simp only [instL, scL, tvIn_sc hV h.1, tvIn_scL hV h.2, Bool.and_self]

theorem taIn_sc {n : Nat} {V : Nat → Bool} (hV : ∀ l, l < n → V l = true) {E : Env} {t : TA} (h : taIn n t = true) : (instA E t).sc V = true := by
  cases t with
  | one t => exact tvIn_sc hV h
  | agg l => simp only [instA, AV.sc]; exact tvIn_scL hV h

theorem instAs_mem {E : Env} : ∀ {l : List TA} {x : AV}, x ∈ instAs E l → ∃ t ∈ l, x = instA E t
  | [], x, h => by simp [instAs] at h
  | t :: l, x, h => by
    simp only [instAs, List.mem_cons] at h
    rcases h with rfl | h
    · exact ⟨t, List.mem_cons_self, rfl⟩
    · obtain ⟨u, hu, e⟩ := instAs_mem h
      exact ⟨u, List.mem_cons_of_mem _ hu, e⟩

theorem toIn_sc {n : Nat} {V : Nat → Bool} (hV : ∀ l, l < n → V l = true) {E : Env} {t : TO} (h : toIn n t = true) : (instO E t : AO M).Sc S V := by
  cases t with
  | none => exact rfl
  | cells l e => exact tvIn_scL hV h
  | buf l j z e =>
    simp only [toIn, Bool.and_eq_true, Nat.blt_eq] at h
    simp only [instO, AO.Sc, AO.sc, tvIn_scL hV h.1, hV _ h.2, Bool.and_self]
  | ints k hn hg e => exact rfl
  | view k a b c d => exact rfl

theorem instO_vis (E : Env) (t : TO) : (instO E t : AO M).vis = true := by cases t <;> rfl

theorem embed_len {locs : M → List Nat} {H0 H H' : Hp M} {σ : Nat → Nat} {t : Tree (Ans M)} (h : H.length = H'.length) : embed locs H0 σ H t = embed locs H0 σ H' t := by
  unfold embed
  simp only [lenH_eq, h]

/-- Flags of a heap and of arguments do not matter to a contract. -/
theorem local_er {P : Program} {f : FuncId} {args args' : List AV} {H H' : Hp M} {t : Tree (Ans M)} (hH : erH H = erH H') (ha : erL args = erL args') (h : LocalOK P S f args H t) : LocalOK P S f args' H' t := by
  intro ρ F w w0 F0 R hcon hargs ht
  have hv := vis_of_er hH
  rw [← denL_er, ← ha, denL_er]
  refine h ρ F w w0 F0 R (con_er.1 (by rw [hH]; exact con_er.2 hcon)) (fun x hx => ?_) (Tree.all_mono ht ?_)
  · have hx' : x.er ∈ erL args' := by rw [← ha, erL_eq]; exact List.mem_map_of_mem hx
    rw [erL_eq, List.mem_map] at hx'
    obtain ⟨y, hy, he⟩ := hx'
    rw [hv, ← sc_er, ← he, sc_er]
    exact hargs y hy
  · rintro ⟨v, e⟩ ⟨h1, h2⟩
    have hva : vis (e.app H) = vis (e.app H') := by rw [← visH_er (e.app H), ← visH_er (e.app H'), erH_app, erH_app, hH]
    refine ⟨by rw [hva]; exact h1, fun ρ' F' w' hag hc => h2 ρ' F' w' ⟨fun l hl => hag.same l (by rw [hv]; exact hl), fun l hl => by rw [← hva]; exact hag.keep l (by rw [hv]; exact hl)⟩ (con_er.1 ?_)⟩
    rw [erH_app, ← hH, ← erH_app]
    exact con_er.2 hc

/-- What was found of a small heap, as a heap that holds it. -/
theorem found_heap {L0 : List TO} {H : Hp M} {E : Env} {σ : Nat → Nat} (hap : apartN σ L0.length 0 = true) (hcl : ∀ t ∈ L0, toIn L0.length t = true)
    (hfound : ∀ (j : Nat) (t : TO), L0[j]? = some t → ∃ o, H[σ (0 + j)]? = some o ∧ ((isNone t = true ∧ o.vis = true) ∨ (isNone t = false ∧ ((instO E t : AO M).ren σ).er = o.er))) :
    ∃ H2 : Hp M, erH H2 = erH (maskH (hidden σ 0 L0) 0 H) ∧ Within S (instH E L0 : Hp M) σ H2 ∧ H.length = H2.length ∧ ∀ i, i < L0.length → vis (instH E L0 : Hp M) i = true := by
  have hV : ∀ i, i < L0.length → vis (instH E L0 : Hp M) i = true := by
    intro i hl
    refine vis_some (o := instO E L0[i]) ?_ (instO_vis E _)
    rw [instH_get, List.getElem?_eq_getElem hl]; rfl
  have hinj : ∀ a b, a < L0.length → b < L0.length → σ a = σ b → a = b := by
    intro a b ha hb hab
    rcases Nat.lt_trichotomy a b with h | h | h
    · exact absurd hab (apartN_spec hap a b (Nat.zero_le _) h (by omega))
    · exact h
    · exact absurd hab.symm (apartN_spec hap b a (Nat.zero_le _) h (by omega))
  -- the heap with the template's own flags
  let Hm := maskH (hidden σ 0 L0) 0 H
  have hne : Nonempty (AO M) := ⟨.none⟩
  let pick : Nat → AO M → AO M := fun l o => Classical.epsilon fun o' => (∃ j t, L0[j]? = some t ∧ isNone t = false ∧ σ j = l ∧ o' = (instO E t : AO M).ren σ) ∨ ((¬ ∃ j t, L0[j]? = some t ∧ isNone t = false ∧ σ j = l) ∧ o' = o)
  have hpick1 : ∀ j t o, L0[j]? = some t → isNone t = false → pick (σ j) o = (instO E t : AO M).ren σ := by
    intro j t o hj ht
    have := Classical.epsilon_spec (p := fun o' => (∃ j' t', L0[j']? = some t' ∧ isNone t' = false ∧ σ j' = σ j ∧ o' = (instO E t' : AO M).ren σ) ∨ ((¬ ∃ j' t', L0[j']? = some t' ∧ isNone t' = false ∧ σ j' = σ j) ∧ o' = o)) ⟨_, .inl ⟨j, t, hj, ht, rfl, rfl⟩⟩
    rcases this with ⟨j', t', h1, h2, h3, h4⟩ | ⟨h1, _⟩
    · have e1 := hinj j' j (List.getElem?_eq_some_iff.1 h1).1 (List.getElem?_eq_some_iff.1 hj).1 h3
      subst e1
      rw [hj] at h1
      simp only [Option.some.injEq] at h1
      subst h1
      exact h4
    · exact absurd ⟨j, t, hj, ht, rfl⟩ h1
  have hpick2 : ∀ l o, (¬ ∃ j t, L0[j]? = some t ∧ isNone t = false ∧ σ j = l) → pick l o = o := by
    intro l o hn
    have := Classical.epsilon_spec (p := fun o' => (∃ j t, L0[j]? = some t ∧ isNone t = false ∧ σ j = l ∧ o' = (instO E t : AO M).ren σ) ∨ ((¬ ∃ j t, L0[j]? = some t ∧ isNone t = false ∧ σ j = l) ∧ o' = o)) ⟨_, .inr ⟨hn, rfl⟩⟩
    rcases this with ⟨j, t, h1, h2, h3, _⟩ | ⟨_, h4⟩
    · exact absurd ⟨j, t, h1, h2, h3⟩ hn
    · exact h4
  let H2 : Hp M := Hm.mapIdx pick
  have hget : ∀ l, H2[l]? = (Hm[l]?).map (pick l) := fun l => by simp only [H2, List.getElem?_mapIdx]
  have hHm : ∀ (j : Nat) (t : TO), L0[j]? = some t → isNone t = false → Hm[σ j]? = H[σ j]? := by
    intro j t hj ht
    simp only [Hm]
    rw [maskH_get, Nat.zero_add]
    have hf : hidden σ 0 L0 (σ j) = false := by
      cases hh : hidden σ 0 L0 (σ j) with
      | false => rfl
      | true =>
        obtain ⟨j', t', a, b, c⟩ := hidden_spec.1 hh
        rw [Nat.zero_add] at c
        have e1 := hinj j' j (List.getElem?_eq_some_iff.1 a).1 (List.getElem?_eq_some_iff.1 hj).1 c
        subst e1
        rw [hj] at a
        simp only [Option.some.injEq] at a
        subst a
        rw [ht] at b; cases b
    rw [hf]
    cases H[σ j]? <;> rfl
  have herH : erH H2 = erH Hm := by
    apply List.ext_getElem?
    intro l
    rw [erH_get, erH_get, hget]
    cases hl : Hm[l]? with
    | none => rfl
    | some o =>
      simp only [Option.map_some, Option.some.injEq]
      by_cases hx : ∃ j t, L0[j]? = some t ∧ isNone t = false ∧ σ j = l
      · obtain ⟨j, t, h1, h2, h3⟩ := hx
        subst h3
        rw [hpick1 j t o h1 h2]
        obtain ⟨o', ho', hor⟩ := hfound j t h1
        rw [Nat.zero_add] at ho'
        rw [hHm j t h1 h2, ho'] at hl
        simp only [Option.some.injEq] at hl
        subst hl
        rcases hor with ⟨h4, _⟩ | ⟨_, h4⟩
        · rw [h2] at h4; cases h4
        · exact h4
      · rw [hpick2 l o hx]
  have hW : Within S (instH E L0 : Hp M) σ H2 := by
    refine ⟨fun a b ha hb hab => hinj a b (by rw [instH_len] at ha; exact ha) (by rw [instH_len] at hb; exact hb) hab, fun j o hj => ?_, fun j o hj => ?_, fun j o hj => ?_⟩
    · rw [instH_get] at hj
      cases ht : L0[j]? with
      | none => rw [ht] at hj; cases hj
      | some t =>
        rw [ht] at hj
        simp only [Option.map_some, Option.some.injEq] at hj
        subst hj
        obtain ⟨o', ho', hor⟩ := hfound j t ht
        rw [Nat.zero_add] at ho'
        rw [hget]
        rcases hor with ⟨h4, h5⟩ | ⟨h4, h5⟩
        · have hm : Hm[σ j]? = some .none := by
            simp only [Hm]
            rw [maskH_get, Nat.zero_add, ho']
            have : hidden σ 0 L0 (σ j) = true := hidden_spec.2 ⟨j, t, ht, h4, by rw [Nat.zero_add]⟩
            simp [this, h5]
          rw [hm]
          simp only [Option.map_some, Option.some.injEq]
          rw [hpick2]
          · cases t with
            | none => simp only [instO, AO.ren]
            | cells => cases h4
            | buf => cases h4
            | ints => cases h4
            | view => cases h4
          · rintro ⟨j', t', a, b, c⟩
            have e1 := hinj j' j (List.getElem?_eq_some_iff.1 a).1 (List.getElem?_eq_some_iff.1 ht).1 c
            subst e1
            rw [ht] at a
            simp only [Option.some.injEq] at a
            subst a
            rw [h4] at b; cases b
        · rw [hHm j t ht h4, ho']
          simp only [Option.map_some, Option.some.injEq]
          exact hpick1 j t o' ht h4
    · rw [instH_get] at hj
      cases ht : L0[j]? with
      | none => rw [ht] at hj; cases hj
      | some t =>
        rw [ht] at hj
        simp only [Option.map_some, Option.some.injEq] at hj
        subst hj
        exact instO_vis E t
    · rw [instH_get] at hj
      cases ht : L0[j]? with
      | none => rw [ht] at hj; cases hj
      | some t =>
        rw [ht] at hj
        simp only [Option.map_some, Option.some.injEq] at hj
        subst hj
        exact toIn_sc hV (hcl t (List.mem_of_getElem? ht))
  have hlen : H.length = H2.length := by simp [H2, Hm, maskH_len]
  exact ⟨H2, herH, hW, hlen, hV⟩

theorem Entry.sound (hlocs : ∀ m, S.locs m = []) {P : Program} {f : FuncId} {e : Entry M} (hcl : e.shut = true) (hok : ∀ q E, LocalOK P S f (instAs E e.args) (instH E e.heap) (e.out q E)) {args : List AV} {H : Hp M} {t : Tree (Ans M)}
    (h : e.K S.locs args H = some t) : LocalOK P S f args H t := by
  unfold Entry.K at h
  split at h
  · cases h
  · rename_i A hA
    split at h
    · cases h
    · rename_i B hB
      split at h
      · cases h
      · rename_i hs
        split at h
        · cases h
        · rename_i hi
          simp only [Option.some.injEq] at h
          subst h
          simp only [Bool.and_eq_true] at hs hi
          generalize hσ : look 0 (lapp A.s B.s) = σ at hs ⊢
          have hagr : Agr (A.app B) (A.app B).env σ := by
            refine ⟨fun p hp => (incK_mem 0 hi.1.1.1.1).1 p hp, fun p hp => (incK_mem false hi.1.1.1.2).1 p hp, fun p hp => (incK_mem 0 hi.1.1.2).1 p hp, fun p hp => ?_, fun p hp => (incK_mem default hi.2).1 p hp, fun p hp => ?_⟩
            · have := (incK_mem (fun _ => true, fun _ => 0) hi.1.2).1 p hp
              exact ⟨congrArg Prod.fst this, congrArg Prod.snd this⟩
            · rw [← hσ]; exact sameN_mem hs.1 p hp
          generalize (A.app B).env = E at hagr ⊢
          simp only [Entry.shut, Bool.and_eq_true, List.all_eq_true] at hcl
          rw [lenT_eq] at hcl hs
          have hfound := matchH_ok hB hagr.right (fun p hp => hagr.left.s p hp)
          refine mask_sound _ ?_
          obtain ⟨H2, herH, hW, hlen, hV⟩ := found_heap (S := S) hs.2 hcl.2 hfound
          rw [embed_len hlen]
          refine local_er herH (matchAs_ok hA hagr.left) (embed_sound hlocs (hok _ _) hW fun x hx => ?_)
          obtain ⟨t, ht, rfl⟩ := instAs_mem hx
          exact taIn_sc hV (hcl.1 t ht)
end
end Go.SX
