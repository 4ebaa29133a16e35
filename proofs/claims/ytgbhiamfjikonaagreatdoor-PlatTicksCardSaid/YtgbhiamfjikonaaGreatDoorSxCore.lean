/- SX: an evaluator of Go code over abstract heaps, by computation: definitions. -/
import Derived.Orders
import Derived.Eval
set_option linter.unusedVariables false
set_option linter.unusedSimpArgs false
namespace Go.SX

/-- An abstract value. A flag `s` says whether what it holds is symbolic (then tests on it part the tree) or written out. -/
inductive AV where
  | bool (s : Bool) (b : Bool)
  | int (s : Bool) (k : IntKind) (n : Int)
  | str (s : Bool) (b : ByteArray)
  | ptr (l i z o : Nat)
  | ptrx (l i n z o f : Nat)
  | nilp
  | slice (s : Bool) (l i z : Nat) (n c : Nat)
  | nils
  | own (l lc z n : Nat)
  | map (l : Nat)
  | nilm
  | fn (f : Fn) (first captured : List AV)
  | nilfn
  | agg (l : List AV)
  | tup (l : List AV)
  | raw (v : Value)

/-- What may happen. -/
inductive Tree (α : Type) where
  | leaf (a : α)
  | ite (b : Bool) (t e : Tree α)
  | any (f : Nat → Tree α)
  | stuck (n : Nat)

namespace Tree
variable {α β : Type}
def bind : Tree α → (α → Tree β) → Tree β
  | .leaf a, f => f a
  | .ite b t e, f => .ite b (t.bind f) (e.bind f)
  | .any g, f => .any fun n => (g n).bind f
  | .stuck n, _ => .stuck n
def all (Q : α → Prop) : Tree α → Prop
  | .leaf a => Q a
  | .ite b t e => (b = true → t.all Q) ∧ (b = false → e.all Q)
  | .any g => ∀ n, (g n).all Q
  | .stuck _ => False
/-- The leaf that is reached where nothing is left open. -/
def run : Tree α → Option α
  | .leaf a => some a
  | .ite b t e => cond b t.run e.run
  | .any _ => none
  | .stuck _ => none
end Tree

def lget {α : Type} : List α → Nat → Option α
  | [], _ => none
  | a :: _, 0 => some a
  | _ :: l, n + 1 => lget l n

def lset {α : Type} : List α → Nat → α → List α
  | [], _, _ => []
  | _ :: l, 0, b => b :: l
  | a :: l, n + 1, b => a :: lset l n b

def ltake {α : Type} : List α → Nat → Nat → Option (List α)
  | _, _, 0 => some []
  | [], _, _ + 1 => none
  | a :: l, 0, n + 1 => (ltake l 0 n).map (a :: ·)
  | _ :: l, o + 1, n + 1 => ltake l o (n + 1)

def lput {α : Type} : List α → Nat → List α → Option (List α)
  | l, _, [] => some l
  | [], _, _ :: _ => none
  | _ :: l, 0, b :: bs => (lput l 0 bs).map (b :: ·)
  | a :: l, o + 1, bs => (lput l o bs).map (a :: ·)

def lrep {α : Type} : Nat → α → List α
  | 0, _ => []
  | n + 1, a => a :: lrep n a

/-- An object of the abstract heap. `hid`: not to be named; `none`: a name without a right. -/
inductive AO (M : Type) where
  | hid
  | none
  | cells (c : List AV) (e : TypeId)
  /-- Numbers of one kind: whether how many is symbolic, and which of them are. -/
  | ints (k : IntKind) (q : Bool) (n : Nat) (sg : Nat → Bool) (g : Nat → Int) (e : TypeId)
  /-- A block that is just this object of the model; some of its numbers. It is read alone. -/
  | view (k : IntKind) (lo n : Nat) (g : Nat → Int) (o : Obj)
  | rows (n z : Nat) (g : Nat → List AV) (e : TypeId)
  | at1 (i : Nat) (v : AV) (e : TypeId)
  | buf (c : List AV) (lc z : Nat) (e : TypeId)
  | map (es : List (AV × AV))
  | res (m : M)

def AO.vis {M : Type} : AO M → Bool
  | .hid => false
  | _ => true

def vis {M : Type} (H : List (AO M)) (l : Nat) : Bool := match lget H l with | some o => o.vis | none => false

mutual
def AV.sc (V : Nat → Bool) : AV → Bool
  | .ptr l _ _ _ => V l
  | .ptrx l _ _ _ _ _ => V l
  | .slice _ l _ _ _ _ => V l
  | .own l lc _ _ => V l && V lc
  | .map l => V l
  | .fn _ a b => scL V a && scL V b
  | .agg l => scL V l
  | .tup l => scL V l
  | _ => true
def scL (V : Nat → Bool) : List AV → Bool
  | [] => true
  | a :: l => a.sc V && scL V l
end

mutual
def AV.den (ρ : Nat → Nat) : AV → Value
  | .bool _ b => .bool b
  | .int _ k n => .int k n
  | .str _ b => .string b
  | .ptr l i z o => .pointer (some ⟨ρ l, i * z + o, none⟩)
  | .ptrx l i _ z o f => .pointer (some ⟨ρ l, o + i * z + f, none⟩)
  | .nilp => .pointer none
  | .slice _ l i z n c => .slice (some ⟨ρ l, i * z, none⟩) n c
  | .nils => .slice none 0 0
  | .own l lc _ n => .slice (some ⟨ρ l, 0, none⟩) n (ρ lc)
  | .map l => .map (some (ρ l))
  | .nilm => .map none
  | .fn f a b => .func f (denL ρ a).toArray (denL ρ b).toArray
  | .nilfn => .nilFunc
  | .agg l => .agg (denL ρ l).toArray
  | .tup l => .tuple (denL ρ l).toArray
  | .raw v => v
def denL (ρ : Nat → Nat) : List AV → List Value
  | [] => []
  | a :: l => a.den ρ :: denL ρ l
end

/-- Slots: how many there are, and what was told of them, the last first. -/
structure Fr where
  n : Nat
  l : List (Nat × AV)

def fget : List (Nat × AV) → Nat → Option AV
  | [], _ => none
  | (i, v) :: l, t => match Nat.beq i t with
    | true => some v
    | false => fget l t

def setFr (fr : Fr) (d : Nat) (v : AV) : Fr := ⟨fr.n, (d, v) :: fr.l⟩
abbrev Hp (M : Type) := List (AO M)

inductive Ex where
  | normal
  | exit (id : Nat)
  | ret

inductive Eff (M : Type) where
  | ext (sets : List (Nat × AO M)) (news : List (AO M))

def Eff.quiet {M : Type} : Eff M := .ext [] []

abbrev Ans (M : Type) := AV × Eff M

def applySets {M : Type} : List (Nat × AO M) → Hp M → Hp M
  | [], H => H
  | (l, o) :: r, H => applySets r (lset H l o)

def lapp {α : Type} : List α → List α → List α
  | [], m => m
  | a :: l, m => a :: lapp l m

def Eff.app {M : Type} : Eff M → Hp M → Hp M
  | .ext [] [], H => H
  | .ext s n, H => lapp (applySets s H) n

/-- Places that were set. -/
abbrev Lg := List Nat

def memN (l : Nat) : Lg → Bool
  | [] => false
  | a :: r => Nat.beq l a || memN l r

def addL {M : Type} : List (Nat × AO M) → Lg → Lg
  | [], g => g
  | (l, _) :: r, g => addL r (if memN l g then g else l :: g)

/-- A heap, and which places of it were set. -/
structure Hs (M : Type) where
  h : Hp M
  g : Lg

def Hs.app {M : Type} (X : Hs M) : Eff M → Hs M
  | .ext s n => ⟨(Eff.ext s n).app X.h, addL s X.g⟩

def ldrop {α : Type} : Nat → List α → List α
  | 0, l => l
  | _ + 1, [] => []
  | n + 1, _ :: l => ldrop n l

def lenH {M : Type} : Hp M → Nat
  | [] => 0
  | _ :: l => lenH l + 1

def setsOf {M : Type} (n : Nat) (H : Hp M) : Lg → List (Nat × AO M)
  | [] => []
  | l :: r => if Nat.blt l n then match lget H l with | some o => (l, o) :: setsOf n H r | none => setsOf n H r else setsOf n H r

/-- What became of a heap. -/
def effOf {M : Type} (H : Hp M) (X : Hs M) : Eff M := .ext (setsOf (lenH H) X.h X.g) (ldrop (lenH H) X.h)

structure Cfg (M : Type) where
  P : Program
  K : FuncId → List AV → Hp M → Option (Tree (Ans M))
  loop : FuncId → Nat → Fr → Hp M → Option (Tree (Ex × Fr × Eff M))
  split : Nat
  okt : TypeId → Bool
  /-- How many rounds of a loop are gone, of so many that may be. -/
  rounds : FuncId → Nat → Nat → Nat := fun _ _ n => n

section
variable {M : Type}

def constCell : Value → AV
  | .bool b => .bool false b
  | .int k n => .int false k n
  | .string s => .str false s
  | .pointer none => .nilp
  | .slice none 0 0 => .nils
  | .map none => .nilm
  | .nilFunc => .nilfn
  | v => .raw v

def constAV : Value → AV
  | .agg cs => .agg (cs.toList.map constCell)
  | v => constCell v

/-- What is known of the slots. -/
abbrev Ev := Tmp → Option AV

def evFr (fr : Fr) : Ev := fun t => match Nat.blt t fr.n with | true => fget fr.l t | false => none

def operand (ev : Ev) : Operand → Option AV
  | .tmp t => ev t
  | .const v => some (constAV v)
  | .global g => some (.raw (.pointer (some ⟨g, 0, none⟩)))
  | .func f => some (.fn (.func f) [] [])

def operands (ev : Ev) : List Operand → Option (List AV)
  | [] => some []
  | x :: l => match operand ev x with
    | some v => (operands ev l).map (v :: ·)
    | none => none

def AV.cells : AV → List AV
  | .agg l => l
  | v => [v]

/-- A number, reckoned before it is used. -/
def forceN {α : Type} (n : Nat) (f : Nat → α) : α := Nat.rec (f 0) (fun m _ => f (Nat.succ m)) n
theorem forceN_eq {α : Type} (n : Nat) (f : Nat → α) : forceN n f = f n := by cases n <;> rfl
def infoB (P : Program) (t : TypeId) : Option TypeInfo := forceN t fun t => lget P.types.toList t

def undB (P : Program) (t : TypeId) : Option TypeDesc :=
  match infoB P t with
  | some i => match i.desc with
    | .named _ u => match infoB P u with | some j => some j.desc | none => none
    | d => some d
  | none => none

def isAggB (P : Program) (t : TypeId) : Option Bool :=
  match undB P t with
  | some (.struct _) | some (.array _ _) => some true
  | some _ => some false
  | none => none

def sizeB (P : Program) (t : TypeId) : Option Nat := match infoB P t with | some i => some i.size | none => none

def zeroB (P : Program) (t : TypeId) : Option AV :=
  match infoB P t with
  | some i => match i.zero with | some v => some (constAV v) | none => none
  | none => none

/-- A test: parted where it is symbolic. -/
def test {α : Type} (s : Bool) (b : Bool) (t e : Tree α) : Tree α :=
  match s with
  | true => .ite b t e
  | false => match b with
    | true => t
    | false => e

/-- n cells from an offset of an object. -/
def objLoad (o : AO M) (i z f n : Nat) : Tree (List AV) :=
  match o with
  | .cells c _ => match ltake c (i * z + f) n with | some l => .leaf l | none => .stuck 1
  | .ints k q m sg g _ => match n, z, f with
    | 1, 1, 0 => .ite (decide (i < m)) (.leaf [.int true k (g i)]) (.stuck 2)
    | 1, 0, f => test q (decide (f < m)) (.leaf [.int (sg f) k (g f)]) (.stuck 2)
    | _, _, _ => .stuck 3
  | .view k lo m g _ => match n, z, f with
    | 1, 1, 0 => .ite (decide (lo ≤ i ∧ i < m)) (.leaf [.int true k (g i)]) (.stuck 2)
    | 1, 0, f => .ite (decide (lo ≤ f ∧ f < m)) (.leaf [.int true k (g f)]) (.stuck 2)
    | _, _, _ => .stuck 3
  | .rows m y g _ => if Nat.beq z y then
      match ltake (g i) f n with | some l => .ite (decide (i < m)) (.leaf l) (.stuck 4) | none => .stuck 5
    else .stuck 6
  | .at1 j v _ => match z, f, n with
    | 1, 0, 1 => .ite (decide (i = j)) (.leaf [v]) (.stuck 7)
    | _, _, _ => .stuck 7
  | .buf c _ _ _ => match ltake c (i * z + f) n with | some l => .leaf l | none => .stuck 1
  | _ => .stuck 7

/-! A row within a block, at a place that is symbolic. -/

def selI : List Int → Nat → Int
  | [], _ => 0
  | x :: _, 0 => x
  | _ :: l, i + 1 => selI l i

def selB : List Bool → Nat → Bool
  | [], _ => false
  | x :: _, 0 => x
  | _ :: l, i + 1 => selB l i

/-- Every z-th cell from an offset, n of them. -/
def column (c : List AV) (z : Nat) : Nat → Nat → Option (List AV)
  | _, 0 => some []
  | o, n + 1 => match lget c o, column c z (o + z) n with
    | some v, some l => some (v :: l)
    | _, _ => none

def intsOf (k : IntKind) : List AV → Option (List Int)
  | [] => some []
  | .int _ k' x :: l => if k = k' then (intsOf k l).map (x :: ·) else none
  | _ :: _ => none

def boolsOf : List AV → Option (List Bool)
  | [] => some []
  | .bool _ x :: l => (boolsOf l).map (x :: ·)
  | _ :: _ => none

/-- One of some cells of one kind. -/
def selAV (i : Nat) : List AV → Option AV
  | .int s k x :: l => (intsOf k (.int s k x :: l)).map fun xs => .int true k (selI xs i)
  | .bool s x :: l => (boolsOf (.bool s x :: l)).map fun xs => .bool true (selB xs i)
  | _ => none

def loadX (c : List AV) (i n z : Nat) : Nat → Nat → Option (List AV)
  | _, 0 => some []
  | o, k + 1 => match column c z o n with
    | some l => match selAV i l, loadX c i n z (o + 1) k with
      | some v, some vs => some (v :: vs)
      | _, _ => none
    | none => none

def upI (i j : Nat) (x y : Int) : Int := if i = j then x else y
def upB (i j : Nat) (x y : Bool) : Bool := if i = j then x else y

/-- A cell that is turned if i is j. -/
def upAV (i j : Nat) : AV → AV → Option AV
  | .int _ k x, .int _ k' y => if k = k' then some (.int true k (upI i j x y)) else none
  | .bool _ x, .bool _ y => some (.bool true (upB i j x y))
  | _, _ => none

/-- The cells at a place of element j turned. -/
def upRow (i j : Nat) : Nat → List AV → List AV → Option (List AV)
  | _, l, [] => some l
  | _, [], _ :: _ => none
  | 0, a :: l, v :: vs => match upAV i j v a, upRow i j 0 l vs with
    | some b, some m => some (b :: m)
    | _, _ => none
  | o + 1, a :: l, vs => (upRow i j o l vs).map (a :: ·)

/-- .. of each element. -/
def storeX (i z : Nat) (vs : List AV) : Nat → Nat → Nat → List AV → Option (List AV)
  | _, _, 0, l => some l
  | j, o, n + 1, l => match upRow i j o l vs with
    | some m => storeX i z vs (j + 1) (o + z) n m
    | none => none

def loadAt (P : Program) (H : Hp M) (t : TypeId) : AV → Tree AV
  | .ptr l i z o => match lget H l, isAggB P t, sizeB P t with
    | some b, some true, some n => (objLoad b i z o n).bind fun c => .leaf (.agg c)
    | some b, some false, some _ => (objLoad b i z o 1).bind fun c => match c with | [v] => .leaf v | _ => .stuck 8
    | _, _, _ => .stuck 9
  | .ptrx l i n z o f => match lget H l, isAggB P t, sizeB P t with
    | some (.cells c _), some g, some k => match loadX c i n z (o + f) k with
      | some vs => match g, vs with
        | true, vs => .ite (decide (i < n)) (.leaf (.agg vs)) (.stuck 9)
        | false, [v] => .ite (decide (i < n)) (.leaf v) (.stuck 9)
        | _, _ => .stuck 9
      | none => .stuck 9
    | _, _, _ => .stuck 9
  | _ => .stuck 10

def objStore (o : AO M) (i z f : Nat) (vs : List AV) : Tree (AO M) :=
  match o with
  | .cells c e => match lput c (i * z + f) vs with | some c' => .leaf (.cells c' e) | none => .stuck 11
  | .ints k q m sg g e => match vs, z, f with
    | [.int _ k' x], 1, 0 => if k = k' then .ite (decide (i < m)) (.leaf (.ints k q m (fun _ => true) (fun j => if j = i then x else g j) e)) (.stuck 12) else .stuck 13
    | [.int sv k' x], 0, f => if k = k' then test q (decide (f < m)) (.leaf (.ints k q m (fun j => cond (Nat.beq j f) sv (sg j)) (fun j => if j = f then x else g j) e)) (.stuck 12) else .stuck 13
    | _, _, _ => .stuck 14
  | .buf c lc y e => match lput c (i * z + f) vs with | some c' => .leaf (.buf c' lc y e) | none => .stuck 11
  | _ => .stuck 15

def lenB : List AV → Nat
  | [] => 0
  | _ :: l => lenB l + 1

def plainCell : AV → Bool
  | .agg _ => false
  | .tup _ => false
  | .raw (.agg _) => false
  | .raw (.tuple _) => false
  | _ => true

def plainCells : List AV → Bool
  | [] => true
  | a :: l => plainCell a && plainCells l

def storeAt (P : Program) (H : Hp M) (t : TypeId) (a v : AV) : Tree (Nat × AO M) :=
  match a with
  | .ptr l i z o => match lget H l, sizeB P t with
    | some b, some n => if Nat.beq (lenB v.cells) n && plainCells v.cells then (objStore b i z o v.cells).bind fun b' => .leaf (l, b') else .stuck 16
    | _, _ => .stuck 17
  | .ptrx l i n z o f => match lget H l, sizeB P t with
    | some (.cells c e), some k => if Nat.beq (lenB v.cells) k && plainCells v.cells && Nat.ble (f + k) z then match storeX i z v.cells 0 (o + f) n c with
        | some c' => .ite (decide (i < n)) (.leaf (l, .cells c' e)) (.stuck 17)
        | none => .stuck 17
      else .stuck 16
    | _, _ => .stuck 17
  | _ => .stuck 18

def fillB (place : Nat → Option (Nat × Nat)) : List (Nat × AV) → List AV → Option (List AV)
  | [], cs => some cs
  | (i, v) :: rest, cs => match place i with
    | some (o, n) => if Nat.beq (lenB v.cells) n && !Nat.beq n 0 && plainCells v.cells then match lput cs o v.cells with | some cs' => fillB place rest cs' | none => none else none
    | none => none

def placesB (P : Program) : List Field → Option (List (Nat × Nat))
  | [] => some []
  | f :: fs => match sizeB P f.type, placesB P fs with
    | some n, some l => some ((f.offset, n) :: l)
    | _, _ => none

def parts (ev : Ev) : List (Nat × Operand) → Option (List (Nat × AV))
  | [] => some []
  | (i, x) :: l => match operand ev x with
    | some v => (parts ev l).map ((i, v) :: ·)
    | none => none

def buildB (P : Program) (t : TypeId) (ps : List (Nat × AV)) : Option AV :=
  match zeroB P t, undB P t with
  | some z, some (.struct fs) => match placesB P fs.toList with
    | some pl => if plainCells z.cells then (fillB (lget pl) ps z.cells).map .agg else none
    | none => none
  | some z, some (.array _ e) => match sizeB P e with
    | some n => if plainCells z.cells then (fillB (fun i => some (i * n, n)) ps z.cells).map .agg else none
    | none => none
  | _, _ => none

def repB : Nat → List AV → List AV
  | 0, _ => []
  | n + 1, l => lapp l (repB n l)

def isLit : AV → Bool
  | .bool s _ => !s
  | .int s _ _ => !s
  | .str s _ => !s
  | .ptr .. => true
  | .ptrx .. => false
  | .nilp => true
  | .slice s .. => !s
  | .nils => true
  | .own .. => true
  | .nilm => true
  | .map _ => true
  | .nilfn => true
  | .fn .. => true
  | _ => false

def intBin (op : BinOp) (s : Bool) (k : IntKind) (x y : Int) : Tree AV :=
  match op with
  | .add => .leaf (.int s k (k.wrap (x + y)))
  | .sub => .leaf (.int s k (k.wrap (x - y)))
  | .mul => .leaf (.int s k (k.wrap (x * y)))
  | .quo => test s (decide (y = 0)) (.stuck 20) (.leaf (.int s k (k.wrap (x.tdiv y))))
  | .rem => test s (decide (y = 0)) (.stuck 21) (.leaf (.int s k (x.tmod y)))
  | .and => .leaf (.int s k (k.wrap (BitVec.ofInt k.bits x &&& BitVec.ofInt k.bits y).toNat))
  | .or => .leaf (.int s k (k.wrap (BitVec.ofInt k.bits x ||| BitVec.ofInt k.bits y).toNat))
  | .xor => .leaf (.int s k (k.wrap (BitVec.ofInt k.bits x ^^^ BitVec.ofInt k.bits y).toNat))
  | .andNot => .leaf (.int s k (k.wrap (BitVec.ofInt k.bits x &&& ~~~ BitVec.ofInt k.bits y).toNat))
  | .eql => .leaf (.bool s (x == y))
  | .neq => .leaf (.bool s (x != y))
  | .lss => .leaf (.bool s (decide (x < y)))
  | .leq => .leaf (.bool s (decide (x ≤ y)))
  | .gtr => .leaf (.bool s (decide (x > y)))
  | .geq => .leaf (.bool s (decide (x ≥ y)))
  | _ => .stuck 22

/-- Equality of two cells of a plain type. -/
def cellEq : AV → AV → Option (Bool × Bool)
  | .int s k x, .int s' k' y => if k = k' then some (s || s', x == y) else none
  | .bool s x, .bool s' y => some (s || s', x == y)
  | .str s x, .str s' y => some (s || s', x.data.toList == y.data.toList)
  | _, _ => none

def plainType (P : Program) (t : TypeId) : AV → Bool
  | .int _ k _ => match undB P t with | some (.int k') => decide (k = k') | _ => false
  | .bool _ _ => match undB P t with | some .bool => true | _ => false
  | .str _ _ => match undB P t with | some .string => true | _ => false
  | _ => false

def eqOne (P : Program) (re : TypeId → List AV → List AV → Option (Bool × Bool)) (t : TypeId) (xs ys : List AV) (o z : Nat) : Option (Bool × Bool) :=
  match ltake xs o z, ltake ys o z, isAggB P t with
  | some a, some b, some true => re t a b
  | some [a], some [b], some false => if plainType P t a && plainType P t b then cellEq a b else none
  | _, _, _ => none

def eqFields (P : Program) (re : TypeId → List AV → List AV → Option (Bool × Bool)) : List Field → List AV → List AV → Option (Bool × Bool)
  | [], _, _ => some (false, true)
  | f :: fs, xs, ys => match sizeB P f.type with
    | some z => match eqOne P re f.type xs ys f.offset z, eqFields P re fs xs ys with
      | some (s, b), some (s', b') => some (s || s', b && b')
      | _, _ => none
    | none => none

def eqElems (P : Program) (re : TypeId → List AV → List AV → Option (Bool × Bool)) : Nat → Nat → Nat → TypeId → List AV → List AV → Option (Bool × Bool)
  | 0, _, _, _, _, _ => some (false, true)
  | m + 1, i, z, e, xs, ys => match eqOne P re e xs ys (i * z) z, eqElems P re m (i + 1) z e xs ys with
    | some (s, b), some (s', b') => some (s || s', b && b')
    | _, _ => none

/-- Equality of aggregates: fields, or elements, of plain types, in order. (`n` bounds the nesting.) -/
def aggEq (P : Program) (okt : TypeId → Bool) : Nat → TypeId → List AV → List AV → Option (Bool × Bool)
  | 0, _, _, _ => none
  | n + 1, t, xs, ys =>
    match undB P t with
    | some (.struct fs) => if okt t then eqFields P (aggEq P okt n) fs.toList xs ys else none
    | some (.array m e) => match sizeB P e with
      | some z => eqElems P (aggEq P okt n) m 0 z e xs ys
      | none => none
    | _ => none

def eqB (P : Program) (okt : TypeId → Bool) (t : TypeId) (x y : AV) : Option (Bool × Bool) :=
  match x, y with
  | .nilp, .nilp => match undB P t with | some (.pointer _) => some (false, true) | _ => none
  | .nilp, .ptr .. => match undB P t with | some (.pointer _) => some (false, false) | _ => none
  | .ptr .., .nilp => match undB P t with | some (.pointer _) => some (false, false) | _ => none
  | .nilp, .ptrx .. => match undB P t with | some (.pointer _) => some (false, false) | _ => none
  | .ptrx .., .nilp => match undB P t with | some (.pointer _) => some (false, false) | _ => none
  | .nilfn, .nilfn => match undB P t with | some (.func ..) => some (false, true) | _ => none
  | .nilfn, .fn .. => match undB P t with | some (.func ..) => some (false, false) | _ => none
  | .fn .., .nilfn => match undB P t with | some (.func ..) => some (false, false) | _ => none
  | .nils, .nils => match undB P t with | some (.slice _) => some (false, true) | _ => none
  | .slice .., .nils => match undB P t with | some (.slice _) => some (false, false) | _ => none
  | .nils, .slice .. => match undB P t with | some (.slice _) => some (false, false) | _ => none
  | .own .., .nils => match undB P t with | some (.slice _) => some (false, false) | _ => none
  | .nils, .own .. => match undB P t with | some (.slice _) => some (false, false) | _ => none
  | .agg xs, .agg ys => if okt t then aggEq P okt 8 t xs ys else none
  | x, y => if plainType P t x && plainType P t y then cellEq x y else none

def binB (P : Program) (okt : TypeId → Bool) (op : BinOp) (t : TypeId) (x y : AV) : Tree AV :=
  match op, x, y with
  | .shl, .int s k a, .int s' _ b => test s' (decide (b < 0)) (.stuck 23) (.leaf (.int (s || s') k (k.wrap (a * 2 ^ (min b.toNat k.bits)))))
  | .shr, .int s k a, .int s' _ b => test s' (decide (b < 0)) (.stuck 23) (.leaf (.int (s || s') k (a.fdiv (2 ^ (min b.toNat k.bits)))))
  | op, .int s k a, .int s' k' b => if k = k' then intBin op (s || s') k a b else .stuck 24
  | .eql, x, y => match eqB P okt t x y with | some (s, b) => .leaf (.bool s b) | none => .stuck 25
  | .neq, x, y => match eqB P okt t x y with | some (s, b) => .leaf (.bool s (!b)) | none => .stuck 25
  | _, _, _ => .stuck 26

def unB (op : UnOp) (x : AV) : Tree AV :=
  match op, x with
  | .neg, .int s k n => .leaf (.int s k (k.wrap (0 - n)))
  | .not, .bool s b => .leaf (.bool s (!b))
  | _, _ => .stuck 27

def convB (P : Program) (s d : TypeId) (x : AV) : Tree AV :=
  match undB P s, undB P d, x with
  | some _, some (.int k), .int f _ n => .leaf (.int f k (k.wrap n))
  | some .string, some .string, .str f b => .leaf (.str f b)
  | _, _, _ => .stuck 28

def splitIdx (i : Int) : Nat → Nat → (Nat → Tree AV) → Tree AV
  | 0, _, _ => .stuck 30
  | n + 1, m, f => .ite (decide (i = (m : Int))) (f m) (splitIdx i n (m + 1) f)

def indexAddrB (cfg : Cfg M) (t : TypeId) (x i : AV) : Tree AV :=
  match undB cfg.P t, x, i with
  | some (.array len e), .ptr l a z o, .int s _ n => match sizeB cfg.P e with
    | some y => match s with
      | false => if 0 ≤ n ∧ n < len then .leaf (.ptr l a z (o + n.toNat * y)) else .stuck 31
      | true => match a, z with
        | 0, 0 => .ite (decide (0 ≤ n ∧ n < len)) (.leaf (.ptrx l n.toNat len y o 0)) (.stuck 32)
        | _, _ => .stuck 32
    | none => .stuck 33
  | some (.array len e), .ptrx l a m z o f, .int false _ n => match sizeB cfg.P e with
    | some y => if 0 ≤ n ∧ n < len then .leaf (.ptrx l a m z o (f + n.toNat * y)) else .stuck 31
    | none => .stuck 33
  | some (.slice e), .slice s l a z len _, .int s' _ n => match sizeB cfg.P e with
    | some y => match s || s' with
      | false => if 0 ≤ n ∧ n < len then .leaf (.ptr l 0 0 (a * z + n.toNat * y)) else .stuck 34
      | true => if Nat.beq y z then .ite (decide (0 ≤ n ∧ n < len)) (.leaf (.ptr l (a + n.toNat) z 0)) (.stuck 35) else .stuck 36
    | none => .stuck 37
  | some (.slice e), .own l _ z len, .int s _ n => match sizeB cfg.P e with
    | some y => if Nat.beq y z then match s with
        | false => if 0 ≤ n ∧ n < len then .leaf (.ptr l 0 0 (n.toNat * y)) else .stuck 34
        | true => if len ≤ cfg.split then splitIdx n len 0 fun m => .leaf (.ptr l 0 0 (m * y)) else .stuck 39
      else .stuck 36
    | none => .stuck 37
  | _, _, _ => .stuck 38

def indexB (cfg : Cfg M) (t : TypeId) (x i : AV) : Tree AV :=
  match undB cfg.P t, x, i with
  | some (.array len e), .agg cs, .int false _ n => match sizeB cfg.P e, isAggB cfg.P e with
    | some y, some g => if 0 ≤ n ∧ n < len then
        match ltake cs (n.toNat * y) y, g with
        | some l, true => .leaf (.agg l)
        | some [v], false => .leaf v
        | _, _ => .stuck 40
      else .stuck 41
    | _, _ => .stuck 42
  | some (.array len e), .agg cs, .int true _ n => match sizeB cfg.P e, isAggB cfg.P e with
    | some 1, some false => match ltake cs 0 len with
      | some l => match selAV n.toNat l with
        | some v => .ite (decide (0 ≤ n ∧ n < len)) (.leaf v) (.stuck 43)
        | none => if len ≤ cfg.split then splitIdx n len 0 fun m => match lget cs m with | some v => .leaf v | none => .stuck 43 else .stuck 44
      | none => .stuck 44
    | _, _ => .stuck 45
  | some .string, .str s b, .int s' _ n => test (s || s') (decide (0 ≤ n ∧ n < (b.size : Int))) (.leaf (.int (s || s') .u8 ((b.data.toList.getD n.toNat 0).toNat : Int))) (.stuck 46)
  | _, _, _ => .stuck 47

def boundB (v : Option AV) (d : Nat) : Option (Bool × Int) :=
  match v with
  | none => some (false, (d : Int))
  | some (.int s _ n) => some (s, n)
  | _ => none

/-- Bounds of a slice: low, high, most. -/
def sliceBoundsB (s : Bool) (len cap : Nat) (lo hi mx : Option AV) : Tree (Nat × Nat × Nat × Bool) :=
  match boundB lo 0, boundB hi len, boundB mx cap with
  | some (a, l), some (b, h), some (c, m) =>
    let f := s || a || b || c
    if mx.isSome && hi.isNone then .stuck 49 else
    test f (decide (0 ≤ m ∧ m ≤ cap)) (test f (decide (0 ≤ h ∧ h ≤ m)) (test f (decide (0 ≤ l ∧ l ≤ h)) (.leaf (l.toNat, h.toNat, m.toNat, f)) (.stuck 50)) (.stuck 51)) (.stuck 52)
  | _, _, _ => .stuck 53

def sliceB (P : Program) (t : TypeId) (x : AV) (lo hi mx : Option AV) : Tree AV :=
  match undB P t, x with
  | some (.array n e), .ptr l 0 0 o => match sizeB P e with
    | some z => if Nat.beq z 0 then .stuck 54 else
      (sliceBoundsB false n n lo hi mx).bind fun (a, h, m, f) => test f (decide (m = a)) (.stuck 47) (if (o % z = 0) then .leaf (.slice f l (o / z + a) z (h - a) (m - a)) else .stuck 55)
    | none => .stuck 56
  | some (.slice e), .slice s l i z n c => match sizeB P e with
    | some y => if Nat.beq y z then
        (sliceBoundsB s n c lo hi mx).bind fun (a, h, m, f) => test f (decide (m = a)) (.leaf (.slice f l i z (h - a) 0)) (.leaf (.slice f l (i + a) z (h - a) (m - a)))
      else .stuck 57
    | none => .stuck 58
  | some (.slice e), .nils => match sizeB P e with
    | some _ => (sliceBoundsB false 0 0 lo hi mx).bind fun (a, h, m, f) => if Nat.beq a 0 && Nat.beq h 0 && Nat.beq m 0 then .leaf .nils else .stuck 48
    | none => .stuck 48
  | some (.slice e), .own l _ z _ => match sizeB P e, lo, hi, mx with
    | some y, none, some (.int false _ 0), some (.int false _ 0) => if Nat.beq y z then .leaf (.slice false l 0 z 0 0) else .stuck 57
    | _, _, _, _ => .stuck 58
  | some .string, .str s b => match mx with
    | none => (sliceBoundsB s b.size b.size lo hi none).bind fun (a, h, _, f) => .leaf (.str f (b.extract a h))
    | some _ => .stuck 59
  | _, _ => .stuck 60

def fieldB (P : Program) (t : TypeId) (x : AV) (i : Nat) : Tree AV :=
  match undB P t, x with
  | some (.struct fs), .agg cs => match lget fs.toList i with
    | some f => match isAggB P f.type, sizeB P f.type with
      | some true, some n => match ltake cs f.offset n with | some l => .leaf (.agg l) | none => .stuck 61
      | some false, some _ => match lget cs f.offset with | some v => .leaf v | none => .stuck 62
      | _, _ => .stuck 63
    | none => .stuck 64
  | _, _ => .stuck 65

/-- Keys of maps: integers, strings, and aggregates of plain cells. -/
def keyEq (P : Program) (okt : TypeId → Bool) (t : TypeId) (x y : AV) : Option (Bool × Bool) :=
  match x, y with
  | .agg xs, .agg ys => aggEq P okt 8 t xs ys
  | x, y => if plainType P t x && plainType P t y then cellEq x y else none

def okKey (P : Program) (okt : TypeId → Bool) (t : TypeId) (x : AV) : Bool :=
  match keyEq P okt t x x with
  | some _ => true
  | none => false

def mapFind (P : Program) (okt : TypeId → Bool) (t : TypeId) (k : AV) {α : Type} (hit : Nat → AV → Tree α) (miss : Tree α) : Nat → List (AV × AV) → Tree α
  | _, [] => miss
  | i, (k', v) :: es => match keyEq P okt t k k' with
    | some (s, b) => test s b (hit i v) (mapFind P okt t k hit miss (i + 1) es)
    | none => .stuck 70

def lookupB (P : Program) (okt : TypeId → Bool) (H : Hp M) (t : TypeId) (x k : AV) (ok : Bool) : Tree AV :=
  match undB P t with
  | some (.map kt e) => match zeroB P e, okKey P okt kt k with
    | some z, true =>
      let miss : Tree AV := .leaf (if ok then .tup [z, .bool false false] else z)
      match x with
      | .nilm => miss
      | .map l => match lget H l with
        | some (.map es) => mapFind P okt kt k (fun _ v => .leaf (if ok then .tup [v, .bool false true] else v)) miss 0 es
        | _ => .stuck 71
      | _ => .stuck 72
    | _, _ => .stuck 73
  | _ => .stuck 74

def mapUpdateB (P : Program) (okt : TypeId → Bool) (H : Hp M) (t : TypeId) (x k v : AV) : Tree (Nat × AO M) :=
  match undB P t, x with
  | some (.map kt _), .map l => match okKey P okt kt k, lget H l with
    | true, some (.map es) => mapFind P okt kt k (fun _ _ => .stuck 77) (.leaf (l, .map (lapp es [(k, v)]))) 0 es
    | _, _ => .stuck 75
  | _, _ => .stuck 76

def minB : AV → AV → Tree AV
  | .int s k x, .int s' _ y => .leaf (.int (s || s') k (if y < x then y else x))
  | _, _ => .stuck 80

def maxB : AV → AV → Tree AV
  | .int s k x, .int s' _ y => .leaf (.int (s || s') k (if y > x then y else x))
  | _, _ => .stuck 81

def foldB (f : AV → AV → Tree AV) : AV → List AV → Tree AV
  | x, [] => .leaf x
  | x, y :: l => (f x y).bind fun z => foldB f z l

def lenOfB (P : Program) (H : Hp M) (t : TypeId) (x : AV) : Tree AV :=
  match undB P t, x with
  | some .string, .str s b => .leaf (.int s .i64 b.size)
  | some (.array n _), _ => .leaf (.int false .i64 n)
  | some (.slice _), .slice s _ _ _ n _ => .leaf (.int s .i64 n)
  | some (.slice _), .nils => .leaf (.int false .i64 0)
  | some (.slice _), .raw (.slice _ n _) => .leaf (.int false .i64 n)
  | some (.slice _), .own _ _ _ n => .leaf (.int false .i64 n)
  | some (.map _ _), .nilm => .leaf (.int false .i64 0)
  | some (.map _ _), .map l => match lget H l with
    | some (.map es) => .leaf (.int false .i64 (es.length : Nat))
    | _ => .stuck 82
  | _, _ => .stuck 83

/-- The cells of a slice that is written out. -/
def rowOf (H : Hp M) (z : Nat) : AV → Option (Nat × List AV)
  | .slice false l i y m _ => if Nat.beq y z then match lget H l with
      | some (.cells c _) => (ltake c (i * z) (m * z)).map fun r => (m, r)
      | some (.buf c _ _ _) => (ltake c (i * z) (m * z)).map fun r => (m, r)
      | _ => none
    else none
  | .own l _ y m => if Nat.beq y z then match lget H l with
      | some (.buf c _ _ _) => (ltake c 0 (m * z)).map fun r => (m, r)
      | _ => none
    else none
  | _ => none

/-- A row that may grow: under two new names. -/
def grownB (H : Hp M) (sets : List (Nat × AO M)) (z n : Nat) (c : List AV) (e : TypeId) : Tree (Ans M) :=
  .leaf (.own H.length (H.length + 1) z n, .ext sets [.buf c (H.length + 1) z e, .none])

def appendB (P : Program) (H : Hp M) (t : TypeId) (x y : AV) : Tree (Ans M) :=
  match undB P t with
  | some (.slice e) => match infoB P e, zeroB P e with
    | some i, some v => if Nat.beq (lenB v.cells) i.size && Nat.ble 1 i.size && Nat.ble i.bytes 65536 then
        match y with
        | .nils => match x with
          | .nils => .leaf (.nils, .quiet)
          | _ => .stuck 160
        | y => match rowOf H i.size y with
          | some (m, news) => if plainCells news then match x with
              | .nils => if Nat.beq m 0 then .leaf (.nils, .quiet) else if Nat.ble m 65536 then grownB H [] i.size m news e else .stuck 161
              | .slice false l a z n c => match rowOf H i.size (.slice false l a z n c) with
                | some (_, olds) => if Nat.ble (n + m) 65536 then
                    if Nat.blt c (n + m) then grownB H [] i.size (n + m) (lapp olds news) e
                    else if Nat.beq m 0 then .leaf (.slice false l a z n c, .quiet) else .stuck 162
                  else .stuck 163
                | none => .stuck 164
              | .own l lc z n => match lget H l with
                | some (.buf cs lc' z' e') => if Nat.ble (n + m) 65536 && Nat.beq lc lc' && Nat.beq z z' && Nat.beq z i.size && Nat.beq e e' && Nat.beq (lenB cs) (n * z) && plainCells cs then
                    grownB H [(l, .none)] i.size (n + m) (lapp cs news) e
                  else .stuck 165
                | _ => .stuck 166
              | _ => .stuck 167
            else .stuck 168
          | none => .stuck 169
      else .stuck 170
    | _, _ => .stuck 171
  | _ => .stuck 172

def builtinB (P : Program) (H : Hp M) (b : Builtin) (ts : List TypeId) (args : List AV) : Tree (Ans M) :=
  match b, ts, args with
  | .len, t :: _, x :: _ => (lenOfB P H t x).bind fun v => .leaf (v, .quiet)
  | .min, _, x :: l => (foldB minB x l).bind fun v => .leaf (v, .quiet)
  | .max, _, x :: l => (foldB maxB x l).bind fun v => .leaf (v, .quiet)
  | .append, [t, t'], [x, y] => if Nat.beq t t' then appendB P H t x y else .stuck 173
  | _, _, _ => .stuck 84

/-- A new row of noughts. -/
def makeB (P : Program) (H : Hp M) (t : TypeId) (x y : AV) : Tree (Ans M) :=
  match undB P t, x, y with
  | some (.slice e), .int s _ l, .int s' _ c => match infoB P e, zeroB P e with
    | some i, some z => if Nat.beq (lenB z.cells) i.size && Nat.ble 1 i.size && Nat.ble i.bytes 65536 && plainCells z.cells then
        test (s || s') (decide (0 ≤ l ∧ l ≤ c ∧ c ≤ 4294967296)) (match s', Nat.ble c.toNat 64 with
          | false, true => .leaf (.slice (s || s') H.length 0 i.size l.toNat c.toNat, .ext [] [.cells (repB c.toNat z.cells) e])
          | _, _ => match z with
            | .int _ k 0 => if Nat.beq i.size 1 then .leaf (.slice (s || s') H.length 0 1 l.toNat c.toNat, .ext [] [.ints k s' c.toNat (fun _ => false) (fun _ => 0) e]) else .stuck 175
            | _ => .stuck 174) (.stuck 176)
      else .stuck 177
    | _, _ => .stuck 178
  | _, _, _ => .stuck 179

def pickB (c a b : Option AV) : Tree AV :=
  match c with
  | some (.bool false true) => match a with | some v => .leaf v | none => .stuck 85
  | some (.bool false false) => match b with | some v => .leaf v | none => .stuck 86
  | some (.bool true c) => match a, b with
    | some (.int _ k x), some (.int _ k' y) => if k = k' then .leaf (.int true k (cond c x y)) else .stuck 87
    | some (.bool _ x), some (.bool _ y) => .leaf (.bool true (cond c x y))
    | some v, some u => .ite c (.leaf v) (.leaf u)
    | _, _ => .stuck 88
  | _ => .stuck 89

def optOperand (ev : Ev) : Option Operand → Option (Option AV)
  | none => some none
  | some x => match operand ev x with | some v => some (some v) | none => none

def quietV (t : Tree AV) : Tree (Ans M) := t.bind fun v => .leaf (v, .quiet)

def with1 (x : Option AV) (f : AV → Tree (Ans M)) : Tree (Ans M) := match x with | some v => f v | none => .stuck 90
def with2 (x y : Option AV) (f : AV → AV → Tree (Ans M)) : Tree (Ans M) := match x, y with | some v, some u => f v u | _, _ => .stuck 91

def callB (cfg : Cfg M) (call : FuncId → List AV → Hp M → Tree (Ans M)) (c : Call) (ev : Ev) (H : Hp M) : Tree (Ans M) :=
  match operands ev c.args.toList with
  | none => .stuck 92
  | some args => match c.callee with
    | .builtin b => builtinB cfg.P H b c.argTypes.toList args
    | .invoke _ _ => .stuck 93
    | .value f => match operand ev f with
      | some (.fn (.func g) first captured) => call g (lapp (lapp first args) captured) H
      | _ => .stuck 94

/-- What an operation answers, and what becomes of the heap. -/
def opB (cfg : Cfg M) (call : FuncId → List AV → Hp M → Tree (Ans M)) (o : Op) (ev : Ev) (H : Hp M) : Tree (Ans M) :=
  match o with
  | .move x => with1 (operand ev x) fun v => .leaf (v, .quiet)
  | .assign x => with1 (operand ev x) fun v => .leaf (v, .quiet)
  | .pick c a b => quietV (pickB (operand ev c) (operand ev a) (operand ev b))
  | .alloc t => with1 (zeroB cfg.P t) fun z => .leaf (.ptr H.length 0 0 0, .ext [] [.cells z.cells t])
  | .box t x => with1 (operand ev x) fun v => if plainCells v.cells then .leaf (.ptr H.length 0 0 0, .ext [] [.cells v.cells t]) else .stuck 114
  | .build t ps => match parts ev ps.toList with
    | some l => with1 (buildB cfg.P t l) fun v => .leaf (v, .quiet)
    | none => .stuck 95
  | .buildSlice t len ps => match undB cfg.P t, parts ev ps.toList with
    | some (.slice e), some l => match sizeB cfg.P e, zeroB cfg.P e with
      | some n, some z => if len * n > 16777216 then .stuck 96 else if Nat.beq len 0 || !Nat.beq (lenB z.cells) n || Nat.beq n 0 then .stuck 96 else
        match fillB (fun i => some (i * n, n)) l (repB len z.cells) with
        | some cs => .leaf (.slice false H.length 0 n len len, .ext [] [.cells cs e])
        | none => .stuck 97
      | _, _ => .stuck 98
    | _, _ => .stuck 99
  | .load t a => with1 (operand ev a) fun v => quietV (loadAt cfg.P H t v)
  | .store t a x => with2 (operand ev a) (operand ev x) fun p v => (storeAt cfg.P H t p v).bind fun s => .leaf (.tup [], .ext [s] [])
  | .nilCheck x => with1 (operand ev x) fun v => match v with
    | .ptr .. => .leaf (v, .quiet)
    | .ptrx .. => .leaf (v, .quiet)
    | .fn (.func _) _ _ => .leaf (v, .quiet)
    | _ => .stuck 100
  | .binOp op t x y _ => with2 (operand ev x) (operand ev y) fun a b => quietV (binB cfg.P cfg.okt op t a b)
  | .unOp op _ x => with1 (operand ev x) fun v => quietV (unB op v)
  | .convert s d x => with1 (operand ev x) fun v => quietV (convB cfg.P s d v)
  | .makeFunc f a b => match operands ev a.toList, operands ev b.toList with
    | some l, some m => .leaf (.fn f l m, .quiet)
    | _, _ => .stuck 101
  | .makeMap _ none => .leaf (.map H.length, .ext [] [.map []])
  | .makeSlice t x y => with2 (operand ev x) (operand ev y) fun a b => makeB cfg.P H t a b
  | .fieldAddr t x i => with1 (operand ev x) fun v => match undB cfg.P t, v with
    | some (.struct fs), .ptr l a z o => match lget fs.toList i with
      | some f => match sizeB cfg.P f.type with
        | some n => if Nat.beq n 0 then .stuck 102 else .leaf (.ptr l a z (o + f.offset), .quiet)
        | none => .stuck 103
      | none => .stuck 104
    | some (.struct fs), .ptrx l a m z o g => match lget fs.toList i with
      | some f => match sizeB cfg.P f.type with
        | some n => if Nat.beq n 0 then .stuck 102 else .leaf (.ptrx l a m z o (g + f.offset), .quiet)
        | none => .stuck 103
      | none => .stuck 104
    | _, _ => .stuck 105
  | .field t x i => with1 (operand ev x) fun v => quietV (fieldB cfg.P t v i)
  | .indexAddr t x i => with2 (operand ev x) (operand ev i) fun a b => quietV (indexAddrB cfg t a b)
  | .index t x i => with2 (operand ev x) (operand ev i) fun a b => quietV (indexB cfg t a b)
  | .lookup t x k ok => with2 (operand ev x) (operand ev k) fun a b => quietV (lookupB cfg.P cfg.okt H t a b ok)
  | .mapUpdate t m k x => match operand ev m, operand ev k, operand ev x with
    | some a, some b, some v => (mapUpdateB cfg.P cfg.okt H t a b v).bind fun s => .leaf (.tup [], .ext [s] [])
    | _, _, _ => .stuck 106
  | .insert t m k x => match operand ev m, operand ev k, operand ev x with
    | some a, some b, some v => (mapUpdateB cfg.P cfg.okt H t a b v).bind fun s => .leaf (.tup [], .ext [s] [])
    | _, _, _ => .stuck 107
  | .slice t x lo hi mx => match optOperand ev lo, optOperand ev hi, optOperand ev mx with
    | some l, some h, some m => with1 (operand ev x) fun v => quietV (sliceB cfg.P t v l h m)
    | _, _, _ => .stuck 108
  | .extract t i => with1 (operand ev t) fun v => match v with
    | .tup l => match lget l i with | some u => .leaf (u, .quiet) | none => .stuck 109
    | _ => .stuck 110
  | .sliceToArrayPointer t x => with1 (operand ev x) fun v => match undB cfg.P t, v with
    | some (.array n _), .slice s l i z m _ => (test s (decide (n ≤ m)) (.leaf (.ptr l i z 0, .quiet)) (.stuck 112) : Tree (Ans M))
    | _, _ => .stuck 113
  | .call c => callB cfg call c ev H
  | _ => .stuck 111

def AO.sc (V : Nat → Bool) (locs : M → List Nat) : AO M → Bool
  | .cells c _ => scL V c
  | .buf c lc _ _ => scL V c && V lc
  | .at1 _ v _ => v.sc V
  | .map es => scM V es
  | .rows .. => false
  | .res m => allB V (locs m)
  | _ => true
where
  scM (V : Nat → Bool) : List (AV × AV) → Bool
    | [] => true
    | (a, b) :: l => a.sc V && b.sc V && scM V l
  allB (V : Nat → Bool) : List Nat → Bool
    | [] => true
    | a :: l => V a && allB V l

def scNews (V : Nat → Bool) (locs : M → List Nat) : List (AO M) → Bool
  | [] => true
  | o :: l => o.sc V locs && scNews V locs l

def scSets (V : Nat → Bool) (locs : M → List Nat) : List (Nat × AO M) → Bool
  | [] => true
  | (i, o) :: l => V i && o.vis && o.sc V locs && scSets V locs l

def Eff.sc (V : Nat → Bool) (locs : M → List Nat) : Eff M → Bool
  | .ext s n => scSets V locs s && scNews V locs n

/-! The same, quicker where a value is plain. -/

def scq (V : Nat → Bool) (v : AV) : Bool :=
  match v with
  | .int _ _ _ => true
  | .bool _ _ => true
  | .ptr l _ _ _ => V l
  | .nilp => true
  | .nils => true
  | v => v.sc V

def scLq (V : Nat → Bool) : List AV → Bool
  | [] => true
  | a :: l => match scq V a with
    | true => scLq V l
    | false => false

def AO.scq (V : Nat → Bool) (locs : M → List Nat) (o : AO M) : Bool :=
  match o with
  | .cells c _ => scLq V c
  | .buf c lc _ _ => scLq V c && V lc
  | o => o.sc V locs

def scSetsq (V : Nat → Bool) (locs : M → List Nat) : List (Nat × AO M) → Bool
  | [] => true
  | (i, o) :: l => V i && o.vis && o.scq V locs && scSetsq V locs l

def scNewsq (V : Nat → Bool) (locs : M → List Nat) : List (AO M) → Bool
  | [] => true
  | o :: l => o.scq V locs && scNewsq V locs l

def Eff.scq (V : Nat → Bool) (locs : M → List Nat) (e : Eff M) : Bool :=
  match e with
  | .ext [] [] => true
  | .ext s n => scSetsq V locs s && scNewsq V locs n

def scq2 (V : Nat → Bool) (v : AV) : Bool :=
  match v with
  | .agg l => scLq V l
  | .tup l => scLq V l
  | v => scq V v

theorem scq_eq (V : Nat → Bool) (v : AV) : scq V v = v.sc V := by
  unfold scq; split <;> first | rfl | simp only [AV.sc]

theorem scLq_eq (V : Nat → Bool) : ∀ l : List AV, scLq V l = scL V l
  | [] => rfl
  | a :: l => by
    simp only [scLq, scL, scq_eq, scLq_eq V l]
    cases a.sc V <;> rfl

theorem scq2_eq (V : Nat → Bool) (v : AV) : scq2 V v = v.sc V := by
  unfold scq2; split
  · simp only [AV.sc, scLq_eq]
  · simp only [AV.sc, scLq_eq]
  · exact scq_eq V _

theorem oscq_eq (V : Nat → Bool) (locs : M → List Nat) (o : AO M) : o.scq V locs = o.sc V locs := by
  unfold AO.scq; split <;> simp only [AO.sc, scLq_eq]

theorem scSetsq_eq (V : Nat → Bool) (locs : M → List Nat) : ∀ l : List (Nat × AO M), scSetsq V locs l = scSets V locs l
  | [] => rfl
  | (i, o) :: l => by simp only [scSetsq, scSets, oscq_eq, scSetsq_eq V locs l]

theorem scNewsq_eq (V : Nat → Bool) (locs : M → List Nat) : ∀ l : List (AO M), scNewsq V locs l = scNews V locs l
  | [] => rfl
  | o :: l => by simp only [scNewsq, scNews, oscq_eq, scNewsq_eq V locs l]

theorem escq_eq (V : Nat → Bool) (locs : M → List Nat) (e : Eff M) : e.scq V locs = e.sc V locs := by
  unfold Eff.scq; split <;> simp only [Eff.sc, scSets, scNews, scSetsq_eq, scNewsq_eq, Bool.and_self]

def putFr (fr : Fr) : Option Tmp → AV → Fr
  | none, _ => fr
  | some d, v => setFr fr d v

/-- Which way a guard goes: the operation runs, it is passed over, or the test is symbolic. -/
inductive Way where
  | run
  | pass
  | part (b : Bool)
  | lost

def wayOf (want : Bool) : Option AV → Way
  | some (.bool false b) => match b, want with
    | true, true => .run
    | false, false => .run
    | _, _ => .pass
  | some (.bool true b) => .part b
  | some (.tup []) => .pass
  | _ => .lost

def dstOf (ops : List Oper) (j : Nat) : Option Tmp := match lget ops j with | some o => o.dst | none => none

section
variable (cfg : Cfg M) (locs : M → List Nat) (call : FuncId → List AV → Hp M → Tree (Ans M)) (ops : List Oper)

/-- One operation, run. -/
def runOp {γ : Type} (o : Oper) (fr : Fr) (X : Hs M) (k : Fr → Hs M → Tree γ) : Tree γ :=
  (opB cfg call o.op (evFr fr) X.h).bind fun (v, e) =>
    let X' := X.app e
    if scq2 (vis X'.h) v && e.scq (vis X'.h) locs then k (putFr fr o.dst v) X' else .stuck 120

def seqOps : List Oper → Fr → Hs M → Tree (Fr × Hs M)
  | [], fr, H => .leaf (fr, H)
  | o :: rest, fr, H =>
    match o.guard with
    | none => runOp cfg locs call o fr H fun fr' H' => seqOps rest fr' H'
    | some (j, want) => match dstOf ops j with
      | none => .stuck 121
      | some d => match wayOf want (evFr fr d) with
        | .run => runOp cfg locs call o fr H fun fr' H' => seqOps rest fr' H'
        | .pass => seqOps rest (putFr fr o.dst (.tup [])) H
        | .lost => .stuck 122
        | .part b =>
          .ite b (match want with
              | true => runOp cfg locs call o (setFr fr d (.bool false true)) H fun fr' H' => seqOps rest fr' H'
              | false => seqOps rest (putFr (setFr fr d (.bool false true)) o.dst (.tup [])) H)
            (match want with
              | false => runOp cfg locs call o (setFr fr d (.bool false false)) H fun fr' H' => seqOps rest fr' H'
              | true => seqOps rest (putFr (setFr fr d (.bool false false)) o.dst (.tup [])) H)

/-! A region that draws its order. -/

def isPure : Op → Bool
  | .move _ | .assign _ | .pick .. | .build .. | .nilCheck _ | .binOp .. | .unOp .. | .convert .. | .sliceToArrayPointer .. | .makeFunc .. | .slice ..
  | .fieldAddr .. | .field .. | .indexAddr .. | .index .. | .extract .. => true
  | _ => false

/-- The operations that come ahead, as bits. -/
def depsOf (acc : List Nat) : List Edge → Nat
  | [] => 0
  | e :: l => if Region.binds .any e then Nat.lor (Nat.lor (2 ^ e.on) (match lget acc e.on with | some m => m | none => 0)) (depsOf acc l) else depsOf acc l

def depsAll : List Oper → List Nat → List Nat
  | [], acc => acc
  | o :: l, acc => depsAll l (lapp acc [depsOf acc o.after.toList])

def hasDep (D : List Nat) (j i : Nat) : Bool := match lget D j with | some m => Nat.testBit m i | none => false

/-- Who writes a slot: the first. -/
def writerOf : List Oper → Nat → Tmp → Option Nat
  | [], _, _ => none
  | o :: l, i, t => match o.dst with
    | some d => if Nat.beq d t then some i else writerOf l (i + 1) t
    | none => writerOf l (i + 1) t

/-- Each slot is written by one operation at most. -/
def distinct : List Oper → Bool
  | [] => true
  | o :: l => (match o.dst with | some d => (writerOf l 0 d).isNone | none => true) && distinct l

/-- Operation i may be taken ahead of whatever does not hang on it. -/
def freeOf (D : List Nat) (i : Nat) (oi : Oper) : List Oper → Nat → Bool
  | [], _ => true
  | oj :: l, j => (Nat.beq i j || hasDep D i j || oj.after.toList.any (fun e => Region.binds .any e && Nat.beq e.on i) || oi.apart ops.toArray oj) && freeOf D i oi l (j + 1)

def freeAll (D : List Nat) : List Oper → Nat → Bool
  | [], _ => true
  | o :: l, i => (match o.op with | .select .. => false | _ => true) && freeOf ops D i o ops 0 && freeAll D l (i + 1)

abbrev Vals := List (Option AV)

def valOf (vals : Vals) (i : Nat) : Option AV := match lget vals i with | some (some v) => some v | _ => none

/-- What operation j may know of the slots. -/
def evAt (D : List Nat) (fr : Fr) (vals : Vals) (j : Nat) : Ev := fun t =>
  match writerOf ops 0 t with
  | none => evFr fr t
  | some i => if hasDep D j i then valOf vals i else if Nat.beq i j || hasDep D i j then evFr fr t else none

def readyB (vals : Vals) : List Edge → Bool
  | [] => true
  | e :: l => (!Region.binds .any e || (valOf vals e.on).isSome) && readyB vals l

/-- An operation that does nothing to the world, wherever it stands. -/
def lightB (vals : Vals) (o : Oper) : Bool :=
  isPure o.op || match o.guard with
    | some (g, want) => match wayOf want (valOf vals g) with | .pass => true | _ => false
    | none => false

/-- Nothing light is ready and left. -/
def noLight (vals : Vals) : List Oper → Nat → Bool
  | [], _ => true
  | o :: l, i => ((valOf vals i).isSome || !readyB vals o.after.toList || !lightB vals o) && noLight vals l (i + 1)

/-- A new variable: it may come ahead of its turn. -/
def isAlloc (o : Oper) : Bool := match o.op, o.guard with
  | .alloc t, none => (zeroB cfg.P t).isSome
  | _, _ => false

/-- All that is left, but operation k and new variables, hangs on k. -/
def allHang (D : List Nat) (vals : Vals) (k : Nat) : List Oper → Nat → Bool
  | [], _ => true
  | o :: l, i => ((valOf vals i).isSome || Nat.beq i k || hasDep D i k || isAlloc cfg o) && allHang D vals k l (i + 1)

def endFr (fr : Fr) : List Oper → Vals → Fr
  | o :: l, some v :: vs => endFr (putFr fr o.dst v) l vs
  | _, _ => fr

def allSome : Vals → Bool
  | [] => true
  | v :: l => v.isSome && allSome l

/-- What comes first: what reads alone, then others, then new variables. -/
def rank : Op → Nat
  | .load .. | .lookup .. => 0
  | .alloc _ => 2
  | _ => 1

/-- In which order the evaluator goes: what is pure as soon as it can, then by rank. -/
def pickNext (vals : Vals) : List Oper → Nat → Option (Nat × Nat) → Option Nat
  | [], _, best => match best with | some (_, i) => some i | none => none
  | o :: l, i, best =>
    if (valOf vals i).isSome then pickNext vals l (i + 1) best
    else if readyB vals o.after.toList then
      if lightB vals o then some i else pickNext vals l (i + 1) (match best with
        | some (r, b) => if Nat.blt (rank o.op) r then some (rank o.op, i) else some (r, b)
        | none => some (rank o.op, i))
    else pickNext vals l (i + 1) best

def bindA {α β : Type} : Tree α → Bool → (Bool → α → Tree β) → Tree β
  | .leaf a, b, f => f b a
  | .ite c t e, b, f => .ite c (bindA t b f) (bindA e b f)
  | .any g, _, f => .any fun n => bindA (g n) true f
  | .stuck n, _, _ => .stuck n

def noneVals : List Oper → Vals
  | [] => []
  | _ :: l => none :: noneVals l

variable (D : List Nat) (fr : Fr)

/-- A light operation. -/
def lightStep {γ : Type} (o : Oper) (j : Nat) (vals : Vals) (base : Hp M) (k : Vals → Tree γ) : Tree γ :=
  bindA (opB cfg call o.op (evAt ops D fr vals j) []) false fun under (v, e) => match e with
    | .ext [] [] => if scq2 (vis base) v && !under then k (lset vals j (some v)) else .stuck 130
    | _ => .stuck 131

def lenO : List Oper → Nat
  | [] => 0
  | _ :: l => lenO l + 1

/-- What of the heap an operation read that changed nothing. -/
inductive Rd where
  | nothing
  | one (l : Nat)
  | all

abbrev Win := List (Nat × Rd)

def seenAt (H : Hp M) (l : Nat) : Rd := match lget H l with | some _ => .one l | none => .all

def rdOf (ev : Ev) (H : Hp M) : Op → Rd
  | .load _ a => match operand ev a with
    | some (.ptr l _ _ _) => seenAt H l
    | some (.ptrx l _ _ _ _ _) => seenAt H l
    | _ => .all
  | .lookup _ x _ _ => match operand ev x with
    | some (.map l) => seenAt H l
    | _ => .all
  | _ => .all

def memS (l : Nat) : List (Nat × AO M) → Bool
  | [] => false
  | (k, _) :: r => Nat.beq k l || memS l r

/-- It reads the same behind what is set. -/
def lasts (sets : List (Nat × AO M)) : Rd → Bool
  | .nothing => true
  | .one l => !memS l sets
  | .all => match sets with | [] => true | _ => false

def Eff.sets : Eff M → List (Nat × AO M)
  | .ext s _ => s

/-- Each that was done hangs ahead of operation k, or lasts. -/
def okWin (D : List Nat) (k : Nat) (sets : List (Nat × AO M)) : Win → Bool
  | [] => true
  | (i, r) :: l => (hasDep D k i || lasts sets r) && okWin D k sets l

def keepWin (D : List Nat) (k : Nat) : Win → Win
  | [] => []
  | (i, r) :: l => if hasDep D k i then keepWin D k l else (i, r) :: keepWin D k l

/-- A call that is handed no place. -/
def closedOp (ev : Ev) : Op → Bool
  | .call c => match c.callee with
    | .value f => match operand ev f, operands ev c.args.toList with
      | some g, some l => g.sc (fun _ => false) && scL (fun _ => false) l
      | _, _ => false
    | _ => false
  | _ => false

/-- An operation that looks at the world, or changes it. -/
def loudAt {γ : Type} (o : Oper) (j : Nat) (vals : Vals) (base : Hs M) (win : Win) (k : Vals → Hs M → Win → Tree γ) : Tree γ :=
  bindA (opB cfg call o.op (evAt ops D fr vals j) base.h) false fun under (v, e) => match e with
    | .ext [] [] => if scq2 (vis base.h) v && !under then k (lset vals j (some v)) base ((j, rdOf (evAt ops D fr vals j) base.h o.op) :: win) else .stuck 132
    | e => if okWin D j e.sets win && allHang cfg D vals j ops 0 && scq2 (vis (base.app e).h) v && e.scq (vis (base.app e).h) locs then k (lset vals j (some v)) (base.app e) (keepWin D j win) else .stuck (1330000 + 100 * lenO ops + j)

def loudStep {γ : Type} (o : Oper) (j : Nat) (vals : Vals) (base : Hs M) (win : Win) (k : Vals → Hs M → Win → Tree γ) : Tree γ :=
  if noLight vals ops 0 then
    if closedOp (evAt ops D fr vals j) o.op then
      bindA (opB cfg call o.op (evAt ops D fr vals j) []) false fun under (v, e) => match e with
        | .ext [] [] => if scq2 (fun _ => false) v && !under then k (lset vals j (some v)) base ((j, .nothing) :: win) else .stuck 132
        | _ => loudAt cfg locs call ops D fr o j vals base win k
    else loudAt cfg locs call ops D fr o j vals base win k
  else .stuck 134

def drawOps : Nat → Vals → Hs M → Win → Tree (Fr × Hs M)
  | 0, vals, base, _ => if allSome vals then .leaf (endFr fr ops vals, base) else .stuck 135
  | n + 1, vals, base, win =>
    match pickNext vals ops 0 none with
    | none => .stuck 136
    | some j => match lget ops j with
      | none => .stuck 137
      | some o => if (valOf vals j).isNone && readyB vals o.after.toList then
          let go := fun (vals : Vals) =>
            if isPure o.op then lightStep cfg call ops D fr o j vals base.h fun vals' => drawOps n vals' base win
            else loudStep cfg locs call ops D fr o j vals base win fun vals' base' win' => drawOps n vals' base' win'
          let pass := fun (vals : Vals) => drawOps n (lset vals j (some (.tup []))) base win
          match o.guard with
          | none => go vals
          | some (g, want) => match hasDep D j g && (dstOf ops g).isSome, wayOf want (valOf vals g) with
            | true, .run => go vals
            | true, .pass => pass vals
            | true, .part b =>
              .ite b (match want with | true => go (lset vals g (some (.bool false true))) | false => pass (lset vals g (some (.bool false true))))
                (match want with | false => go (lset vals g (some (.bool false false))) | true => pass (lset vals g (some (.bool false false))))
            | _, _ => .stuck 138
        else .stuck 139

def dstsIn (n : Nat) : List Oper → Bool
  | [] => true
  | o :: l => (match o.dst with | some d => Nat.blt d n | none => true) && dstsIn n l

def drawAll (X : Hs M) : Tree (Fr × Hs M) :=
  let D := depsAll ops []
  if distinct ops && freeAll ops D ops 0 && dstsIn fr.n ops then drawOps cfg locs call ops D fr (lenO ops) (noneVals ops) X [] else .stuck 145
end

/-! Code, and calls. -/

def loopKey : Code → Nat
  | .region id _ _ => id
  | .seq a _ => loopKey a
  | .block _ b => loopKey b
  | .scope b => loopKey b
  | .loop b => loopKey b
  | _ => 0

def resultVars (P : Program) (H : Hp M) (fr : Fr) : List ResultVar → Tree (List AV)
  | [] => .leaf []
  | .tmp t :: l => match evFr fr t with
    | some v => (resultVars P H fr l).bind fun vs => .leaf (v :: vs)
    | none => .stuck 140
  | .cell a t :: l => match evFr fr a with
    | some p => (loadAt P H t p).bind fun v => (resultVars P H fr l).bind fun vs => .leaf (v :: vs)
    | none => .stuck 141

def funcB (P : Program) (f : FuncId) : Option Func := lget P.funcs.toList f

def enterL : List AV → Nat → List (Nat × AV)
  | [], _ => []
  | a :: l, n => (n, a) :: enterL l (n + 1)

def enterFr (l : List AV) (n : Nat) : Fr := ⟨Nat.max (lenB l) n, enterL l 0⟩

/-- What became of a heap, without what nobody can name. -/
def effC (locs : M → List Nat) (H : Hp M) (X : Hs M) (v : AV) : Eff M :=
  if scq2 (vis H) v && scSetsq (vis H) locs (setsOf (lenH H) X.h X.g) then .ext (setsOf (lenH H) X.h X.g) [] else effOf H X

def callWith (cfg : Cfg M) (locs : M → List Nat) (run : FuncId → Code → Fr → Hs M → Tree (Ex × Fr × Hs M)) (f : FuncId) (args : List AV) (H : Hp M) : Tree (Ans M) :=
  match cfg.K f args H with
  | some t => t
  | none => match funcB cfg.P f with
    | none => .stuck 142
    | some fn => match fn.body with
      | none => .stuck 143
      | some c => (run f c (enterFr args fn.ntmps) ⟨H, []⟩).bind fun (e, fr, X) => match e with
        | .exit _ => .stuck 144
        | _ => (resultVars cfg.P X.h fr fn.results.toList).bind fun vs => match vs with
          | [v] => .leaf (v, effC locs H X v)
          | vs => .leaf (.tup vs, effC locs H X (.tup vs))

/-- Rounds of a loop. -/
def loopB (body : Fr → Hs M → Tree (Ex × Fr × Hs M)) : Nat → Fr → Hs M → Tree (Ex × Fr × Hs M)
  | 0, _, _ => .stuck 153
  | k + 1, fr, X => (body fr X).bind fun (e, fr', X') => match e with
    | .normal => loopB body k fr' X'
    | e => .leaf (e, fr', X')

def code (cfg : Cfg M) (locs : M → List Nat) : Nat → FuncId → Code → Fr → Hs M → Tree (Ex × Fr × Hs M)
  | 0, _, _, _, _ => .stuck 150
  | n + 1, fid, c, fr, X =>
    match c with
    | .skip => .leaf (.normal, fr, X)
    | .label _ => .leaf (.normal, fr, X)
    | .region _ ops false => (seqOps cfg locs (callWith cfg locs (code cfg locs n)) ops.toList ops.toList fr X).bind fun (fr', X') => .leaf (.normal, fr', X')
    | .region _ ops true => (drawAll cfg locs (callWith cfg locs (code cfg locs n)) ops.toList fr X).bind fun (fr', X') => .leaf (.normal, fr', X')
    | .seq a b => (code cfg locs n fid a fr X).bind fun (e, fr', X') => match e with
      | .normal => code cfg locs n fid b fr' X'
      | e => .leaf (e, fr', X')
    | .cond x a b => match operand (evFr fr) x with
      | some (.bool s v) => test s v (code cfg locs n fid a fr X) (code cfg locs n fid b fr X)
      | _ => .stuck 151
    | .block id b => (code cfg locs n fid b fr X).bind fun (e, fr', X') => match e with
      | .exit id' => .leaf (if Nat.beq id' id then .normal else .exit id', fr', X')
      | e => .leaf (e, fr', X')
    | .loop b => match cfg.loop fid (loopKey b) fr X.h with
      | some t => t.bind fun (e, fr', ef) => .leaf (e, fr', X.app ef)
      | none => loopB (code cfg locs n fid b) (cfg.rounds fid (loopKey b) n) fr X
    | .exit id => .leaf (.exit id, fr, X)
    | .ret => .leaf (.ret, fr, X)
    | _ => .stuck 152

def callB' (cfg : Cfg M) (locs : M → List Nat) (n : Nat) (f : FuncId) (args : List AV) (H : Hp M) : Tree (Ans M) := callWith cfg locs (code cfg locs n) f args H

end
end Go.SX
