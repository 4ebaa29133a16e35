/- SX: a part of the proof of this claim; it stands under the statement's own conditions alone. -/
import Derived.Test.YtgbhiamfjikonaaGreatDoorSxHsm22
import Derived.Test.YtgbhiamfjikonaaGreatDoorSxTrim
set_option maxRecDepth 100000
namespace Go.Proofs.YtgbhiamfjikonaaGreatDoor
open Go Go.SX Go.Proofs

/-! A platform as a template: p, its memory, its harts, reservations, the firmware, and the harts' cores; all else by name. -/

def xs (b : Nat) : Nat → List TV
  | 0 => []
  | n + 1 => .int .u64 b :: xs (b + 1) n
def coreT (b hb tl : Nat) : List TV := xs b 32 ++ (.int .u64 (b + 32) :: .int .i64 (b + 33) :: (xs (b + 34) 12 ++ [.bool hb, .ptr tl]))
def ptrsT (a : Nat) : Nat → List TV
  | 0 => []
  | n + 1 => .ptr a :: ptrsT (a + 1) n
def coresT (n : Nat) : Nat → List TO
  | 0 => []
  | k + 1 => .cells (coreT (100 * (n - k)) (n - k) (11 + n + (n - (k + 1)))) 86 :: coresT n k
def nonesT : Nat → List TO
  | 0 => []
  | n + 1 => .none :: nonesT n
def platT (n : Nat) : List TO :=
  .cells [.ptr 1, .own 2 3 1 n, .ptr 4, .ptr 5] 68 :: .none :: .buf (ptrsT 6 n) 3 1 78 :: .none :: .none ::
  .cells [.ptr 1, .ptr (6 + n), .ptr (7 + n), .own (8 + n) (9 + n) 1 n, .nils, .nils, .ptr (10 + n), .bool 0, .int .u64 10, .int .u64 11] 105 ::
  (coresT n n ++ (.none :: .cells (xs 1000 9) 117 :: .none :: .none :: .none :: nonesT n))

/-- Whether a hart's time has come. -/
def dueB (now at_ : Int) : Bool := !(at_ == 18446744073709551615) && decide (at_ ≤ now)
def ipOff (x : Int) : Int := IntKind.u64.wrap (BitVec.ofInt IntKind.u64.bits x &&& ~~~ BitVec.ofInt IntKind.u64.bits 32).toNat
def ipOn (x : Int) : Int := IntKind.u64.wrap (BitVec.ofInt IntKind.u64.bits (ipOff x) ||| BitVec.ofInt IntKind.u64.bits 32).toNat
/-- Its bits then. -/
def ipDue (now at_ x : Int) : Int := cond (dueB now at_) (ipOn x) (ipOff x)

/-- The numbers where the first k harts' bits are set. -/
def dueE (E : Env) : Nat → Env
  | 0 => E
  | k + 1 => updI (dueE E k) (142 + 100 * k) (ipDue (E.I 1000) (E.I (1001 + k)) ((dueE E k).I (142 + 100 * k)))
def dueFr (n k : Nat) : Fr := ⟨44, [(0, .ptr 0 0 0 0), (7, .own 2 3 1 n), (8, .int false .i64 n), (9, .int false .i64 k)]⟩
def loopOf (k : Nat) : Code → Option Code
  | .seq a b => match loopOf k a with | some c => some c | none => loopOf k b
  | .cond _ a b => match loopOf k a with | some c => some c | none => loopOf k b
  | .block _ b => loopOf k b
  | .scope b => loopOf k b
  | .loop b => match Nat.beq (loopKey b) k with | true => some b | false => loopOf k b
  | _ => none
noncomputable def dueBody : Code := match Tryz.f33.body with | some c => (loopOf 1 c).getD .skip | none => .skip

def dueT (n k : Nat) (E : Env) : Tree (Ex × Fr × Hs Empty) :=
  .ite (E.I (1001 + k) == 18446744073709551615) (.leaf (.normal, dueFr n (k + 1), ⟨instH (updI E (142 + 100 * k) (ipOff (E.I (142 + 100 * k)))) (platT n), [6 + k]⟩))
    (.ite (decide (E.I (1001 + k) ≤ E.I 1000)) (.leaf (.normal, dueFr n (k + 1), ⟨instH (updI E (142 + 100 * k) (ipOn (E.I (142 + 100 * k)))) (platT n), [6 + k]⟩))
      (.leaf (.normal, dueFr n (k + 1), ⟨instH (updI E (142 + 100 * k) (ipOff (E.I (142 + 100 * k)))) (platT n), [6 + k]⟩)))
noncomputable def dueRun (n k : Nat) (E : Env) : Tree (Ex × Fr × Hs Empty) := trimT [0, 7, 8, 9] (code cfgA SN.locs 100 33 dueBody (dueFr n k) ⟨instH E (platT n), []⟩)
end Go.Proofs.YtgbhiamfjikonaaGreatDoor
