/- SX: a part of the proof of this claim; it stands under the statement's own conditions alone. -/
import Derived.Test.YtgbhiamfjikonaaGreatDoorSxLaw22
set_option maxRecDepth 100000
set_option linter.unusedVariables false
namespace Go.Proofs.YtgbhiamfjikonaaGreatDoor
open Go Go.SX Go.Proofs
theorem tick_far (E : Env) (k h : Nat) (hh : 1001 ≤ h) : (tickE E k).I h = E.I h := by
  unfold tickE
  rw [due_ge _ h (by omega) 8 (Nat.le_refl 8)]
  have : Nat.beq h 1000 = false := by
    cases hb : Nat.beq h 1000 with
    | false => rfl
    | true => have := Nat.eq_of_beq_eq_true hb; omega
  simp only [updI, this, cond_false]
theorem tick_now (E : Env) (k : Nat) : (tickE E k).I 1000 = nowE E k := by
  unfold tickE
  rw [due_ge _ 1000 (by omega) 8 (Nat.le_refl 8)]
  rfl
theorem tick_ip0 (E : Env) (k : Nat) : (tickE E k).I 142 = ipDue (nowE E k) (E.I 1001) (E.I 142) := by kernel_rfl
theorem tick_ip1 (E : Env) (k : Nat) : (tickE E k).I 242 = ipDue (nowE E k) (E.I 1002) (E.I 242) := by kernel_rfl
theorem tick_ip2 (E : Env) (k : Nat) : (tickE E k).I 342 = ipDue (nowE E k) (E.I 1003) (E.I 342) := by kernel_rfl
theorem tick_ip3 (E : Env) (k : Nat) : (tickE E k).I 442 = ipDue (nowE E k) (E.I 1004) (E.I 442) := by kernel_rfl
theorem tick_ip4 (E : Env) (k : Nat) : (tickE E k).I 542 = ipDue (nowE E k) (E.I 1005) (E.I 542) := by kernel_rfl
theorem tick_ip5 (E : Env) (k : Nat) : (tickE E k).I 642 = ipDue (nowE E k) (E.I 1006) (E.I 642) := by kernel_rfl
theorem tick_ip6 (E : Env) (k : Nat) : (tickE E k).I 742 = ipDue (nowE E k) (E.I 1007) (E.I 742) := by kernel_rfl
theorem tick_ip7 (E : Env) (k : Nat) : (tickE E k).I 842 = ipDue (nowE E k) (E.I 1008) (E.I 842) := by kernel_rfl
theorem off0 : ipOff 0 = 0 := by kernel_rfl
theorem off32 : ipOff 32 = 0 := by kernel_rfl
theorem on0 : ipOn 0 = 32 := by kernel_rfl
theorem on32 : ipOn 32 = 32 := by kernel_rfl
theorem ipDue_eq (now a x : Int) (h : x = 0 ∨ x = 32) : ipDue now a x = cond (dueB now a) 32 0 := by
  unfold ipDue
  rcases h with rfl | rfl
  · rw [off0, on0]
  · rw [off32, on32]
theorem fits_due (now a b x : Int) (hb : b = a) (h : x = 0 ∨ x = 32) : fits now b (ipDue now a x) = true := by
  rw [ipDue_eq now a x h, hb]
  unfold fits dueB never
  rw [Bool.and_comm (decide (a ≤ now))]
  show (cond (!(a == 18446744073709551615) && decide (a ≤ now)) (32 : Int) 0 == cond (!(a == 18446744073709551615) && decide (a ≤ now)) 32 0) = true
  exact beq_self_eq_true _
theorem bit_due (now a x : Int) (h : x = 0 ∨ x = 32) : ipDue now a x = 0 ∨ ipDue now a x = 32 := by
  rw [ipDue_eq now a x h]
  cases dueB now a
  · exact .inl rfl
  · exact .inr rfl
/-- What stays so: times that are set, and bits. -/
structure LInv (I : Nat → Int) : Prop where
  at_ : ∀ j, j < 8 → I (2000 + j) = I (1001 + j)
  ip : ∀ j, j < 8 → I (142 + 100 * j) = 0 ∨ I (142 + 100 * j) = 32
theorem tick_ip (E : Env) (k j : Nat) (hj : j < 8) : (tickE E k).I (142 + 100 * j) = ipDue (nowE E k) (E.I (1001 + j)) (E.I (142 + 100 * j)) := by
  have hc : j = 0 ∨ j = 1 ∨ j = 2 ∨ j = 3 ∨ j = 4 ∨ j = 5 ∨ j = 6 ∨ j = 7 := by omega
  rcases hc with e | e | e | e | e | e | e | e <;> rw [e]
  · exact tick_ip0 E k
  · exact tick_ip1 E k
  · exact tick_ip2 E k
  · exact tick_ip3 E k
  · exact tick_ip4 E k
  · exact tick_ip5 E k
  · exact tick_ip6 E k
  · exact tick_ip7 E k
theorem tick_inv (E : Env) (k : Nat) (h : LInv E.I) : LInv (tickE E k).I where
  at_ := fun j hj => by rw [tick_far E k _ (by omega), tick_far E k _ (by omega)]; exact h.at_ j hj
  ip := fun j hj => by rw [tick_ip E k j hj]; exact bit_due _ _ _ (h.ip j hj)
theorem pre_of (E : Env) (k : Nat) (h : LInv E.I) : preE E k = true := by
  have key : ∀ j, j < 8 → fits (nowE E k) ((tickE E k).I (2000 + j)) ((tickE E k).I (142 + 100 * j)) = true := by
    intro j hj
    rw [tick_far E k _ (by omega), tick_ip E k j hj]
    exact fits_due _ _ _ _ (h.at_ j hj) (h.ip j hj)
  have e : preE E k = (fits (nowE E k) ((tickE E k).I 2000) ((tickE E k).I 142) && (fits (nowE E k) ((tickE E k).I 2001) ((tickE E k).I 242) && (fits (nowE E k) ((tickE E k).I 2002) ((tickE E k).I 342) && (fits (nowE E k) ((tickE E k).I 2003) ((tickE E k).I 442) &&
    (fits (nowE E k) ((tickE E k).I 2004) ((tickE E k).I 542) && (fits (nowE E k) ((tickE E k).I 2005) ((tickE E k).I 642) && (fits (nowE E k) ((tickE E k).I 2006) ((tickE E k).I 742) && fits (nowE E k) ((tickE E k).I 2007) ((tickE E k).I 842)))))))) := by kernel_rfl
  rw [e, key 0 (by omega), key 1 (by omega), key 2 (by omega), key 3 (by omega), key 4 (by omega), key 5 (by omega), key 6 (by omega), key 7 (by omega)]
  rfl
def chain (I : Nat → Int) (b : Nat) : Nat → Bool
  | 0 => true
  | n + 1 => (I b == I b) && chain I (b + 1) n
theorem chain_true (I : Nat → Int) : ∀ n b, chain I b n = true
  | 0, _ => rfl
  | n + 1, b => by simp [chain, chain_true I n]
theorem eq_cells (E : Env) (k : Nat) : instL (updI (tickE E k) 442 (E.I 442)) (hartT 400 4) = instL E (hartT 400 4) := by kernel_rfl
theorem eq_self (E : Env) : eqC (instL E (hartT 400 4)) (instL E (hartT 400 4)) =
    (chain E.I 400 32 && ((E.I 432 == E.I 432) && ((E.I 433 == E.I 433) && (chain E.I 434 12 && ((E.B 4 == E.B 4) && true))))) := by kernel_rfl
theorem eq_true (E : Env) (k : Nat) : eqE E k = true := by
  unfold eqE
  rw [eq_cells, eq_self, chain_true, chain_true]
  simp
end Go.Proofs.YtgbhiamfjikonaaGreatDoor
