/- SX: a part of the proof of this claim; it stands under the statement's own conditions alone. -/
import Derived.Test.YtgbhiamfjikonaaGreatDoorSxTicks22
import Derived.Test.YtgbhiamfjikonaaGreatDoorSxLoop3
set_option maxRecDepth 100000
set_option linter.unusedVariables false
namespace Go.Proofs.YtgbhiamfjikonaaGreatDoor
open Go Go.SX Go.Proofs
def hartT (b hb : Nat) : List TV := xs b 32 ++ (.int .u64 (b + 32) :: .int .i64 (b + 33) :: (xs (b + 34) 12 ++ [.bool hb]))
def inT : List TO := lawT ++ [.cells (hartT 3000 20) 49]
noncomputable def inBody : Code := (loopOf 17 (bodyOf Tryz.f5)).getD .skip
def never : Int := 18446744073709551615
def inFr0 (E : Env) : List (Nat × AV) := [(1, .slice true 27 (E.N 0) 1 (E.N 1) (E.N 2)), (2, .ptr 28 0 0 0), (4, .bool false false), (6, .ptr 0 0 0 0), (8, .int true .u64 (E.I 0)), (9, .int true .i64 (E.I 1)), (10, .ptr 29 0 0 0)]
def inFr (E : Env) (i : Nat) : Fr := ⟨105, inFr0 E ++ [(11, .int false .i64 i)]⟩
noncomputable def inRun (E : Env) (i : Nat) : Tree (Ex × Fr × Hs Empty) := trimT [1, 2, 4, 6, 8, 9, 10, 11] (code cfgD SN.locs 100 5 inBody (inFr E i) ⟨instH E inT, []⟩)
def inTr (E : Env) (i : Nat) : Tree (Ex × Fr × Hs Empty) :=
  let no := Tree.leaf (Ex.ret, inFr E i, (⟨instH E inT, []⟩ : Hs Empty))
  let yes := Tree.leaf (Ex.normal, inFr E (i + 1), (⟨instH E inT, []⟩ : Hs Empty))
  .ite (decide (E.I (2000 + i) ≤ E.I 0))
    (.ite (!((E.I (142 + 100 * i) != 0) == (E.I (2000 + i) != never))) no (.ite (E.I (2000 + i) != never) (.ite (E.I (142 + 100 * i) != 32) no yes) yes))
    (.ite (!((E.I (142 + 100 * i) != 0) == false)) no yes)
theorem in_0 (E : Env) : inRun E 0 = inTr E 0 := by kernel_rfl
theorem in_1 (E : Env) : inRun E 1 = inTr E 1 := by kernel_rfl
theorem in_2 (E : Env) : inRun E 2 = inTr E 2 := by kernel_rfl
theorem in_3 (E : Env) : inRun E 3 = inTr E 3 := by kernel_rfl
theorem in_4 (E : Env) : inRun E 4 = inTr E 4 := by kernel_rfl
theorem in_5 (E : Env) : inRun E 5 = inTr E 5 := by kernel_rfl
theorem in_6 (E : Env) : inRun E 6 = inTr E 6 := by kernel_rfl
theorem in_7 (E : Env) : inRun E 7 = inTr E 7 := by kernel_rfl
theorem in_8 (E : Env) : inRun E 8 = .leaf (.exit 4, inFr E 8, ⟨instH E inT, []⟩) := by kernel_rfl
/-- A hart's bits are as its time says. -/
def fits (now a x : Int) : Bool := x == cond (decide (a ≤ now) && a != never) 32 0
def preIn (E : Env) : Bool := fits (E.I 0) (E.I 2000) (E.I 142) && (fits (E.I 0) (E.I 2001) (E.I 242) && (fits (E.I 0) (E.I 2002) (E.I 342) && (fits (E.I 0) (E.I 2003) (E.I 442) &&
  (fits (E.I 0) (E.I 2004) (E.I 542) && (fits (E.I 0) (E.I 2005) (E.I 642) && (fits (E.I 0) (E.I 2006) (E.I 742) && fits (E.I 0) (E.I 2007) (E.I 842)))))))
def inOut (E : Env) : Tree (Ex × Fr × Eff Empty) := .ite (preIn E) (.leaf (.exit 4, ⟨105, inFr0 E⟩, .ext [] [])) (.stuck 7)
theorem pre_at (E : Env) (h : preIn E = true) (i : Nat) (hi : i < 8) : fits (E.I 0) (E.I (2000 + i)) (E.I (142 + 100 * i)) = true := by
  simp only [preIn, Bool.and_eq_true] at h
  have hc : i = 0 ∨ i = 1 ∨ i = 2 ∨ i = 3 ∨ i = 4 ∨ i = 5 ∨ i = 6 ∨ i = 7 := by omega
  rcases hc with e | e | e | e | e | e | e | e <;> rw [e]
  · exact h.1
  · exact h.2.1
  · exact h.2.2.1
  · exact h.2.2.2.1
  · exact h.2.2.2.2.1
  · exact h.2.2.2.2.2.1
  · exact h.2.2.2.2.2.2.1
  · exact h.2.2.2.2.2.2.2
def inR (E : Env) (k : Nat) := roundOK3 (ι := K9) (fun k => inFr E k.1) (fun _ => (instH E inT : Hp Empty)) (fun j => 8 - j.1 < 8 - k) (instH E inT) (inOut E)
theorem in_bad (E : Env) (i k : Nat) (hi : i < 8) (h : fits (E.I 0) (E.I (2000 + i)) (E.I (142 + 100 * i)) = false) (fr : Fr) (X : Hs Empty) : inR E k (.ret, fr, X) := by
  refine ⟨fun _ => false, .inr ⟨?_, trivial⟩⟩
  cases hp : preIn E with
  | false => rfl
  | true => rw [pre_at E hp i hi] at h; cases h
theorem in_good (E : Env) (i : Nat) (hi : i < 8) : inR E i (.normal, inFr E (i + 1), ⟨instH E inT, []⟩) :=
  ⟨⟨i + 1, by omega⟩, [], by simp only; omega, FrSub.refl _, by simp only [List.append_nil]⟩
theorem in_round (E : Env) (i : Nat) (hi : i < 8) (h : inRun E i = inTr E i) : Ok (code cfgD SN.locs 100 5 inBody (inFr E i) ⟨instH E inT, []⟩) (inR E i) := by
  refine ⟨round_trim3 [1, 2, 4, 6, 8, 9, 10, 11] ?_⟩
  have h1 : trimT [1, 2, 4, 6, 8, 9, 10, 11] (code cfgD SN.locs 100 5 inBody (inFr E i) ⟨instH E inT, []⟩) = inTr E i := h
  rw [h1]
  have good := in_good E i hi
  have bad : fits (E.I 0) (E.I (2000 + i)) (E.I (142 + 100 * i)) = false → inR E i (.ret, inFr E i, ⟨instH E inT, []⟩) := fun h => in_bad E i i hi h _ _
  unfold inTr
  generalize E.I (2000 + i) = a at *
  generalize E.I (142 + 100 * i) = x at *
  generalize E.I 0 = now at *
  refine ⟨fun h1 => ⟨fun h2 => bad ?_, fun h2 => ⟨fun h3 => ⟨fun h4 => bad ?_, fun h4 => good⟩, fun h3 => good⟩⟩, fun h1 => ⟨fun h2 => bad ?_, fun h2 => good⟩⟩
  · unfold fits
    rw [h1]
    cases ha : (a != never) with
    | true =>
      rw [ha] at h2
      have : (x != 0) = false := by cases hx : (x != 0) <;> simp_all
      simp only [Bool.and_self, cond_true]
      have hx : x = 0 := by simpa using this
      rw [hx]; rfl
    | false =>
      rw [ha] at h2
      have : (x != 0) = true := by cases hx : (x != 0) <;> simp_all
      simp only [Bool.and_false, cond_false]
      simpa using this
  · unfold fits
    rw [h1, h3]
    simpa using h4
  · unfold fits
    rw [h1]
    simp only [Bool.false_and, cond_false]
    have : (x != 0) = true := by cases hx : (x != 0) <;> simp_all
    simpa using this
end Go.Proofs.YtgbhiamfjikonaaGreatDoor
