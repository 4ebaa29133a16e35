/- Arrays of integers by value, opened. -/
import Derived.Test.YtgbhiamfjikonaaGreatDoorSxRowStay
import Derived.OpenShut
import Derived.WideShapes
set_option linter.unusedVariables false
namespace Go.SX
open Go Go.RowKit Go.WideShapes Go.ChangeShapes
section
variable {H : Type} {enc : TypeId × Value → H} {P : Program} {w : World} {base : Nat} {spare : Nat → Bool} {held : Bool}
theorem okWide_array {r : Reach} {b0 : Nat} {t e : TypeId} {n : Nat} {v : Value} (ht : P.underlying t = some (.array n e)) (h : Value.okWide P w r b0 t v) : ∃ cs, v = .agg cs := by
  simp only [Value.okWide, ht] at h
  cases v <;> simp_all
def numAt (l : List Value) (i : Nat) : Int := match l[i]? with | some (Value.int _ x) => x | _ => 0
theorem open_array_ints {r : Reach} {b0 : Nat} {t e : TypeId} {n : Nat} {k : IntKind} {v : Value} {d : DataW H} {ps : List MemPlace} (ht : P.underlying t = some (.array n e)) (he : P.underlying e = some (.int k)) (hc : P.cellsOf e = 1) (hct : P.cellsOf t = n)
    (hval : Value.okWide P w r b0 t v) (hd : DataW.Trod enc P w base spare held t v d ps) : ∃ xs : List Int, xs.length = n ∧ v = .agg (xs.map (Value.int k)).toArray := by
  obtain ⟨cs, rfl⟩ := okWide_array ht hval
  obtain ⟨fuel, hf⟩ := hd
  obtain ⟨ys, m, _, _, hlen, hn, hel⟩ := DataW.trod_array ht hf
  have hcs : (Value.agg cs).cells.toList = cs.toList := rfl
  rw [hct] at hlen
  have each : ∀ i, i < n → ∃ x : Int, cs.toList[i]? = some (.int k x) := by
    intro i hi
    have h1 := hel i hi
    rw [hc, Nat.mul_one] at h1
    have hy : ys[i]? = some ys[i] := List.getElem?_eq_getElem (by omega)
    rw [hy] at h1
    obtain ⟨x, hx, _⟩ := DataW.trod_int he h1
    refine ⟨x, ?_⟩
    have h2 := congrArg (fun l => l[0]?) hx
    simp only [List.getElem?_cons_zero] at h2
    rw [List.getElem?_take_of_lt (by omega), List.getElem?_drop] at h2
    rw [hcs] at h2
    simpa using h2
  refine ⟨(List.range n).map (numAt cs.toList), by simp, ?_⟩
  congr 1
  apply Array.ext'
  simp only [List.map_map]
  apply List.ext_getElem?
  intro i
  by_cases hi : i < n
  · obtain ⟨x, hx⟩ := each i hi
    rw [List.getElem?_map, List.getElem?_range hi]
    have hx' : numAt cs.toList i = x := by simp [numAt, hx]
    simp only [Option.map_some, Function.comp, hx', hx]
  · have h1 : cs.toList.length = n := hlen
    rw [List.getElem?_eq_none (by omega), List.getElem?_eq_none (by simp; omega)]
end
end Go.SX
