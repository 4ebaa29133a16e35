/- SX: operations that answer a value and leave the world alone. -/
import Derived.Test.YtgbhiamfjikonaaGreatDoorSxMem
namespace Go.SX
section
variable {P : Program}

/-! Aggregates. -/

theorem foldl_put (o : Nat) : ∀ (bs : List Value) (k : Nat) (arr : Array Value),
    let r := (bs.zipIdx k).foldl (fun cs (p : Value × Nat) => cs.setIfInBounds (o + p.2) p.1) arr
    r.size = arr.size ∧ ∀ j, r[j]? = if o + k ≤ j ∧ j < o + k + bs.length ∧ j < arr.size then bs[j - (o + k)]? else arr[j]?
  | [], k, arr => by
    refine ⟨rfl, fun j => ?_⟩
    simp
    omega
  | b :: bs, k, arr => by
    obtain ⟨h1, h2⟩ := foldl_put o bs (k + 1) (arr.setIfInBounds (o + k) b)
    simp only [List.zipIdx_cons, List.foldl_cons]
    refine ⟨by rw [h1]; simp, fun j => ?_⟩
    rw [h2 j]
    simp only [Array.size_setIfInBounds, List.length_cons]
    by_cases hj : j = o + k
    · subst hj
      rw [if_neg (by omega), Array.getElem?_setIfInBounds]
      by_cases hs : o + k < arr.size
      · simp [hs]
      · simp [hs]
    · by_cases hin : o + (k + 1) ≤ j ∧ j < o + (k + 1) + bs.length ∧ j < arr.size
      · rw [if_pos hin, if_pos (by omega)]
        rw [show j - (o + k) = (j - (o + (k + 1))) + 1 by omega, List.getElem?_cons_succ]
      · rw [if_neg hin, if_neg (by omega), Array.getElem?_setIfInBounds_ne (by omega)]

theorem fill_sound (ρ : Nat → Nat) (place : Nat → Option (Nat × Nat)) : ∀ (ps : List (Nat × AV)) (cs cs' : List AV), fillB place ps cs = some cs' →
    Instr.fill place (denL ρ cs).toArray (ps.map fun p => (p.1, p.2.den ρ)) = some (denL ρ cs').toArray
  | [], cs, cs', h => by simp only [fillB, Option.some.injEq] at h; subst h; rfl
  | (i, v) :: rest, cs, cs', h => by
    simp only [fillB] at h
    cases hp : place i with
    | none => rw [hp] at h; cases h
    | some q =>
      obtain ⟨o, n⟩ := q
      rw [hp] at h
      simp only at h
      split at h
      · rename_i hc
        simp only [Bool.and_eq_true, Bool.not_eq_true'] at hc
        obtain ⟨⟨hn, hz⟩, hpl⟩ := hc
        have hn := Nat.eq_of_beq_eq_true hn
        rw [lenB_eq] at hn
        have hz' : n ≠ 0 := by intro e; subst e; simp at hz
        cases hl : lput cs o v.cells with
        | none => rw [hl] at h; cases h
        | some c1 =>
          rw [hl] at h
          have ih := fill_sound ρ place rest c1 cs' h
          obtain ⟨l1, l2, l3, l4⟩ := lput_spec cs o v.cells c1 hl
          have hne : v.cells ≠ [] := by intro e; rw [e] at hn; simp at hn; omega
          have hle := l2 hne
          have hd := den_cells ρ v (plain_raw hpl)
          simp only [List.map_cons, Instr.fill, hp, hd]
          have hlen : (denL ρ v.cells).toArray.size = n := by simp [denL_eq, hn]
          rw [hlen]
          rw [if_neg (by simp [denL_eq]; omega)]
          rw [← ih]
          congr 1
          have hconv : (denL ρ v.cells).toArray.zipIdx.foldl (fun cs (x : Value × Nat) => cs.setIfInBounds (o + x.2) x.1) (denL ρ cs).toArray =
              ((denL ρ v.cells).zipIdx 0).foldl (fun cs (x : Value × Nat) => cs.setIfInBounds (o + x.2) x.1) (denL ρ cs).toArray := by
            rw [← Array.foldl_toList]; simp
          refine (hconv.trans ?_)
          obtain ⟨f1, f2⟩ := foldl_put o (denL ρ v.cells) 0 (denL ρ cs).toArray
          apply Array.ext_getElem?
          intro j
          rw [f2 j]
          simp only [denL_eq, List.length_map, List.size_toArray, List.getElem?_toArray, List.getElem?_map, Nat.add_zero]
          by_cases hin : o ≤ j ∧ j < o + v.cells.length ∧ j < cs.length
          · rw [if_pos hin]
            have := l3 (j - o) (by omega)
            rw [show o + (j - o) = j by omega] at this
            rw [this]
          · rw [if_neg hin, l4 j (by omega)]
      · cases h

theorem placesB_spec : ∀ (fs : List Field) (pl : List (Nat × Nat)), placesB P fs = some pl → fs.mapM (fun f => (P.info? f.type).map fun i => (f.offset, i.size)) = some pl
  | [], pl, h => by simp [placesB] at h; subst h; rfl
  | f :: fs, pl, h => by
    simp only [placesB] at h
    split at h
    · rename_i n l hn hl
      simp only [Option.some.injEq] at h
      subst h
      unfold sizeB at hn
      split at hn
      · rename_i i hi
        simp only [Option.some.injEq] at hn
        simp [infoB_info hi, placesB_spec fs l hl, hn]
      · cases hn
    · cases h

theorem zeroB_info {t : TypeId} {z : AV} (h : zeroB P t = some z) (ρ : Nat → Nat) : ∃ i, P.info? t = some i ∧ i.zero = some (z.den ρ) := by
  unfold zeroB at h
  split at h
  · rename_i i hi
    split at h
    · rename_i v hv
      simp only [Option.some.injEq] at h
      subst h
      exact ⟨i, infoB_info hi, by rw [hv, constAV_den]⟩
    · cases h
  · cases h

theorem build_sound {t : TypeId} {ps : List (Nat × AV)} {v : AV} (h : buildB P t ps = some v) (ρ : Nat → Nat) (w : World) :
    (Instr.build t (ps.map fun p => (p.1, p.2.den ρ)).toArray).run P w = .ok (v.den ρ) w := by
  unfold buildB at h
  split at h
  · rename_i z fs hz hu
    obtain ⟨i, hi, hzi⟩ := zeroB_info hz ρ
    split at h
    · rename_i pl hpl
      split at h
      · rename_i hp
        simp only [Option.map_eq_some_iff] at h
        obtain ⟨cs, hf, rfl⟩ := h
        refine run_build w t _ _ ?_
        unfold Program.built
        simp only [hi, undB_und hu, hzi, placesB_spec _ _ hpl, den_cells ρ z (plain_raw hp)]
        have := fill_sound ρ (lget pl) ps z.cells cs hf
        rw [show (fun x => pl.toArray[x]?) = lget pl by funext x; rw [lget_eq]; simp]
        exact this
      · cases h
    · cases h
  · rename_i z n e hz hu
    obtain ⟨i, hi, hzi⟩ := zeroB_info hz ρ
    split at h
    · rename_i m hm
      split at h
      · rename_i hp
        simp only [Option.map_eq_some_iff] at h
        obtain ⟨cs, hf, rfl⟩ := h
        refine run_build w t _ _ ?_
        unfold Program.built
        unfold sizeB at hm
        split at hm
        · rename_i ie hie
          simp only [Option.some.injEq] at hm
          simp only [hi, undB_und hu, hzi, infoB_info hie, den_cells ρ z (plain_raw hp), hm]
          exact fill_sound ρ _ ps z.cells cs hf
        · cases hm
      · cases h
    · cases h
  · cases h

theorem repB_eq (n : Nat) (l : List AV) : repB n l = (List.replicate n l).flatten := by
  induction n with
  | zero => rfl
  | succ n ih => simp [repB, lapp_eq, ih, List.replicate_succ]

end
end Go.SX
