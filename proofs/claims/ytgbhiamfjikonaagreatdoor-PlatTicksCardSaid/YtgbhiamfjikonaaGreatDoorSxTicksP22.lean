/- The law PlatTicks returns true at any times of eight harts and any ticks (any slice of uint64, nil too), from any start in which the listed table reads as the program lays it; its arguments read as before.
   Conditions: those of the given statement alone. The code is run by an evaluator over abstract heaps (SX), proved sound against the model's rules; its loops by invariants. -/
import Derived.Test.YtgbhiamfjikonaaGreatDoorRows
import Derived.Test.YtgbhiamfjikonaaGreatDoorCards
import Derived.Test.YtgbhiamfjikonaaGreatDoorTie
import Derived.WalkKit
import Derived.ProofKit
import Derived.LaidMore
import Derived.OpenShut
import Derived.Stop.Joined
import Derived.SevenTiedAt
import Derived.Below
import Derived.ChangeSame
import Derived.Test.YtgbhiamfjikonaaGreatDoorSxTicksC22
import Derived.Test.YtgbhiamfjikonaaGreatDoorSxRowOpen
namespace Go.Proofs.YtgbhiamfjikonaaGreatDoor
open Go.ChangeShapes Go.WideShapes Go.ChangeAt Go.RowKit Go.SX
set_option linter.unusedVariables false
theorem cell_block {W : World} {b i : Nat} {v : Value} (h : W.cell? ⟨b, i, none⟩ = some v) : ∃ arr e fz, W.heap[b]? = some (.cells arr e fz) ∧ arr[i]? = some v := by
  unfold World.cell? at h
  cases hb : W.heap[b]? with
  | none => simp [hb] at h
  | some o => cases o <;> simp_all
theorem ticks_args (xs : List Int) (hx : xs.length = 8) : (times fun i => xs.getD i 0).den (fun _ => 0) = .agg (xs.map (Value.int .u64)).toArray := by
  match xs, hx with
  | [x0, x1, x2, x3, x4, x5, x6, x7], _ => rfl
theorem ticks_args' (xs : List Int) (hx : xs.length = 8) (ρ : Nat → Nat) : (times fun i => xs.getD i 0).den ρ = .agg (xs.map (Value.int .u64)).toArray := by
  match xs, hx with
  | [x0, x1, x2, x3, x4, x5, x6, x7], _ => rfl
theorem walk_none (xs : List Int) (hx : xs.length = 8) (p : Option Addr) (W : World) : Calls Tryz.prog 5 #[.agg (xs.map (Value.int .u64)).toArray, .slice p 0 0] W fun e w' => e = .returned (.bool true) ∧ Below W.heap.size W w' := by
  have := ticks_none (fun i => xs.getD i 0) p W
  simp only [denL, ticks_args' xs hx, AV.den] at this
  exact this
theorem walk_some (xs zs : List Int) (hx : xs.length = 8) (b off len cap : Nat) (W : World) (hl : len ≤ cap) (hz : zs.length = cap) (hp : 0 < zs.length)
    (hc : ∀ j, j < zs.length → W.cell? ⟨b, off + j, none⟩ = some (.int .u64 (zs.getD j 0))) : Calls Tryz.prog 5 #[.agg (xs.map (Value.int .u64)).toArray, .slice (some ⟨b, off, none⟩) len cap] W fun e w' => e = .returned (.bool true) ∧ Below W.heap.size W w' := by
  obtain ⟨arr, e, fz, hb, _⟩ := cell_block (hc 0 hp)
  have := ticks_calls (fun i => xs.getD i 0) off len cap off (off + zs.length) (fun i => zs.getD (i - off) 0) (.cells arr e fz) b W (Nat.le_refl _) (by omega) hb ⟨arr, e, fz, rfl, fun i h1 h2 => by
    have h3 := hc (i - off) (by omega)
    rw [show off + (i - off) = i by omega] at h3
    obtain ⟨arr', e', fz', hb', h4⟩ := cell_block h3
    rw [hb] at hb'
    simp only [Option.some.injEq, Obj.cells.injEq] at hb'
    rw [hb'.1]; exact h4⟩
  simp only [denL, ticks_args' xs hx, AV.den, Nat.mul_one] at this
  exact this

section
variable {H : Type} {enc : TypeId × Value → H} {P : Program}
theorem post_of_below {f : Func} {s : ChangeSpec} {apart fresh handsOn again : Bool} {W W' : World} {args : Array Value} {v : Value} {ds gs : List (DataW H)} {before pa pv : List MemPlace}
    (hW : DataW.Whole enc P f.params.toList s.vars apart W args.toList ds gs before)
    (hres : ∀ (b : Nat) (sp : Nat → Bool) (hd : Bool), DataW.TrodAll enc P W' b sp hd f.resultTypes.toList (v.resultList f.resultTypes.size) (s.fn H (ds ++ gs)).results [])
    (hargs : ∀ sp : Nat → Bool, (∀ p ∈ before, sp p.block = true) → DataW.TrodAll enc P W' 0 sp true f.params.toList args.toList (s.fn H (ds ++ gs)).args pa)
    (hvars : ∀ sp : Nat → Bool, (∀ p ∈ before, sp p.block = true) → DataW.TrodVars enc P W' sp s.vars (s.fn H (ds ++ gs)).vars pv)
    (hps : before = pa ++ pv) (hb : Below W.heap.size W W')
    (hok : ∀ (j : Nat) (t : TypeId) (r : Value), f.resultTypes[j]? = some t → (v.resultList f.resultTypes.size)[j]? = some r → Value.okWide P W' .any 0 t r) :
    s.post enc P f apart fresh handsOn again W args v W' := by
  have hlt : ∀ p ∈ before, p.block < W.heap.size := fun p hp => hW.lt p hp
  have hold : ∀ p ∈ before, (fun b => decide (b < W.heap.size)) p.block = true := fun p hp => by simpa using hlt p hp
  refine ⟨ds, gs, before, [], pa, pv, hW, hres _ _ _, hargs _ hold, hvars _ hold, World.keptBut_mono (fun p hp => ⟨hp, ?_⟩) (hb.frame (· ∈ before)), fun _ => ?_⟩
  · rw [hps, List.mem_append] at hp
    exact Or.inr hp
  · obtain ⟨_, _, _, _, _, hz, hn⟩ := hW
    refine ⟨hok, _, _, ([] ++ pa) ++ pv, ⟨[] ++ pa, pv, trodAll_append (hargs _ (fun _ _ => rfl)) (hres _ _ _), hvars _ (fun _ _ => rfl), rfl, ?_, ?_⟩, ?_⟩
    · intro b off hp
      have hin : MemPlace.cell b off ∈ before := by rw [hps]; simpa using hp
      rw [hb.frozen (hlt _ hin)]
      exact hz b off hin
    · intro ha
      have := hn ha
      rw [hps] at this
      simpa using this
    · intro p hp _
      rw [hps]
      simpa using hp
end

theorem own : ownKnob Tryz.prog.godebug = none := by kernel_rfl
theorem laidOut : laidOutB Tryz.prog = true := by kernel_rfl
theorem rowed : mapsRowed Tryz.prog = true := by kernel_rfl
theorem full : ∀ t e, t < Tryz.prog.types.size → Tryz.prog.underlying t = some (.slice e) → 0 < Tryz.prog.cellsOf e := slices_full_of Tryz.prog (by kernel_rfl)
theorem c27 : Tryz.prog.cellsOf 27 = 1 := by kernel_rfl
theorem c34 : Tryz.prog.cellsOf 34 = 8 := by kernel_rfl
theorem tys : ([34, 57].all fun t => decide (t < Tryz.prog.types.size)) = true := by kernel_rfl
theorem door_met (os : Os) (args : Array Value) : laidMetH Tryz.prog Rows.platTicksRow.laid ((World.doorLaid Tryz.prog 400 os).forCall (fun _ _ => 0) ⟨#[], args, []⟩).memory :=
  laidMetH_of_parts3 (fuel := 8) (laidMet_of_run' 8 (by kernel_rfl) (by kernel_rfl)) (by kernel_rfl) (by kernel_rfl)

set_option maxRecDepth 100000 in
theorem lifted (os : Os) (started : os.Started) (H : Type) (enc : TypeId × Value → H) :
    ReturnsInHanded {} Tryz.checked os 5 .any (fun w args => (Rows.platTicksSpec.pre enc Tryz.prog Tryz.f5 [] false w args ∧ laidMetH Tryz.prog Rows.platTicksRow.laid w) ∧ sizedMet enc Tryz.prog Tryz.f5 (OpenSpec.ofChange Rows.platTicksSpec) false w args)
      (Rows.platTicksSpec.post enc Tryz.prog Tryz.f5 false true false false) := by
  refine returnsInHanded_of_change_and (C := Tryz.checked) (X := fun w _ => laidMetH Tryz.prog Rows.platTicksRow.laid w) (fun _ _ _ hh h => h.of_heap hh) own started (by kernel_rfl) Tryz.func5
    (ChangeSpec.witness_shaped (enc := enc) (C := Tryz.checked) (os := os) (X := fun w _ => laidMetH Tryz.prog Rows.platTicksRow.laid w) false (World.doorLaid Tryz.prog 400 os) #[.agg #[.int .u64 0, .int .u64 0, .int .u64 0, .int .u64 0, .int .u64 0, .int .u64 0, .int .u64 0, .int .u64 0], .slice none 0 0] 8 rfl (World.shaped_of_RefB (by kernel_rfl) (by kernel_rfl)) (by kernel_rfl) (by kernel_rfl) (by kernel_rfl) (door_met os _)) ?_
  intro W base args ds gs before hval0 hW _ _ hL _
  have hval : ∀ (j : Nat) t v, Tryz.f5.params[j]? = some t → args[j]? = some v → Value.okWide Tryz.prog W .any base t v := hval0
  have hW' := hW
  have hlt := fun p hp => hW.lt p hp
  obtain ⟨p, q, hA0, hV, rfl, hfz, hnd⟩ := hW
  have hA : DataW.TrodAll enc Tryz.prog W 0 (fun _ => true) true Tryz.f5.params.toList args.toList ds p := hA0
  have hAk := hA
  rw [Tryz.params5] at hA hval
  obtain ⟨v0, vs0, d0, ds0, p0, q0, hargs, rfl, rfl, h0, r0⟩ := trodAll_cons hA
  obtain ⟨v1, vs1, d1, ds1, p1, q1, rfl, rfl, rfl, h1, r1⟩ := trodAll_cons r0
  obtain ⟨rfl, rfl, rfl⟩ := trodAll_nil r1
  obtain rfl : args = #[v0, v1] := by cases args; simp_all
  obtain ⟨rfl, rfl⟩ := trodVars_none hV
  obtain ⟨xs, hx, rfl⟩ := open_array_ints Tryz.underlying34 Tryz.underlying27 c27 c34 (hval 0 34 v0 rfl rfl) h0
  obtain ⟨a0, len, cap, rfl⟩ := okWide_slice Tryz.underlying57 (hval 1 57 v1 rfl rfl)
  have walk : Calls Tryz.prog 5 #[.agg (xs.map (Value.int .u64)).toArray, .slice a0 len cap] W fun e w' => e = .returned (.bool true) ∧ Below W.heap.size W w' := by
    obtain ⟨fuel, hf⟩ := h1
    rcases open_ints Tryz.underlying57 Tryz.underlying27 c27 hf with ⟨hcs, _⟩ | ⟨a, len', cap', zs, hcs, _, hle, hmax, hall, _, hcell, _⟩
    · simp [Value.cells] at hcs
      obtain ⟨rfl, rfl, rfl⟩ := hcs
      exact walk_none xs hx none W
    · simp [Value.cells] at hcs
      obtain ⟨rfl, rfl, rfl⟩ := hcs
      simp only [if_true] at hall
      by_cases hz : 0 < zs.length
      · obtain ⟨b, off, rfl, hc⟩ := ints_at hcell hz
        exact walk_some xs zs hx b off len cap W hle hall hz hc
      · have h5 : cap = 0 := by omega
        have h6 : len = 0 := by omega
        subst h5; subst h6
        exact walk_none xs hx (some a) W
  refine walk.mono fun e W' ⟨he, hg⟩ => ?_
  subst he
  have hT : ∀ t ∈ Tryz.f5.params.toList, t < Tryz.prog.types.size := by
    intro t ht
    rw [Tryz.params5] at ht
    have := List.all_eq_true.1 tys t (by simpa using ht)
    simpa using this
  exact ⟨_, rfl, post_of_below (pa := p0 ++ (p1 ++ [])) (pv := []) hW' (fun _ _ _ => (trodAll_cons_mk (shut_bool Tryz.underlying4 _) trodAll_mk0))
    (fun sp hs => all_stay laidOut rowed full hg hT hAk (fun x hx => hlt x (List.mem_append_left _ hx)) (fun x hx => hs x (List.mem_append_left _ hx))) (fun _ _ => rfl) rfl
    hg (ok_one (by kernel_rfl) rfl (okWide_bool_mk Tryz.underlying4 _))⟩

theorem platTicks_holds : Rows.PlatTicksSaid :=
  OpenClaim.holds_of_wide 5 Tryz.f5 rfl rfl rfl rfl rfl rfl rfl ⟨rfl, rfl, rfl, rfl, rfl⟩ rfl rfl rfl rfl rfl (by kernel_rfl) Tryz.func5 (by kernel_rfl)
    (of_decide_eq_true (by kernel_rfl)) (by unfold Func.isWrapper; first | (rw [if_pos (by decide +kernel)]; kernel_rfl) | (rw [if_neg (by decide +kernel)]; exact ⟨rfl, rfl⟩))
    (fun os started H enc _ => lifted os started H enc)

theorem platTicks_card : Rows.PlatTicksCardSaid :=
  Claim7.holds_tied_plain_at .later [] [.data] true (true, "7320964ad81cbc5e5dd6b9ba09afa430feaa2081f5eff0ee16d852eef5a24c49") false
    platTicks_holds (fun _ h => by cases h) (by kernel_rfl) (fun _ h => by cases h) platTicks_row_tie rfl ⟨rfl, rfl⟩ (by kernel_rfl) rfl
    (fun f fn hf hfn => by
      obtain rfl : f = 5 := Option.some.inj ((show Tryz.prog.funcNamed "suzerain/suzerainlaw22.PlatTicks" = some 5 by kernel_rfl).symm.trans hf) |>.symm
      obtain rfl : fn = Tryz.f5 := (Option.some.inj (Tryz.func5.symm.trans hfn)).symm
      exact ⟨by kernel_rfl, fun j t ht => by
        rw [Tryz.params5] at ht
        have hm : t ∈ [34, 57] := by simpa using Array.mem_of_getElem? ht
        have hall : ([34, 57].all fun u => !Tryz.prog.wantsStandIn u) = true := by kernel_rfl
        exact (show Tryz.prog.wantsStandIn t = false by simpa using List.all_eq_true.1 hall t hm)⟩)
    (by kernel_rfl)
end Go.Proofs.YtgbhiamfjikonaaGreatDoor
