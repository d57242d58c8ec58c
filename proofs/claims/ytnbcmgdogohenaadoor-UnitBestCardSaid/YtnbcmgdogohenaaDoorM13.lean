/- The statement about UnitBest: for every input the call returns true, and each argument reads as before; and its card. The reading of the arguments, the summary of the law, and the tie. -/
import Derived.Test.YtnbcmgdogohenaaDoorLr
import Derived.Test.YtnbcmgdogohenaaDoorLm
import Derived.Test.YtnbcmgdogohenaaDoorTie
import Derived.Test.YtnbcmgdogohenaaDoorCards
import Derived.SevenTiedAt
set_option linter.unusedVariables false
set_option linter.unusedSimpArgs false
set_option maxRecDepth 100000
namespace Go.Proofs.YtnbcmgdogohenaaDoor.Ev
open Go Go.RowKit Go.Proofs Go.ChangeShapes Go.WideShapes Go.ChangeAt Go.WideMaps Go.WideElems

theorem lifted13 (os : Os) (started : os.Started) (H : Type) (enc : TypeId × Value → H) :
    ReturnsInHanded {} Tryd.checked os 13 .any (fun w args => (Rows.unitBestSpec.pre enc Tryd.prog Tryd.f13 [] false w args ∧ laidMetH Tryd.prog laid1 w) ∧ sizedMet enc Tryd.prog Tryd.f13 (OpenSpec.ofChange Rows.unitBestSpec) false w args)
      (Rows.unitBestSpec.post enc Tryd.prog Tryd.f13 false true false false) := by
  refine returnsInHanded_of_change_and (C := Tryd.checked) (X := fun w _ => laidMetH Tryd.prog laid1 w) (fun _ _ _ hh h => h.of_heap hh) own started (by kernel_rfl) fn13.at_
    (ChangeSpec.witness_shaped (enc := enc) (C := Tryd.checked) (os := os) (X := fun w _ => laidMetH Tryd.prog laid1 w) false (World.doorLaid Tryd.prog 400 os) #[.agg #[.slice none 0 0, .slice none 0 0, .slice none 0 0], .slice none 0 0] 8 rfl (World.shaped_of_RefB (by kernel_rfl) (by kernel_rfl)) (by kernel_rfl) (by kernel_rfl) (by kernel_rfl) (door_met os _)) ?_
  intro W base args ds gs before hval0 hW _ _ hL _
  have hW' := hW
  obtain ⟨p, q, hA0, hV, rfl, hfz, hnd⟩ := hW
  have hA : DataW.TrodAll enc Tryd.prog W 0 (fun _ => true) true Tryd.f13.params.toList args.toList ds p := hA0
  have hp : Tryd.f13.params.toList = [77, 82] := by kernel_rfl
  have hval : ∀ (j : Nat) t v, Tryd.f13.params[j]? = some t → args[j]? = some v → Value.okWide Tryd.prog W .any base t v := hval0
  clear hA0 hval0
  have hA' := hA
  rw [hp] at hA'
  obtain ⟨v0, vs0, d0, ds0, p0, q0, hargs, rfl, rfl, h0, r0⟩ := trodAll_cons hA'
  obtain ⟨v1, vs1, d1, ds1, p1, q1, rfl, rfl, rfl, h1, r1⟩ := trodAll_cons r0
  obtain ⟨rfl, rfl, rfl⟩ := trodAll_nil r1
  obtain ⟨rfl, rfl⟩ := trodVars_none hV
  have hat : ∀ j, args[j]? = [v0, v1][j]? := fun j => by rw [← hargs, Array.getElem?_toList]
  have hpt : ∀ j, Tryd.f13.params[j]? = ([77, 82] : List Nat)[j]? := fun j => by rw [← hp, Array.getElem?_toList]
  obtain ⟨b0, g0_0, k0⟩ := arg_agg (n := 8) (ls := [.sl .unit, .sl .int, .sl .spot]) (by kernel_rfl) (by kernel_rfl) h0
  obtain ⟨_, _, rfl, ⟨x0_0, rfl⟩, g0_1⟩ := lfp_cons g0_0
  obtain ⟨_, _, rfl, ⟨x0_1, rfl⟩, g0_2⟩ := lfp_cons g0_1
  obtain ⟨_, _, rfl, ⟨x0_2, rfl⟩, g0_3⟩ := lfp_cons g0_2
  obtain rfl := lfp_nil g0_3
  obtain ⟨a1, len1, cap1, e1⟩ := okWide_slice (e := 5) (show Tryd.prog.underlying 82 = some (.slice 5) by kernel_rfl) (hval 1 82 v1 (hpt 1) (hat 1))
  obtain ⟨x1, k1⟩ := arg_sl (n := 8) (T := .u8) e1 (by kernel_rfl) h1
  have hr : RepL W (okW W) γn [.agg [.sl .unit x0_0, .sl .int x0_1, .sl .spot x0_2], .sl .u8 x1] args.toList := by
    rw [hargs]
    exact .cons k0 (.cons k1 (.nil))
  have hc := (s13 _ (.b true) rfl).1 W (okW W) args.toList (fun β h => h) (gl_laid hL) hr
  refine hc.mono fun e W' ⟨v, he, bel, hv⟩ => ?_
  cases hv
  subst he
  exact ⟨_, rfl, _, _, _, [], _, [], hW', trodAll_mk1 (shut_bool u4 _), back_all bel hA (by rw [hp]; kernel_rfl), rfl, bel.frame _, fun h => by cases h⟩
theorem unitBest_said : Rows.UnitBestSaid :=
  OpenClaim.holds_of_wide 13 Tryd.f13 rfl rfl rfl rfl rfl rfl rfl ⟨rfl, rfl, rfl, rfl, rfl⟩ rfl rfl rfl rfl rfl (by kernel_rfl) fn13.at_ (by kernel_rfl)
    (of_decide_eq_true (by kernel_rfl)) (by unfold Func.isWrapper; first | (rw [if_pos (by decide +kernel)]; kernel_rfl) | (rw [if_neg (by decide +kernel)]; exact ⟨rfl, rfl⟩))
    (fun os started H enc _ => lifted13 os started H enc)
end Go.Proofs.YtnbcmgdogohenaaDoor.Ev
namespace Go.Proofs.YtnbcmgdogohenaaDoor
open Go
/-- The tied card. -/
theorem unitBest_holds : Rows.UnitBestCardSaid :=
  Claim7.holds_tied_plain_at .later [] [.data] true (true, "5e6a4818e8d7d888c3f25250f92ae55eb703b4b72e8a58f1ef1b7c08c030986b") false
    Ev.unitBest_said (fun _ h => by cases h) (by kernel_rfl) (fun _ h => by cases h) unitBest_row_tie rfl ⟨rfl, rfl⟩ (by kernel_rfl) rfl
    (fun f fn hf hfn => by
      obtain rfl : f = 13 := Option.some.inj ((show Tryd.prog.funcNamed "cresset/cressetlaw09.UnitBest" = some 13 by kernel_rfl).symm.trans hf) |>.symm
      obtain rfl : fn = Tryd.f13 := (Option.some.inj (Ev.fn13.at_.symm.trans hfn)).symm
      exact ⟨by kernel_rfl, fun j t ht => by
        have hp : Tryd.f13.params = #[77, 82] := by kernel_rfl
        rw [hp] at ht
        have hm : t ∈ [77, 82] := by simpa using Array.mem_of_getElem? ht
        have hall : (([77, 82] : List Nat).all fun u => !Tryd.prog.wantsStandIn u) = true := by kernel_rfl
        exact (show Tryd.prog.wantsStandIn t = false by simpa using List.all_eq_true.1 hall t hm)⟩)
    (by kernel_rfl)
#print axioms unitBest_holds
end Go.Proofs.YtnbcmgdogohenaaDoor
