/- The statement about UnitHome: for every input the call returns true, and each argument reads as before; and its card. The reading of the arguments, the summary of the law, and the tie. -/
import Derived.Test.YtnbcmgdogohenaaDoorLr
import Derived.Test.YtnbcmgdogohenaaDoorLg
import Derived.Test.YtnbcmgdogohenaaDoorTie
import Derived.Test.YtnbcmgdogohenaaDoorCards
import Derived.SevenTiedAt
set_option linter.unusedVariables false
set_option linter.unusedSimpArgs false
set_option maxRecDepth 100000
namespace Go.Proofs.YtnbcmgdogohenaaDoor.Ev
open Go Go.RowKit Go.Proofs Go.ChangeShapes Go.WideShapes Go.ChangeAt Go.WideMaps Go.WideElems

theorem lifted6 (os : Os) (started : os.Started) (H : Type) (enc : TypeId × Value → H) :
    ReturnsInHanded {} Tryd.checked os 6 .any (fun w args => (Rows.unitHomeSpec.pre enc Tryd.prog Tryd.f6 [] false w args ∧ laidMetH Tryd.prog laid1 w) ∧ sizedMet enc Tryd.prog Tryd.f6 (OpenSpec.ofChange Rows.unitHomeSpec) false w args)
      (Rows.unitHomeSpec.post enc Tryd.prog Tryd.f6 false true false false) := by
  refine returnsInHanded_of_change_and (C := Tryd.checked) (X := fun w _ => laidMetH Tryd.prog laid1 w) (fun _ _ _ hh h => h.of_heap hh) own started (by kernel_rfl) fn6.at_
    (ChangeSpec.witness_shaped (enc := enc) (C := Tryd.checked) (os := os) (X := fun w _ => laidMetH Tryd.prog laid1 w) false (World.doorLaid Tryd.prog 400 os) #[.agg #[.string ByteArray.empty, .int .i64 0, .int .i64 0, .int .i64 0, .int .i64 0, .int .i64 0, .int .i64 0, .int .i64 0, .int .i64 0, .int .i64 0, .int .i64 0, .int .i64 0], .agg #[.int .i64 0, .slice none 0 0, .slice none 0 0]] 8 rfl (World.shaped_of_RefB (by kernel_rfl) (by kernel_rfl)) (by kernel_rfl) (by kernel_rfl) (by kernel_rfl) (door_met os _)) ?_
  intro W base args ds gs before hval0 hW _ _ hL _
  have hW' := hW
  obtain ⟨p, q, hA0, hV, rfl, hfz, hnd⟩ := hW
  have hA : DataW.TrodAll enc Tryd.prog W 0 (fun _ => true) true Tryd.f6.params.toList args.toList ds p := hA0
  have hp : Tryd.f6.params.toList = [25, 37] := by kernel_rfl
  have hval : ∀ (j : Nat) t v, Tryd.f6.params[j]? = some t → args[j]? = some v → Value.okWide Tryd.prog W .any base t v := hval0
  clear hA0 hval0
  have hA' := hA
  rw [hp] at hA'
  obtain ⟨v0, vs0, d0, ds0, p0, q0, hargs, rfl, rfl, h0, r0⟩ := trodAll_cons hA'
  obtain ⟨v1, vs1, d1, ds1, p1, q1, rfl, rfl, rfl, h1, r1⟩ := trodAll_cons r0
  obtain ⟨rfl, rfl, rfl⟩ := trodAll_nil r1
  obtain ⟨rfl, rfl⟩ := trodVars_none hV
  have hat : ∀ j, args[j]? = [v0, v1][j]? := fun j => by rw [← hargs, Array.getElem?_toList]
  have hpt : ∀ j, Tryd.f6.params[j]? = ([25, 37] : List Nat)[j]? := fun j => by rw [← hp, Array.getElem?_toList]
  obtain ⟨b0, g0, k0⟩ := arg_agg (n := 8) (ls := ETy.lfs .unit) (by kernel_rfl) (by kernel_rfl) h0
  obtain ⟨x0, rfl⟩ := lfs_den (by simp) g0
  obtain ⟨b1, g1_0, k1⟩ := arg_agg (n := 8) (ls := [.i .i64, .sl .way, .sl .front]) (by kernel_rfl) (by kernel_rfl) h1
  obtain ⟨_, _, rfl, ⟨x1_0, rfl, w1_0⟩, g1_1⟩ := lfp_cons g1_0
  obtain ⟨_, _, rfl, ⟨x1_1, rfl⟩, g1_2⟩ := lfp_cons g1_1
  obtain ⟨_, _, rfl, ⟨x1_2, rfl⟩, g1_3⟩ := lfp_cons g1_2
  obtain rfl := lfp_nil g1_3
  have hr : RepL W (okW W) γn [.agg (ETy.cells .unit x0), .agg [.i .i64 x1_0, .sl .way x1_1, .sl .front x1_2]] args.toList := by
    rw [hargs]
    exact .cons k0 (.cons k1 (.nil))
  have hc := (s6 _ (.b true) rfl).1 W (okW W) args.toList (fun β h => h) (gl_laid hL) hr
  refine hc.mono fun e W' ⟨v, he, bel, hv⟩ => ?_
  cases hv
  subst he
  exact ⟨_, rfl, _, _, _, [], _, [], hW', trodAll_mk1 (shut_bool u4 _), back_all bel hA (by rw [hp]; kernel_rfl), rfl, bel.frame _, fun h => by cases h⟩
theorem unitHome_said : Rows.UnitHomeSaid :=
  OpenClaim.holds_of_wide 6 Tryd.f6 rfl rfl rfl rfl rfl rfl rfl ⟨rfl, rfl, rfl, rfl, rfl⟩ rfl rfl rfl rfl rfl (by kernel_rfl) fn6.at_ (by kernel_rfl)
    (of_decide_eq_true (by kernel_rfl)) (by unfold Func.isWrapper; first | (rw [if_pos (by decide +kernel)]; kernel_rfl) | (rw [if_neg (by decide +kernel)]; exact ⟨rfl, rfl⟩))
    (fun os started H enc _ => lifted6 os started H enc)
end Go.Proofs.YtnbcmgdogohenaaDoor.Ev
namespace Go.Proofs.YtnbcmgdogohenaaDoor
open Go
/-- The tied card. -/
theorem unitHome_holds : Rows.UnitHomeCardSaid :=
  Claim7.holds_tied_plain_at .later [] [.data] true (true, "5e6a4818e8d7d888c3f25250f92ae55eb703b4b72e8a58f1ef1b7c08c030986b") false
    Ev.unitHome_said (fun _ h => by cases h) (by kernel_rfl) (fun _ h => by cases h) unitHome_row_tie rfl ⟨rfl, rfl⟩ (by kernel_rfl) rfl
    (fun f fn hf hfn => by
      obtain rfl : f = 6 := Option.some.inj ((show Tryd.prog.funcNamed "cresset/cressetlaw09.UnitHome" = some 6 by kernel_rfl).symm.trans hf) |>.symm
      obtain rfl : fn = Tryd.f6 := (Option.some.inj (Ev.fn6.at_.symm.trans hfn)).symm
      exact ⟨by kernel_rfl, fun j t ht => by
        have hp : Tryd.f6.params = #[25, 37] := by kernel_rfl
        rw [hp] at ht
        have hm : t ∈ [25, 37] := by simpa using Array.mem_of_getElem? ht
        have hall : (([25, 37] : List Nat).all fun u => !Tryd.prog.wantsStandIn u) = true := by kernel_rfl
        exact (show Tryd.prog.wantsStandIn t = false by simpa using List.all_eq_true.1 hall t hm)⟩)
    (by kernel_rfl)
#print axioms unitHome_holds
end Go.Proofs.YtnbcmgdogohenaaDoor
