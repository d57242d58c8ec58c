/- The statement about UnitBoxes: for every input the call returns true, and each argument reads as before; and its card. The reading of the arguments, the summary of the law, and the tie. -/
import Derived.Test.YtnbcmgdogohenaaDoorLr
import Derived.Test.YtnbcmgdogohenaaDoorTie
import Derived.Test.YtnbcmgdogohenaaDoorCards
import Derived.SevenTiedAt
set_option linter.unusedVariables false
set_option linter.unusedSimpArgs false
set_option maxRecDepth 100000
namespace Go.Proofs.YtnbcmgdogohenaaDoor.Ev
open Go Go.RowKit Go.Proofs Go.ChangeShapes Go.WideShapes Go.ChangeAt Go.WideMaps Go.WideElems

theorem lifted8 (os : Os) (started : os.Started) (H : Type) (enc : TypeId × Value → H) :
    ReturnsInHanded {} Tryd.checked os 8 .any (fun w args => (Rows.unitBoxesSpec.pre enc Tryd.prog Tryd.f8 [] false w args ∧ laidMetH Tryd.prog laid1 w) ∧ sizedMet enc Tryd.prog Tryd.f8 (OpenSpec.ofChange Rows.unitBoxesSpec) false w args)
      (Rows.unitBoxesSpec.post enc Tryd.prog Tryd.f8 false true false false) := by
  refine returnsInHanded_of_change_and (C := Tryd.checked) (X := fun w _ => laidMetH Tryd.prog laid1 w) (fun _ _ _ hh h => h.of_heap hh) own started (by kernel_rfl) fn8.at_
    (ChangeSpec.witness_shaped (enc := enc) (C := Tryd.checked) (os := os) (X := fun w _ => laidMetH Tryd.prog laid1 w) false (World.doorLaid Tryd.prog 400 os) #[.agg #[.string ByteArray.empty, .int .i64 0, .int .i64 0, .int .i64 0, .int .i64 0, .int .i64 0, .int .i64 0, .int .i64 0, .int .i64 0, .int .i64 0, .int .i64 0, .int .i64 0], .slice none 0 0, .int .i64 0] 8 rfl (World.shaped_of_RefB (by kernel_rfl) (by kernel_rfl)) (by kernel_rfl) (by kernel_rfl) (by kernel_rfl) (door_met os _)) ?_
  intro W base args ds gs before hval0 hW _ _ hL _
  have hW' := hW
  obtain ⟨p, q, hA0, hV, rfl, hfz, hnd⟩ := hW
  have hA : DataW.TrodAll enc Tryd.prog W 0 (fun _ => true) true Tryd.f8.params.toList args.toList ds p := hA0
  have hp : Tryd.f8.params.toList = [25, 39, 3] := by kernel_rfl
  have hval : ∀ (j : Nat) t v, Tryd.f8.params[j]? = some t → args[j]? = some v → Value.okWide Tryd.prog W .any base t v := hval0
  clear hA0 hval0
  have hA' := hA
  rw [hp] at hA'
  obtain ⟨v0, vs0, d0, ds0, p0, q0, hargs, rfl, rfl, h0, r0⟩ := trodAll_cons hA'
  obtain ⟨v1, vs1, d1, ds1, p1, q1, rfl, rfl, rfl, h1, r1⟩ := trodAll_cons r0
  obtain ⟨v2, vs2, d2, ds2, p2, q2, rfl, rfl, rfl, h2, r2⟩ := trodAll_cons r1
  obtain ⟨rfl, rfl, rfl⟩ := trodAll_nil r2
  obtain ⟨rfl, rfl⟩ := trodVars_none hV
  have hat : ∀ j, args[j]? = [v0, v1, v2][j]? := fun j => by rw [← hargs, Array.getElem?_toList]
  have hpt : ∀ j, Tryd.f8.params[j]? = ([25, 39, 3] : List Nat)[j]? := fun j => by rw [← hp, Array.getElem?_toList]
  obtain ⟨b0, g0, k0⟩ := arg_agg (n := 8) (ls := ETy.lfs .unit) (by kernel_rfl) (by kernel_rfl) h0
  obtain ⟨x0, rfl⟩ := lfs_den (by simp) g0
  obtain ⟨a1, len1, cap1, e1⟩ := okWide_slice (e := 49) (show Tryd.prog.underlying 39 = some (.slice 49) by kernel_rfl) (hval 1 39 v1 (hpt 1) (hat 1))
  obtain ⟨x1, k1⟩ := arg_sl (n := 8) (T := .leg) e1 (by kernel_rfl) h1
  obtain ⟨x2, e2, _, _, _⟩ := open_int u3 (hval 2 3 v2 (hpt 2) (hat 2)) h2
  have k2 : Rep W (okW W) γn (.i .i64 x2) v2 := e2 ▸ .i .i64 x2
  have hr : RepL W (okW W) γn [.agg (ETy.cells .unit x0), .sl .leg x1, .i .i64 x2] args.toList := by
    rw [hargs]
    exact .cons k0 (.cons k1 (.cons k2 (.nil)))
  have hc := (s8 _ (.b true) rfl).1 W (okW W) args.toList (fun β h => h) (gl_laid hL) hr
  refine hc.mono fun e W' ⟨v, he, bel, hv⟩ => ?_
  cases hv
  subst he
  exact ⟨_, rfl, _, _, _, [], _, [], hW', trodAll_mk1 (shut_bool u4 _), back_all bel hA (by rw [hp]; kernel_rfl), rfl, bel.frame _, fun h => by cases h⟩
theorem unitBoxes_said : Rows.UnitBoxesSaid :=
  OpenClaim.holds_of_wide 8 Tryd.f8 rfl rfl rfl rfl rfl rfl rfl ⟨rfl, rfl, rfl, rfl, rfl⟩ rfl rfl rfl rfl rfl (by kernel_rfl) fn8.at_ (by kernel_rfl)
    (of_decide_eq_true (by kernel_rfl)) (by unfold Func.isWrapper; first | (rw [if_pos (by decide +kernel)]; kernel_rfl) | (rw [if_neg (by decide +kernel)]; exact ⟨rfl, rfl⟩))
    (fun os started H enc _ => lifted8 os started H enc)
end Go.Proofs.YtnbcmgdogohenaaDoor.Ev
namespace Go.Proofs.YtnbcmgdogohenaaDoor
open Go
/-- The tied card. -/
theorem unitBoxes_holds : Rows.UnitBoxesCardSaid :=
  Claim7.holds_tied_plain_at .later [] [.data] true (true, "5e6a4818e8d7d888c3f25250f92ae55eb703b4b72e8a58f1ef1b7c08c030986b") false
    Ev.unitBoxes_said (fun _ h => by cases h) (by kernel_rfl) (fun _ h => by cases h) unitBoxes_row_tie rfl ⟨rfl, rfl⟩ (by kernel_rfl) rfl
    (fun f fn hf hfn => by
      obtain rfl : f = 8 := Option.some.inj ((show Tryd.prog.funcNamed "cresset/cressetlaw09.UnitBoxes" = some 8 by kernel_rfl).symm.trans hf) |>.symm
      obtain rfl : fn = Tryd.f8 := (Option.some.inj (Ev.fn8.at_.symm.trans hfn)).symm
      exact ⟨by kernel_rfl, fun j t ht => by
        have hp : Tryd.f8.params = #[25, 39, 3] := by kernel_rfl
        rw [hp] at ht
        have hm : t ∈ [25, 39, 3] := by simpa using Array.mem_of_getElem? ht
        have hall : (([25, 39, 3] : List Nat).all fun u => !Tryd.prog.wantsStandIn u) = true := by kernel_rfl
        exact (show Tryd.prog.wantsStandIn t = false by simpa using List.all_eq_true.1 hall t hm)⟩)
    (by kernel_rfl)
#print axioms unitBoxes_holds
end Go.Proofs.YtnbcmgdogohenaaDoor
