/- The statement about UnitApart: for every input the call returns true, and each argument reads as before; and its card. The reading of the arguments, the summary of the law, and the tie. -/
import Derived.Test.YtnbcmgdogohenaaDoorLr
import Derived.Test.YtnbcmgdogohenaaDoorLi
import Derived.Test.YtnbcmgdogohenaaDoorTie
import Derived.Test.YtnbcmgdogohenaaDoorCards
import Derived.SevenTiedAt
set_option linter.unusedVariables false
set_option linter.unusedSimpArgs false
set_option maxRecDepth 100000
namespace Go.Proofs.YtnbcmgdogohenaaDoor.Ev
open Go Go.RowKit Go.Proofs Go.ChangeShapes Go.WideShapes Go.ChangeAt Go.WideMaps Go.WideElems

theorem lifted9 (os : Os) (started : os.Started) (H : Type) (enc : TypeId × Value → H) :
    ReturnsInHanded {} Tryd.checked os 9 .any (fun w args => (Rows.unitApartSpec.pre enc Tryd.prog Tryd.f9 [] false w args ∧ laidMetH Tryd.prog laid1 w) ∧ sizedMet enc Tryd.prog Tryd.f9 (OpenSpec.ofChange Rows.unitApartSpec) false w args)
      (Rows.unitApartSpec.post enc Tryd.prog Tryd.f9 false true false false) := by
  refine returnsInHanded_of_change_and (C := Tryd.checked) (X := fun w _ => laidMetH Tryd.prog laid1 w) (fun _ _ _ hh h => h.of_heap hh) own started (by kernel_rfl) fn9.at_
    (ChangeSpec.witness_shaped (enc := enc) (C := Tryd.checked) (os := os) (X := fun w _ => laidMetH Tryd.prog laid1 w) false (World.doorLaid Tryd.prog 400 os) #[.agg #[.string ByteArray.empty, .int .i64 0, .int .i64 0, .int .i64 0, .int .i64 0, .int .i64 0, .int .i64 0, .int .i64 0, .int .i64 0, .int .i64 0, .int .i64 0, .int .i64 0, .slice none 0 0], .agg #[.string ByteArray.empty, .int .i64 0, .int .i64 0, .int .i64 0, .int .i64 0, .int .i64 0, .int .i64 0, .int .i64 0, .int .i64 0, .int .i64 0, .int .i64 0, .int .i64 0, .slice none 0 0], .agg #[.int .u8 0, .int .u8 0], .slice none 0 0] 8 rfl (World.shaped_of_RefB (by kernel_rfl) (by kernel_rfl)) (by kernel_rfl) (by kernel_rfl) (by kernel_rfl) (door_met os _)) ?_
  intro W base args ds gs before hval0 hW _ _ hL _
  have hW' := hW
  obtain ⟨p, q, hA0, hV, rfl, hfz, hnd⟩ := hW
  have hA : DataW.TrodAll enc Tryd.prog W 0 (fun _ => true) true Tryd.f9.params.toList args.toList ds p := hA0
  have hp : Tryd.f9.params.toList = [62, 62, 63, 64] := by kernel_rfl
  have hval : ∀ (j : Nat) t v, Tryd.f9.params[j]? = some t → args[j]? = some v → Value.okWide Tryd.prog W .any base t v := hval0
  clear hA0 hval0
  have hA' := hA
  rw [hp] at hA'
  obtain ⟨v0, vs0, d0, ds0, p0, q0, hargs, rfl, rfl, h0, r0⟩ := trodAll_cons hA'
  obtain ⟨v1, vs1, d1, ds1, p1, q1, rfl, rfl, rfl, h1, r1⟩ := trodAll_cons r0
  obtain ⟨v2, vs2, d2, ds2, p2, q2, rfl, rfl, rfl, h2, r2⟩ := trodAll_cons r1
  obtain ⟨v3, vs3, d3, ds3, p3, q3, rfl, rfl, rfl, h3, r3⟩ := trodAll_cons r2
  obtain ⟨rfl, rfl, rfl⟩ := trodAll_nil r3
  obtain ⟨rfl, rfl⟩ := trodVars_none hV
  have hat : ∀ j, args[j]? = [v0, v1, v2, v3][j]? := fun j => by rw [← hargs, Array.getElem?_toList]
  have hpt : ∀ j, Tryd.f9.params[j]? = ([62, 62, 63, 64] : List Nat)[j]? := fun j => by rw [← hp, Array.getElem?_toList]
  obtain ⟨b0, g0_0, k0⟩ := arg_agg (n := 8) (ls := [.s, .i .i64, .i .i64, .i .i64, .i .i64, .i .i64, .i .i64, .i .i64, .i .i64, .i .i64, .i .i64, .i .i64, .sl .leg]) (by kernel_rfl) (by kernel_rfl) h0
  obtain ⟨_, _, rfl, ⟨x0_0, rfl⟩, g0_1⟩ := lfp_cons g0_0
  obtain ⟨_, _, rfl, ⟨x0_1, rfl, w0_1⟩, g0_2⟩ := lfp_cons g0_1
  obtain ⟨_, _, rfl, ⟨x0_2, rfl, w0_2⟩, g0_3⟩ := lfp_cons g0_2
  obtain ⟨_, _, rfl, ⟨x0_3, rfl, w0_3⟩, g0_4⟩ := lfp_cons g0_3
  obtain ⟨_, _, rfl, ⟨x0_4, rfl, w0_4⟩, g0_5⟩ := lfp_cons g0_4
  obtain ⟨_, _, rfl, ⟨x0_5, rfl, w0_5⟩, g0_6⟩ := lfp_cons g0_5
  obtain ⟨_, _, rfl, ⟨x0_6, rfl, w0_6⟩, g0_7⟩ := lfp_cons g0_6
  obtain ⟨_, _, rfl, ⟨x0_7, rfl, w0_7⟩, g0_8⟩ := lfp_cons g0_7
  obtain ⟨_, _, rfl, ⟨x0_8, rfl, w0_8⟩, g0_9⟩ := lfp_cons g0_8
  obtain ⟨_, _, rfl, ⟨x0_9, rfl, w0_9⟩, g0_10⟩ := lfp_cons g0_9
  obtain ⟨_, _, rfl, ⟨x0_10, rfl, w0_10⟩, g0_11⟩ := lfp_cons g0_10
  obtain ⟨_, _, rfl, ⟨x0_11, rfl, w0_11⟩, g0_12⟩ := lfp_cons g0_11
  obtain ⟨_, _, rfl, ⟨x0_12, rfl⟩, g0_13⟩ := lfp_cons g0_12
  obtain rfl := lfp_nil g0_13
  obtain ⟨b1, g1_0, k1⟩ := arg_agg (n := 8) (ls := [.s, .i .i64, .i .i64, .i .i64, .i .i64, .i .i64, .i .i64, .i .i64, .i .i64, .i .i64, .i .i64, .i .i64, .sl .leg]) (by kernel_rfl) (by kernel_rfl) h1
  obtain ⟨_, _, rfl, ⟨x1_0, rfl⟩, g1_1⟩ := lfp_cons g1_0
  obtain ⟨_, _, rfl, ⟨x1_1, rfl, w1_1⟩, g1_2⟩ := lfp_cons g1_1
  obtain ⟨_, _, rfl, ⟨x1_2, rfl, w1_2⟩, g1_3⟩ := lfp_cons g1_2
  obtain ⟨_, _, rfl, ⟨x1_3, rfl, w1_3⟩, g1_4⟩ := lfp_cons g1_3
  obtain ⟨_, _, rfl, ⟨x1_4, rfl, w1_4⟩, g1_5⟩ := lfp_cons g1_4
  obtain ⟨_, _, rfl, ⟨x1_5, rfl, w1_5⟩, g1_6⟩ := lfp_cons g1_5
  obtain ⟨_, _, rfl, ⟨x1_6, rfl, w1_6⟩, g1_7⟩ := lfp_cons g1_6
  obtain ⟨_, _, rfl, ⟨x1_7, rfl, w1_7⟩, g1_8⟩ := lfp_cons g1_7
  obtain ⟨_, _, rfl, ⟨x1_8, rfl, w1_8⟩, g1_9⟩ := lfp_cons g1_8
  obtain ⟨_, _, rfl, ⟨x1_9, rfl, w1_9⟩, g1_10⟩ := lfp_cons g1_9
  obtain ⟨_, _, rfl, ⟨x1_10, rfl, w1_10⟩, g1_11⟩ := lfp_cons g1_10
  obtain ⟨_, _, rfl, ⟨x1_11, rfl, w1_11⟩, g1_12⟩ := lfp_cons g1_11
  obtain ⟨_, _, rfl, ⟨x1_12, rfl⟩, g1_13⟩ := lfp_cons g1_12
  obtain rfl := lfp_nil g1_13
  obtain ⟨b2, g2_0, k2⟩ := arg_agg (n := 8) (ls := [.i .u8, .i .u8]) (by kernel_rfl) (by kernel_rfl) h2
  obtain ⟨_, _, rfl, ⟨x2_0, rfl, w2_0⟩, g2_1⟩ := lfp_cons g2_0
  obtain ⟨_, _, rfl, ⟨x2_1, rfl, w2_1⟩, g2_2⟩ := lfp_cons g2_1
  obtain rfl := lfp_nil g2_2
  obtain ⟨a3, len3, cap3, e3⟩ := okWide_slice (e := 3) (show Tryd.prog.underlying 64 = some (.slice 3) by kernel_rfl) (hval 3 64 v3 (hpt 3) (hat 3))
  obtain ⟨x3, k3⟩ := arg_sl (n := 8) (T := .int) e3 (by kernel_rfl) h3
  have hr : RepL W (okW W) γn [.agg [.s x0_0, .i .i64 x0_1, .i .i64 x0_2, .i .i64 x0_3, .i .i64 x0_4, .i .i64 x0_5, .i .i64 x0_6, .i .i64 x0_7, .i .i64 x0_8, .i .i64 x0_9, .i .i64 x0_10, .i .i64 x0_11, .sl .leg x0_12], .agg [.s x1_0, .i .i64 x1_1, .i .i64 x1_2, .i .i64 x1_3, .i .i64 x1_4, .i .i64 x1_5, .i .i64 x1_6, .i .i64 x1_7, .i .i64 x1_8, .i .i64 x1_9, .i .i64 x1_10, .i .i64 x1_11, .sl .leg x1_12], .agg [.i .u8 x2_0, .i .u8 x2_1], .sl .int x3] args.toList := by
    rw [hargs]
    exact .cons k0 (.cons k1 (.cons k2 (.cons k3 (.nil))))
  have hc := (s9 _ (.b true) rfl).1 W (okW W) args.toList (fun β h => h) (gl_laid hL) hr
  refine hc.mono fun e W' ⟨v, he, bel, hv⟩ => ?_
  cases hv
  subst he
  exact ⟨_, rfl, _, _, _, [], _, [], hW', trodAll_mk1 (shut_bool u4 _), back_all bel hA (by rw [hp]; kernel_rfl), rfl, bel.frame _, fun h => by cases h⟩
theorem unitApart_said : Rows.UnitApartSaid :=
  OpenClaim.holds_of_wide 9 Tryd.f9 rfl rfl rfl rfl rfl rfl rfl ⟨rfl, rfl, rfl, rfl, rfl⟩ rfl rfl rfl rfl rfl (by kernel_rfl) fn9.at_ (by kernel_rfl)
    (of_decide_eq_true (by kernel_rfl)) (by unfold Func.isWrapper; first | (rw [if_pos (by decide +kernel)]; kernel_rfl) | (rw [if_neg (by decide +kernel)]; exact ⟨rfl, rfl⟩))
    (fun os started H enc _ => lifted9 os started H enc)
end Go.Proofs.YtnbcmgdogohenaaDoor.Ev
namespace Go.Proofs.YtnbcmgdogohenaaDoor
open Go
/-- The tied card. -/
theorem unitApart_holds : Rows.UnitApartCardSaid :=
  Claim7.holds_tied_plain_at .later [] [.data] true (true, "5e6a4818e8d7d888c3f25250f92ae55eb703b4b72e8a58f1ef1b7c08c030986b") false
    Ev.unitApart_said (fun _ h => by cases h) (by kernel_rfl) (fun _ h => by cases h) unitApart_row_tie rfl ⟨rfl, rfl⟩ (by kernel_rfl) rfl
    (fun f fn hf hfn => by
      obtain rfl : f = 9 := Option.some.inj ((show Tryd.prog.funcNamed "cresset/cressetlaw09.UnitApart" = some 9 by kernel_rfl).symm.trans hf) |>.symm
      obtain rfl : fn = Tryd.f9 := (Option.some.inj (Ev.fn9.at_.symm.trans hfn)).symm
      exact ⟨by kernel_rfl, fun j t ht => by
        have hp : Tryd.f9.params = #[62, 62, 63, 64] := by kernel_rfl
        rw [hp] at ht
        have hm : t ∈ [62, 62, 63, 64] := by simpa using Array.mem_of_getElem? ht
        have hall : (([62, 62, 63, 64] : List Nat).all fun u => !Tryd.prog.wantsStandIn u) = true := by kernel_rfl
        exact (show Tryd.prog.wantsStandIn t = false by simpa using List.all_eq_true.1 hall t hm)⟩)
    (by kernel_rfl)
#print axioms unitApart_holds
end Go.Proofs.YtnbcmgdogohenaaDoor
