/- The statement about UnitGoesOn: for every input the call returns true, and each argument reads as before; and its card. The reading of the arguments, the summary of the law, and the tie. -/
import Derived.Test.YtnbcmgdogohenaaDoorLr
import Derived.Test.YtnbcmgdogohenaaDoorLh
import Derived.Test.YtnbcmgdogohenaaDoorTie
import Derived.Test.YtnbcmgdogohenaaDoorCards
import Derived.SevenTiedAt
set_option linter.unusedVariables false
set_option linter.unusedSimpArgs false
set_option maxRecDepth 100000
namespace Go.Proofs.YtnbcmgdogohenaaDoor.Ev
open Go Go.RowKit Go.Proofs Go.ChangeShapes Go.WideShapes Go.ChangeAt Go.WideMaps Go.WideElems
theorem wf_u8 {n : Int} (h : (Lit.int .u8 n).wf = true) : 0 ≤ n ∧ n < 256 := by
  unfold Lit.wf at h
  rw [Bool.and_eq_true, decide_eq_true_eq, decide_eq_true_eq] at h
  have h1 : (0 : Int) ≤ n := h.1
  have h2 : n ≤ 255 := h.2
  omega

theorem lifted11 (os : Os) (started : os.Started) (H : Type) (enc : TypeId × Value → H) :
    ReturnsInHanded {} Tryd.checked os 11 .any (fun w args => (Rows.unitGoesOnSpec.pre enc Tryd.prog Tryd.f11 [] false w args ∧ laidMetH Tryd.prog laid1 w) ∧ sizedMet enc Tryd.prog Tryd.f11 (OpenSpec.ofChange Rows.unitGoesOnSpec) false w args)
      (Rows.unitGoesOnSpec.post enc Tryd.prog Tryd.f11 false true false false) := by
  refine returnsInHanded_of_change_and (C := Tryd.checked) (X := fun w _ => laidMetH Tryd.prog laid1 w) (fun _ _ _ hh h => h.of_heap hh) own started (by kernel_rfl) fn11.at_
    (ChangeSpec.witness_shaped (enc := enc) (C := Tryd.checked) (os := os) (X := fun w _ => laidMetH Tryd.prog laid1 w) false (World.doorLaid Tryd.prog 400 os) #[.agg #[.string ByteArray.empty, .int .i64 0, .int .i64 0, .int .i64 0, .int .i64 0, .int .i64 0, .int .i64 0, .int .i64 0, .int .i64 0, .int .i64 0, .int .i64 0, .int .i64 0], .agg #[.int .i64 0, .slice none 0 0, .slice none 0 0], .int .u8 0, .agg #[.int .i64 0, .int .i64 0]] 8 rfl (World.shaped_of_RefB (by kernel_rfl) (by kernel_rfl)) (by kernel_rfl) (by kernel_rfl) (by kernel_rfl) (door_met os _)) ?_
  intro W base args ds gs before hval0 hW _ _ hL _
  have hW' := hW
  obtain ⟨p, q, hA0, hV, rfl, hfz, hnd⟩ := hW
  have hA : DataW.TrodAll enc Tryd.prog W 0 (fun _ => true) true Tryd.f11.params.toList args.toList ds p := hA0
  have hp : Tryd.f11.params.toList = [25, 37, 5, 72] := by kernel_rfl
  have hval : ∀ (j : Nat) t v, Tryd.f11.params[j]? = some t → args[j]? = some v → Value.okWide Tryd.prog W .any base t v := hval0
  clear hA0 hval0
  have hA' := hA
  rw [hp] at hA'
  obtain ⟨v0, vs0, d0, ds0, p0, q0, hargs, rfl, rfl, h0, r0⟩ := trodAll_cons hA'
  obtain ⟨v1, vs1, d1, ds1, p1, q1, rfl, rfl, rfl, h1, r1⟩ := trodAll_cons r0
  obtain ⟨v2, vs2, d2, ds2, p2, q2, rfl, rfl, rfl, h2, r2⟩ := trodAll_cons r1
  obtain ⟨v3, vs3, d3, ds3, p3, q3, rfl, rfl, rfl, h3, r3⟩ := trodAll_cons r2
  obtain ⟨rfl, rfl, rfl⟩ := trodAll_nil r3
  obtain ⟨rfl, rfl⟩ := trodVars_none hV
  have hat : ∀ j, args[j]? = [v0, v1, v2, v3][j]? := fun j => by rw [← hargs, Array.getElem?_toList]
  have hpt : ∀ j, Tryd.f11.params[j]? = ([25, 37, 5, 72] : List Nat)[j]? := fun j => by rw [← hp, Array.getElem?_toList]
  obtain ⟨b0, g0, k0⟩ := arg_agg (n := 8) (ls := ETy.lfs .unit) (by kernel_rfl) (by kernel_rfl) h0
  obtain ⟨x0, rfl⟩ := lfs_den (by simp) g0
  obtain ⟨b1, g1_0, k1⟩ := arg_agg (n := 8) (ls := [.i .i64, .sl .way, .sl .front]) (by kernel_rfl) (by kernel_rfl) h1
  obtain ⟨_, _, rfl, ⟨x1_0, rfl, w1_0⟩, g1_1⟩ := lfp_cons g1_0
  obtain ⟨_, _, rfl, ⟨x1_1, rfl⟩, g1_2⟩ := lfp_cons g1_1
  obtain ⟨_, _, rfl, ⟨x1_2, rfl⟩, g1_3⟩ := lfp_cons g1_2
  obtain rfl := lfp_nil g1_3
  obtain ⟨x2, e2, _, _, w2⟩ := open_int (show Tryd.prog.underlying 5 = some (.int .u8) by kernel_rfl) (hval 2 5 v2 (hpt 2) (hat 2)) h2
  have k2 : Rep W (okW W) γn (.i .u8 x2) v2 := e2 ▸ .i .u8 x2
  obtain ⟨b3, g3_0, k3⟩ := arg_agg (n := 8) (ls := [.i .i64, .i .i64]) (by kernel_rfl) (by kernel_rfl) h3
  obtain ⟨_, _, rfl, ⟨x3_0, rfl, w3_0⟩, g3_1⟩ := lfp_cons g3_0
  obtain ⟨_, _, rfl, ⟨x3_1, rfl, w3_1⟩, g3_2⟩ := lfp_cons g3_1
  obtain rfl := lfp_nil g3_2
  have hr : RepL W (okW W) γn [.agg (ETy.cells .unit x0), .agg [.i .i64 x1_0, .sl .way x1_1, .sl .front x1_2], .i .u8 x2, .agg [.i .i64 x3_0, .i .i64 x3_1]] args.toList := by
    rw [hargs]
    exact .cons k0 (.cons k1 (.cons k2 (.cons k3 (.nil))))
  have hc := (s11 _ (.b true) (by have hw := wf_u8 w2; show some (decide (0 ≤ x2) && decide (x2 < 256), PV.b true) = _; rw [decide_eq_true hw.1, decide_eq_true hw.2]; rfl)).1 W (okW W) args.toList (fun β h => h) (gl_laid hL) hr
  refine hc.mono fun e W' ⟨v, he, bel, hv⟩ => ?_
  cases hv
  subst he
  exact ⟨_, rfl, _, _, _, [], _, [], hW', trodAll_mk1 (shut_bool u4 _), back_all bel hA (by rw [hp]; kernel_rfl), rfl, bel.frame _, fun h => by cases h⟩
theorem unitGoesOn_said : Rows.UnitGoesOnSaid :=
  OpenClaim.holds_of_wide 11 Tryd.f11 rfl rfl rfl rfl rfl rfl rfl ⟨rfl, rfl, rfl, rfl, rfl⟩ rfl rfl rfl rfl rfl (by kernel_rfl) fn11.at_ (by kernel_rfl)
    (of_decide_eq_true (by kernel_rfl)) (by unfold Func.isWrapper; first | (rw [if_pos (by decide +kernel)]; kernel_rfl) | (rw [if_neg (by decide +kernel)]; exact ⟨rfl, rfl⟩))
    (fun os started H enc _ => lifted11 os started H enc)
end Go.Proofs.YtnbcmgdogohenaaDoor.Ev
namespace Go.Proofs.YtnbcmgdogohenaaDoor
open Go
/-- The tied card. -/
theorem unitGoesOn_holds : Rows.UnitGoesOnCardSaid :=
  Claim7.holds_tied_plain_at .later [] [.data] true (true, "5e6a4818e8d7d888c3f25250f92ae55eb703b4b72e8a58f1ef1b7c08c030986b") false
    Ev.unitGoesOn_said (fun _ h => by cases h) (by kernel_rfl) (fun _ h => by cases h) unitGoesOn_row_tie rfl ⟨rfl, rfl⟩ (by kernel_rfl) rfl
    (fun f fn hf hfn => by
      obtain rfl : f = 11 := Option.some.inj ((show Tryd.prog.funcNamed "cresset/cressetlaw09.UnitGoesOn" = some 11 by kernel_rfl).symm.trans hf) |>.symm
      obtain rfl : fn = Tryd.f11 := (Option.some.inj (Ev.fn11.at_.symm.trans hfn)).symm
      exact ⟨by kernel_rfl, fun j t ht => by
        have hp : Tryd.f11.params = #[25, 37, 5, 72] := by kernel_rfl
        rw [hp] at ht
        have hm : t ∈ [25, 37, 5, 72] := by simpa using Array.mem_of_getElem? ht
        have hall : (([25, 37, 5, 72] : List Nat).all fun u => !Tryd.prog.wantsStandIn u) = true := by kernel_rfl
        exact (show Tryd.prog.wantsStandIn t = false by simpa using List.all_eq_true.1 hall t hm)⟩)
    (by kernel_rfl)
#print axioms unitGoesOn_holds
end Go.Proofs.YtnbcmgdogohenaaDoor
