/- The statement about IncidentCompares: for every input the call returns true, and each argument reads as before. The reading of the arguments, the summary of the law, and the row. -/
import Derived.Test.YtklgaodfakdjpaaLr
import Derived.Test.YtklgaodfakdjpaaLc
set_option linter.unusedVariables false
set_option linter.unusedSimpArgs false
set_option maxRecDepth 100000
namespace Go.Proofs.Ytklgaodfakdjpaa.Ev
open Go Go.RowKit Go.Proofs Go.ChangeShapes Go.WideShapes Go.ChangeAt Go.WideMaps Go.WideElems

theorem lifted5 (os : Os) (started : os.Started) (H : Type) (enc : TypeId × Value → H) :
    ReturnsInHanded {} Try.checked os 5 .any (Rows.incidentComparesSpec.pre6 enc Try.prog Try.f5 Rows.incidentComparesRow.domain false)
      (Rows.incidentComparesSpec.post enc Try.prog Try.f5 false true false false) := by
  refine returnsInHanded_of_change_sized (C := Try.checked) own started (by kernel_rfl) fn5.at_
    (ChangeSpec.witness6 (enc := enc) (C := Try.checked) false ⟨#[], #[.agg #[.int .i64 0, .int .i64 0, .string ByteArray.empty, .string ByteArray.empty, .slice none 0 0, .int .i64 0, .int .i64 0], .agg #[.int .i64 0, .int .i64 0, .string ByteArray.empty, .string ByteArray.empty, .slice none 0 0, .int .i64 0, .int .i64 0], .int .i64 0, .int .i64 0], []⟩ 8 (by kernel_rfl) (by kernel_rfl) (by kernel_rfl) (by kernel_rfl)) ?_
  intro W base args ds gs before hval0 hW _ _ _
  have hW' := hW
  obtain ⟨p, q, hA0, hV, rfl, hfz, hnd⟩ := hW
  have hA : DataW.TrodAll enc Try.prog W 0 (fun _ => true) true Try.f5.params.toList args.toList ds p := hA0
  have hp : Try.f5.params.toList = [40, 40, 3, 3] := by kernel_rfl
  have hval : ∀ (j : Nat) t v, Try.f5.params[j]? = some t → args[j]? = some v → Value.okWide Try.prog W .any base t v := hval0
  clear hA0 hval0
  have hA' := hA
  rw [hp] at hA'
  obtain ⟨v0, vs0, d0, ds0, p0, q0, hargs, rfl, rfl, h0, r0⟩ := trodAll_cons hA'
  obtain ⟨v1, vs1, d1, ds1, p1, q1, rfl, rfl, rfl, h1, r1⟩ := trodAll_cons r0
  obtain ⟨v2, vs2, d2, ds2, p2, q2, rfl, rfl, rfl, h2, r2⟩ := trodAll_cons r1
  obtain ⟨v3, vs3, d3, ds3, p3, q3, rfl, rfl, rfl, h3, r3⟩ := trodAll_cons r2
  obtain ⟨rfl, rfl, rfl⟩ := trodAll_nil r3
  obtain ⟨rfl, rfl⟩ := trodVars_none hV
  have hat : ∀ j, args[j]? = [v0, v1, v2, v3][j]? := fun j => by rw [← hargs, Array.getElem?_toList]
  have hpt : ∀ j, Try.f5.params[j]? = ([40, 40, 3, 3] : List Nat)[j]? := fun j => by rw [← hp, Array.getElem?_toList]
  obtain ⟨b0, g0, k0⟩ := arg_agg (n := 8) (ls := ETy.lfs .report) (by kernel_rfl) (by kernel_rfl) h0
  obtain ⟨x0, rfl⟩ := lfs_den (by simp) g0
  obtain ⟨b1, g1, k1⟩ := arg_agg (n := 8) (ls := ETy.lfs .report) (by kernel_rfl) (by kernel_rfl) h1
  obtain ⟨x1, rfl⟩ := lfs_den (by simp) g1
  obtain ⟨x2, e2, _, _, _⟩ := open_int u3 (hval 2 3 v2 (hpt 2) (hat 2)) h2
  have k2 : Rep W (okW W) γn (.i .i64 x2) v2 := e2 ▸ .i .i64 x2
  obtain ⟨x3, e3, _, _, _⟩ := open_int u3 (hval 3 3 v3 (hpt 3) (hat 3)) h3
  have k3 : Rep W (okW W) γn (.i .i64 x3) v3 := e3 ▸ .i .i64 x3
  have hr : RepL W (okW W) γn [.agg (ETy.cells .report x0), .agg (ETy.cells .report x1), .i .i64 x2, .i .i64 x3] args.toList := by
    rw [hargs]
    exact .cons k0 (.cons k1 (.cons k2 (.cons k3 (.nil))))
  have hc := (s5 (gl := glI) _ (.b true) rfl).1 W (okW W) args.toList (fun β h => h) (fun n h => absurd rfl h) hr
  refine hc.mono fun e W' ⟨v, he, bel, hv⟩ => ?_
  cases hv
  subst he
  exact ⟨_, rfl, _, _, _, [], _, [], hW', trodAll_mk1 (shut_bool u4 _), back_all bel hA (by rw [hp]; kernel_rfl), rfl, bel.frame _, fun h => by cases h⟩
theorem incidentCompares_said : Rows.IncidentComparesSaid :=
  OpenClaim.holds_of_wide 5 Try.f5 rfl rfl rfl rfl rfl rfl rfl ⟨rfl, rfl, rfl, rfl, rfl⟩ rfl rfl rfl rfl rfl (by kernel_rfl) fn5.at_ (by kernel_rfl)
    (of_decide_eq_true (by kernel_rfl)) (by unfold Func.isWrapper; first | (rw [if_pos (by decide +kernel)]; kernel_rfl) | (rw [if_neg (by decide +kernel)]; exact ⟨rfl, rfl⟩))
    (fun os started H enc _ => lifted5 os started H enc)
end Go.Proofs.Ytklgaodfakdjpaa.Ev
namespace Go.Proofs.Ytklgaodfakdjpaa
open Go
theorem incidentCompares_holds : Rows.IncidentComparesSaid := Ev.incidentCompares_said
#print axioms incidentCompares_holds
end Go.Proofs.Ytklgaodfakdjpaa
