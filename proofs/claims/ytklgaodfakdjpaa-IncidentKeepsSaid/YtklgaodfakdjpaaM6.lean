/- The statement about IncidentKeeps: for every input the call returns true, and each argument reads as before. The reading of the arguments, the summary of the law, and the row. -/
import Derived.Test.YtklgaodfakdjpaaLr
import Derived.Test.YtklgaodfakdjpaaLg
set_option linter.unusedVariables false
set_option linter.unusedSimpArgs false
set_option maxRecDepth 100000
namespace Go.Proofs.Ytklgaodfakdjpaa.Ev
open Go Go.RowKit Go.Proofs Go.ChangeShapes Go.WideShapes Go.ChangeAt Go.WideMaps Go.WideElems

theorem lifted6 (os : Os) (started : os.Started) (H : Type) (enc : TypeId × Value → H) :
    ReturnsInHanded {} Try.checked os 6 .any (Rows.incidentKeepsSpec.pre6 enc Try.prog Try.f6 Rows.incidentKeepsRow.domain false)
      (Rows.incidentKeepsSpec.post enc Try.prog Try.f6 false true false false) := by
  refine returnsInHanded_of_change_sized (C := Try.checked) own started (by kernel_rfl) fn6.at_
    (ChangeSpec.witness6 (enc := enc) (C := Try.checked) false ⟨#[], #[.int .i64 0, .int .i64 0, .slice none 0 0], []⟩ 8 (by kernel_rfl) (by kernel_rfl) (by kernel_rfl) (by kernel_rfl)) ?_
  intro W base args ds gs before hval0 hW _ _ _
  have hW' := hW
  obtain ⟨p, q, hA0, hV, rfl, hfz, hnd⟩ := hW
  have hA : DataW.TrodAll enc Try.prog W 0 (fun _ => true) true Try.f6.params.toList args.toList ds p := hA0
  have hp : Try.f6.params.toList = [3, 3, 22] := by kernel_rfl
  have hval : ∀ (j : Nat) t v, Try.f6.params[j]? = some t → args[j]? = some v → Value.okWide Try.prog W .any base t v := hval0
  clear hA0 hval0
  have hA' := hA
  rw [hp] at hA'
  obtain ⟨v0, vs0, d0, ds0, p0, q0, hargs, rfl, rfl, h0, r0⟩ := trodAll_cons hA'
  obtain ⟨v1, vs1, d1, ds1, p1, q1, rfl, rfl, rfl, h1, r1⟩ := trodAll_cons r0
  obtain ⟨v2, vs2, d2, ds2, p2, q2, rfl, rfl, rfl, h2, r2⟩ := trodAll_cons r1
  obtain ⟨rfl, rfl, rfl⟩ := trodAll_nil r2
  obtain ⟨rfl, rfl⟩ := trodVars_none hV
  have hat : ∀ j, args[j]? = [v0, v1, v2][j]? := fun j => by rw [← hargs, Array.getElem?_toList]
  have hpt : ∀ j, Try.f6.params[j]? = ([3, 3, 22] : List Nat)[j]? := fun j => by rw [← hp, Array.getElem?_toList]
  obtain ⟨x0, e0, _, _, _⟩ := open_int u3 (hval 0 3 v0 (hpt 0) (hat 0)) h0
  have k0 : Rep W (okW W) γn (.i .i64 x0) v0 := e0 ▸ .i .i64 x0
  obtain ⟨x1, e1, _, _, _⟩ := open_int u3 (hval 1 3 v1 (hpt 1) (hat 1)) h1
  have k1 : Rep W (okW W) γn (.i .i64 x1) v1 := e1 ▸ .i .i64 x1
  obtain ⟨a2, len2, cap2, e2⟩ := okWide_slice (e := 44) (show Try.prog.underlying 22 = some (.slice 44) by kernel_rfl) (hval 2 22 v2 (hpt 2) (hat 2))
  obtain ⟨x2, k2⟩ := arg_sl (n := 8) (T := .act) e2 (by kernel_rfl) h2
  have hr : RepL W (okW W) γn [.i .i64 x0, .i .i64 x1, .sl .act x2] args.toList := by
    rw [hargs]
    exact .cons k0 (.cons k1 (.cons k2 (.nil)))
  have hc := (s6 (gl := glI) _ (.b true) rfl).1 W (okW W) args.toList (fun β h => h) (fun n h => absurd rfl h) hr
  refine hc.mono fun e W' ⟨v, he, bel, hv⟩ => ?_
  cases hv
  subst he
  exact ⟨_, rfl, _, _, _, [], _, [], hW', trodAll_mk1 (shut_bool u4 _), back_all bel hA (by rw [hp]; kernel_rfl), rfl, bel.frame _, fun h => by cases h⟩
theorem incidentKeeps_said : Rows.IncidentKeepsSaid :=
  OpenClaim.holds_of_wide 6 Try.f6 rfl rfl rfl rfl rfl rfl rfl ⟨rfl, rfl, rfl, rfl, rfl⟩ rfl rfl rfl rfl rfl (by kernel_rfl) fn6.at_ (by kernel_rfl)
    (of_decide_eq_true (by kernel_rfl)) (by unfold Func.isWrapper; first | (rw [if_pos (by decide +kernel)]; kernel_rfl) | (rw [if_neg (by decide +kernel)]; exact ⟨rfl, rfl⟩))
    (fun os started H enc _ => lifted6 os started H enc)
end Go.Proofs.Ytklgaodfakdjpaa.Ev
namespace Go.Proofs.Ytklgaodfakdjpaa
open Go
theorem incidentKeeps_holds : Rows.IncidentKeepsSaid := Ev.incidentKeeps_said
#print axioms incidentKeeps_holds
end Go.Proofs.Ytklgaodfakdjpaa
