/- Summaries of functions, printed by a program out of a list, and what is made of them. -/
import Derived.Test.YtnbcmgdogohenaaDoorLe
set_option linter.unusedVariables false
set_option linter.unusedSimpArgs false
set_option maxRecDepth 100000
namespace Go.Proofs.YtnbcmgdogohenaaDoor.Ev
open Go Go.RowKit Go.Proofs
theorem distE_eq (a b : Spot) : distE a b = bif placed a && placed b then 0 else 2 := by unfold distE; cases placed a <;> cases placed b <;> rfl
theorem distS_eq {a b : Spot} (ha : placed a = true) (hb : placed b = true) : distS a b = wayP (sq a b) := by unfold distS; rw [ha, hb]; rfl
theorem sq_sym {a b : Spot} (ha : placed a = true) (hb : placed b = true) : sq a b = sq b a := by
  rw [(sq_eq ha hb).1, (sq_eq hb ha).1]
  grind
theorem dist_sym (a b : Spot) : distE a b = distE b a ∧ distS a b = distS b a := by
  refine ⟨by rw [distE_eq, distE_eq, Bool.and_comm], ?_⟩
  cases ha : placed a with
  | false => unfold distS; rw [ha]; cases placed b <;> rfl
  | true =>
    cases hb : placed b with
    | false => unfold distS; rw [ha, hb]; rfl
    | true => rw [distS_eq ha hb, distS_eq hb ha, sq_sym ha hb]
theorem cauchy (a b c d : Int) : (a * a + b * b) * (c * c + d * d) = (a * c + b * d) * (a * c + b * d) + (a * d - b * c) * (a * d - b * c) := by grind
theorem sq_nn (a : Int) : 0 ≤ a * a := (sq_le (a := a) (A := a.natAbs) (by omega)).1
theorem sq_lt {a b : Int} (hb : 0 ≤ b) (h : b < a) : b * b < a * a := Int.mul_self_lt_mul_self hb h
theorem le_of_sq {a b : Int} (hb : 0 ≤ b) (h : a * a ≤ b * b) : a ≤ b := by
  rcases Int.lt_or_le b a with h1 | h1
  · have := sq_lt hb h1; omega
  · exact h1
theorem tri_sq {p q r s x y : Int} (hx : 0 ≤ x) (hy : 0 ≤ y) (h1 : p * p + q * q ≤ x * x) (h2 : r * r + s * s ≤ y * y) : (p + r) * (p + r) + (q + s) * (q + s) ≤ (x + y) * (x + y) := by
  have hxy := Int.mul_nonneg hx hy
  have a0 : 0 ≤ p * p + q * q := by have := sq_nn p; have := sq_nn q; omega
  have b0 : 0 ≤ r * r + s * s := by have := sq_nn r; have := sq_nn s; omega
  have m1 : (p * p + q * q) * (r * r + s * s) ≤ (x * x) * (y * y) := Int.mul_le_mul h1 h2 b0 (by omega)
  have m2 := cauchy p q r s
  have m3 := sq_nn (p * s - q * r)
  have m4 : (x * x) * (y * y) = (x * y) * (x * y) := by grind
  have m5 : (p * r + q * s) ≤ x * y := le_of_sq hxy (by omega)
  have e1 : (p + r) * (p + r) + (q + s) * (q + s) = (p * p + q * q) + (r * r + s * s) + 2 * (p * r + q * s) := by grind
  have e2 : (x + y) * (x + y) = x * x + y * y + 2 * (x * y) := by grind
  omega
theorem way_tri {a b c : Spot} (ha : placed a = true) (hb : placed b = true) (hc : placed c = true) : wayP (sq a c) ≤ wayP (sq a b) + wayP (sq b c) := by
  obtain ⟨e1, n1, u1⟩ := sq_eq ha hb
  obtain ⟨e2, n2, u2⟩ := sq_eq hb hc
  obtain ⟨e3, n3, u3⟩ := sq_eq ha hc
  obtain ⟨x0, x1, _⟩ := (wayP_root n1 u1).1
  obtain ⟨y0, y1, _⟩ := (wayP_root n2 u2).1
  obtain ⟨z0, _, z2⟩ := (wayP_root n3 u3).1
  have x3 : (a.x - b.x) * (a.x - b.x) + (a.y - b.y) * (a.y - b.y) ≤ wayP (sq a b) * wayP (sq a b) := by rw [← e1]; exact x1
  have y3 : (b.x - c.x) * (b.x - c.x) + (b.y - c.y) * (b.y - c.y) ≤ wayP (sq b c) * wayP (sq b c) := by rw [← e2]; exact y1
  have h := tri_sq x0 y0 x3 y3
  rw [show a.x - b.x + (b.x - c.x) = a.x - c.x by omega, show a.y - b.y + (b.y - c.y) = a.y - c.y by omega, ← e3] at h
  rcases z2 with z2 | z2
  · omega
  · have : wayP (sq a c) - 1 < wayP (sq a b) + wayP (sq b c) := by
      rcases Int.lt_or_le (wayP (sq a c) - 1) (wayP (sq a b) + wayP (sq b c)) with h1 | h1
      · exact h1
      · have := Int.mul_le_mul h1 h1 (by omega) (by omega)
        omega
    omega
theorem fn7 : FnOk 7 Tryd.f7 := ⟨by kernel_rfl, by kernel_rfl, by kernel_rfl, by kernel_rfl⟩
theorem e7 (a : Spot) (b : Spot) (c : Spot) : evFn (cx glU (mkG [(17, F17), (32, F32), (16, F16)]) [] []) noK noL Tryd.f7 [.agg [.i .i64 a.x, .i .i64 a.y], .agg [.i .i64 b.x, .i .i64 b.y], .agg [.i .i64 c.x, .i .i64 c.y]] noObjs = (match (bif ((distE a b) != (distE b a)) then true else ((distS a b) != (distS b a))) with | true => an (.b false) | false => (match (bif (bif ((distE a b) != 0) then true else ((distE b c) != 0)) then true else ((distE a c) != 0)) with | true => an (.b (bif (!(bif (bif (Place a) then (Place b) else false) then (Place c) else false)) then true else false)) | false => (match (bif (bif (bif (decide ((distS a b) < 0)) then true else (decide ((distS a b) > 67108864))) then true else (decide ((wr ((distS a b) * (distS a b))) < (wr ((wr ((wr (a.x - b.x)) * (wr (a.x - b.x)))) + (wr ((wr (a.y - b.y)) * (wr (a.y - b.y))))))))) then true else (bif (decide ((distS a b) > 0)) then (decide ((wr ((wr ((distS a b) - 1)) * (wr ((distS a b) - 1)))) ≥ (wr ((wr ((wr (a.x - b.x)) * (wr (a.x - b.x)))) + (wr ((wr (a.y - b.y)) * (wr (a.y - b.y)))))))) else false)) with | true => an (.b false) | false => an (.b (bif (decide ((distS a c) ≤ (wr ((distS a b) + (distS b c))))) then true else false))))) := by kernel_rfl
def F7 : List PV → Option (Bool × PV)
  | [.agg [.i .i64 a0, .i .i64 a1], .agg [.i .i64 b0, .i .i64 b1], .agg [.i .i64 c0, .i .i64 c1]] => some (true, .b true)
  | _ => none
theorem s7 : Sum glU 7 F7 := by
  intro ps r h
  unfold F7 at h
  split at h
  · rename_i a0 a1 b0 b1 c0 c1
    obtain ⟨hc, rfl⟩ := Prod.mk.inj (Option.some.inj h)
    refine call_by (K := noK) (L := noL) (bxs := []) (ows := []) (GOk.cons s17 (GOk.cons s32 (GOk.cons s16 (GOk.nil)))) fn7 (noLoops (by kernel_rfl)) (by kernel_rfl) (evF_some ((e7 ⟨a0, a1⟩ ⟨b0, b1⟩ ⟨c0, c1⟩).trans ?_))
    have hs := dist_sym (⟨a0, a1⟩ : Spot) ⟨b0, b1⟩
    have h1 : (bif (distE (⟨a0, a1⟩ : Spot) ⟨b0, b1⟩ != distE (⟨b0, b1⟩ : Spot) ⟨a0, a1⟩) then true else (distS (⟨a0, a1⟩ : Spot) ⟨b0, b1⟩ != distS (⟨b0, b1⟩ : Spot) ⟨a0, a1⟩)) = false := by rw [hs.1, hs.2]; simp
    rw [h1]
    have pA : Place (⟨a0, a1⟩ : Spot) = placed ⟨a0, a1⟩ := rfl
    have pB : Place (⟨b0, b1⟩ : Spot) = placed ⟨b0, b1⟩ := rfl
    have pC : Place (⟨c0, c1⟩ : Spot) = placed ⟨c0, c1⟩ := rfl
    rw [distE_eq ⟨a0, a1⟩ ⟨b0, b1⟩, distE_eq ⟨b0, b1⟩ ⟨c0, c1⟩, distE_eq ⟨a0, a1⟩ ⟨c0, c1⟩, pA, pB, pC]
    cases hA : placed (⟨a0, a1⟩ : Spot) with
    | false => cases placed (⟨b0, b1⟩ : Spot) <;> cases placed (⟨c0, c1⟩ : Spot) <;> rfl
    | true =>
      cases hB : placed (⟨b0, b1⟩ : Spot) with
      | false => cases placed (⟨c0, c1⟩ : Spot) <;> rfl
      | true =>
        cases hC : placed (⟨c0, c1⟩ : Spot) with
        | false => rfl
        | true =>
          rw [distS_eq hA hB, distS_eq hA hC, distS_eq hB hC]
          obtain ⟨_, n1, u1⟩ := sq_eq hA hB
          obtain ⟨_, n2, u2⟩ := sq_eq hB hC
          obtain ⟨x0, x1, x2⟩ := (wayP_root n1 u1).1
          obtain ⟨y0, _, _⟩ := (wayP_root n2 u2).1
          have hw := way_bound hA hB
          have hv := way_bound hB hC
          have ht := way_tri hA hB hC
          show (match (bif (bif (bif (decide (wayP (sq ⟨a0, a1⟩ ⟨b0, b1⟩) < 0)) then true else (decide (wayP (sq ⟨a0, a1⟩ ⟨b0, b1⟩) > 67108864))) then true else (decide (wr (wayP (sq ⟨a0, a1⟩ ⟨b0, b1⟩) * wayP (sq ⟨a0, a1⟩ ⟨b0, b1⟩)) < sq ⟨a0, a1⟩ ⟨b0, b1⟩))) then true else (bif (decide (wayP (sq ⟨a0, a1⟩ ⟨b0, b1⟩) > 0)) then (decide (wr (wr (wayP (sq ⟨a0, a1⟩ ⟨b0, b1⟩) - 1) * wr (wayP (sq ⟨a0, a1⟩ ⟨b0, b1⟩) - 1)) ≥ sq ⟨a0, a1⟩ ⟨b0, b1⟩)) else false)) with
            | true => _ | false => an (.b (bif (decide (wayP (sq ⟨a0, a1⟩ ⟨c0, c1⟩) ≤ wr (wayP (sq ⟨a0, a1⟩ ⟨b0, b1⟩) + wayP (sq ⟨b0, b1⟩ ⟨c0, c1⟩)))) then true else false))) = _
          generalize hx : wayP (sq ⟨a0, a1⟩ ⟨b0, b1⟩) = x at *
          generalize hy : wayP (sq ⟨b0, b1⟩ ⟨c0, c1⟩) = y at *
          generalize sq ⟨a0, a1⟩ ⟨b0, b1⟩ = q at *
          have hxl : x ≤ 67108864 := by omega
          have hyl : y ≤ 67108864 := by omega
          have b1 := sq_le (a := x) (A := 67108864) (by omega)
          have w1 : wr (x * x) = x * x := wr_small (by omega) (by omega)
          have w2 : wr (x - 1) = x - 1 := wr_small (by omega) (by omega)
          have b2 := sq_le (a := x - 1) (A := 67108864) (by omega)
          have w3 : wr ((x - 1) * (x - 1)) = (x - 1) * (x - 1) := wr_small (by omega) (by omega)
          have w4 : wr (x + y) = x + y := wr_small (by omega) (by omega)
          rw [w1, w2, w3, w4, decide_eq_false (show ¬ x < 0 by omega), decide_eq_false (show ¬ x > 67108864 by omega), decide_eq_false (show ¬ x * x < q by omega), decide_eq_true ht]
          cases hd : decide (x > 0) with
          | false => rfl
          | true =>
            have := of_decide_eq_true hd
            rw [decide_eq_false (show ¬ (x - 1) * (x - 1) ≥ q by omega)]
            rfl
  · simp at h
end Go.Proofs.YtnbcmgdogohenaaDoor.Ev
