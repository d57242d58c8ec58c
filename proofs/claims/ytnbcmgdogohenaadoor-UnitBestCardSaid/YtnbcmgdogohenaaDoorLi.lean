/- The space that legs take holds the places at which the unit is; and units whose boxes do not meet are apart. -/
import Derived.Test.YtnbcmgdogohenaaDoorLh
set_option linter.unusedVariables false
set_option linter.unusedSimpArgs false
namespace Go.Proofs.YtnbcmgdogohenaaDoor.Ev
open Go Go.RowKit Go.Proofs

theorem imin_is (a b : Int) : imin a b ≤ a ∧ imin a b ≤ b := by unfold imin; split <;> omega
theorem imax_is (a b : Int) : a ≤ imax a b ∧ b ≤ imax a b := by unfold imax; split <;> omega
/-- A part rises or falls with the time. -/
theorem part_mono {a c n1 n2 o : Int} (ho : 0 < o) (h : n1 ≤ n2) : (0 ≤ c → a + c * n1 / o ≤ a + c * n2 / o) ∧ (c ≤ 0 → a + c * n2 / o ≤ a + c * n1 / o) := by
  constructor
  · intro hc
    have := Int.ediv_le_ediv ho (Int.mul_le_mul_of_nonneg_left h hc)
    omega
  · intro hc
    have h1 : c * n2 ≤ c * n1 := by
      have := Int.mul_le_mul_of_nonneg_left h (show 0 ≤ -c by omega)
      rw [Int.neg_mul, Int.neg_mul] at this
      omega
    have := Int.ediv_le_ediv ho h1
    omega
theorem part_betw {a c n n1 n2 o : Int} (ho : 0 < o) (h1 : n1 ≤ n) (h2 : n ≤ n2) : imin (a + c * n1 / o) (a + c * n2 / o) ≤ a + c * n / o ∧ a - (-(c * n)) / o ≤ imax (a - (-(c * n1)) / o) (a - (-(c * n2)) / o) := by
  have m1 := imin_is (a + c * n1 / o) (a + c * n2 / o)
  have m2 := imax_is (a - (-(c * n1)) / o) (a - (-(c * n2)) / o)
  have e : ∀ m : Int, a - (-(c * m)) / o = -(-a + (-c) * m / o) := fun m => by rw [Int.neg_mul]; omega
  rcases Int.le_total 0 c with hc | hc
  · have p1 := (part_mono (a := a) ho h1).1 hc
    have p2 := (part_mono (a := -a) ho h2).2 (show -c ≤ 0 by omega)
    rw [e, e, e] at *
    omega
  · have p1 := (part_mono (a := a) ho h2).2 hc
    have p2 := (part_mono (a := -a) ho h1).1 (show 0 ≤ -c by omega)
    rw [e, e, e] at *
    omega
/-- Where a unit is on a leg that takes time, up to its arrival. -/
theorem place_at {x : Leg} (h : LegP x) {t : Int} (h1 : x.start ≤ t) (h2 : t ≤ x.arrive) (h3 : x.start < x.arrive) :
    prX x t = x.fr.x + (x.to_.x - x.fr.x) * (t - x.start) / (x.arrive - x.start) ∧ prHX x t = x.fr.x - (-((x.to_.x - x.fr.x) * (t - x.start))) / (x.arrive - x.start) ∧
    prY x t = x.fr.y + (x.to_.y - x.fr.y) * (t - x.start) / (x.arrive - x.start) ∧ prHY x t = x.fr.y - (-((x.to_.y - x.fr.y) * (t - x.start))) / (x.arrive - x.start) := by
  have hf := (placed_iff _).1 h.fr
  have hto := (placed_iff _).1 h.to_
  have s0 := h.s0
  have al := h.al
  have l1 := h.l1
  unfold prX prHX prY prHY
  by_cases hta : t ≥ x.arrive
  · have : t = x.arrive := by omega
    subst this
    rw [decide_eq_true (show x.arrive ≥ x.arrive by omega), Int.mul_ediv_cancel _ (by omega), Int.mul_ediv_cancel _ (by omega), ← Int.neg_mul, ← Int.neg_mul, Int.mul_ediv_cancel _ (by omega), Int.mul_ediv_cancel _ (by omega)]
    simp only [cond_true]
    omega
  · rw [decide_eq_false hta]
    have hn : wr (t - x.start) = t - x.start := wr_small (by omega) (by omega)
    have ho : wr (x.arrive - x.start) = x.arrive - x.start := wr_small (by omega) (by omega)
    rw [hn, ho]
    obtain ⟨a1, a2⟩ := partL_eq (a := x.fr.x) (b := x.to_.x) (n := t - x.start) (o := x.arrive - x.start) hf.1 hto.1 (by omega) (by omega) (by omega)
    obtain ⟨b1, b2⟩ := partL_eq (a := x.fr.y) (b := x.to_.y) (n := t - x.start) (o := x.arrive - x.start) hf.2 hto.2 (by omega) (by omega) (by omega)
    exact ⟨a1, a2, b1, b2⟩
/-- At its arrival and behind it, at its end. -/
theorem place_end {x : Leg} {t : Int} (h : x.arrive ≤ t) : prX x t = x.to_.x ∧ prHX x t = x.to_.x ∧ prY x t = x.to_.y ∧ prHY x t = x.to_.y := by
  unfold prX prHX prY prHY
  rw [decide_eq_true (show t ≥ x.arrive by omega)]
  exact ⟨rfl, rfl, rfl, rfl⟩
/-- Bounds of places. -/
theorem place_bd {x : Leg} (h : LegP x) {t : Int} (h1 : x.start ≤ t) : (-16777216 ≤ prX x t ∧ prX x t ≤ 16777216) ∧ (-16777216 ≤ prHX x t ∧ prHX x t ≤ 16777216) ∧ (-16777216 ≤ prY x t ∧ prY x t ≤ 16777216) ∧ (-16777216 ≤ prHY x t ∧ prHY x t ≤ 16777216) ∧ prX x t ≤ prHX x t ∧ prY x t ≤ prHY x t := by
  have hf := (placed_iff _).1 h.fr
  have hto := (placed_iff _).1 h.to_
  rcases Int.lt_or_le t x.arrive with ha | ha
  · obtain ⟨e1, e2, e3, e4⟩ := place_at h h1 (by omega) (by omega)
    rw [e1, e2, e3, e4]
    have p1 := part_mem (a := x.fr.x) (b := x.to_.x) (n := t - x.start) (o := x.arrive - x.start) (by omega) (by omega)
    have p2 := part_mem (a := x.fr.y) (b := x.to_.y) (n := t - x.start) (o := x.arrive - x.start) (by omega) (by omega)
    have p3 := part_memH (a := x.fr.x) (b := x.to_.x) (n := t - x.start) (o := x.arrive - x.start) (by omega) (by omega)
    have p4 := part_memH (a := x.fr.y) (b := x.to_.y) (n := t - x.start) (o := x.arrive - x.start) (by omega) (by omega)
    have q1 := imin_le hf.1 hto.1
    have q2 := imin_le hf.2 hto.2
    have hle : ∀ (m o : Int), 0 < o → m / o ≤ -(-m / o) := fun m o ho => by
      have h1 := Int.ediv_mul_le m (show o ≠ 0 by omega)
      have h2 := Int.ediv_mul_le (-m) (show o ≠ 0 by omega)
      have h3 : (m / o + -m / o) * o ≤ 0 := by rw [Int.add_mul]; omega
      rcases Int.lt_or_le 0 (m / o + -m / o) with h4 | h4
      · have := Int.mul_pos h4 ho; omega
      · omega
    have r1 := hle ((x.to_.x - x.fr.x) * (t - x.start)) (x.arrive - x.start) (by omega)
    have r2 := hle ((x.to_.y - x.fr.y) * (t - x.start)) (x.arrive - x.start) (by omega)
    omega
  · obtain ⟨e1, e2, e3, e4⟩ := place_end ha
    rw [e1, e2, e3, e4]
    omega
/-- A box that holds a place at a time. -/
structure Holds (u : Unit') (x : Leg) (t : Int) (b : Box) : Prop where
  level : b.level = u.level
  t0 : b.fr ≤ t
  t1 : t ≤ b.to_
  lx : b.low.x ≤ prX x t - u.margin
  ly : b.low.y ≤ prY x t - u.margin
  hx : prHX x t + u.margin ≤ b.high.x
  hy : prHY x t + u.margin ≤ b.high.y
theorem piece_holds {u : Unit'} (hu : UnitP u) {x : Leg} (h : LegP x) {p : Int} (hp : 1 ≤ p ∧ p ≤ 20) {j : Int} (hj : 0 ≤ j ∧ j < p) (h3 : x.start < x.arrive) {t : Int} (h1 : x.start + (x.arrive - x.start) * j / p ≤ t) (h2 : t ≤ x.start + ((x.arrive - x.start) * (j + 1) + p - 1) / p) (hta : t ≤ x.arrive) :
    Holds u x t (boxJ u x p j) := by
  obtain ⟨e1, e2, s1, s2, e5⟩ := p_eq h hp (j := j) (by omega)
  have hT : 0 < x.arrive - x.start := by omega
  have hn : 0 ≤ (x.arrive - x.start) * j := Int.mul_nonneg (by omega) hj.1
  have hto : pTo x p j ≤ x.arrive := by
    rw [e2]
    have hm : (x.arrive - x.start) * (j + 1) ≤ (x.arrive - x.start) * p := Int.mul_le_mul_of_nonneg_left (by omega) (by omega)
    have : ((x.arrive - x.start) * (j + 1) + p - 1) / p < (x.arrive - x.start) + 1 := Int.ediv_lt_of_lt_mul (by omega) (by rw [Int.add_mul]; omega)
    omega
  rw [← e1] at h1
  rw [← e2] at h2
  have hs : x.start ≤ t := by omega
  obtain ⟨a1, a2, a3, a4⟩ := place_at h hs hta h3
  obtain ⟨b1, b2, b3, b4⟩ := place_at h s1 (by omega) h3
  obtain ⟨c1, c2, c3, c4⟩ := place_at h s2 hto h3
  have k1 := part_betw (a := x.fr.x) (c := x.to_.x - x.fr.x) (n := t - x.start) (n1 := pFrom x p j - x.start) (n2 := pTo x p j - x.start) (o := x.arrive - x.start) hT (by omega) (by omega)
  have k2 := part_betw (a := x.fr.y) (c := x.to_.y - x.fr.y) (n := t - x.start) (n1 := pFrom x p j - x.start) (n2 := pTo x p j - x.start) (o := x.arrive - x.start) hT (by omega) (by omega)
  rw [← a1, ← a2, ← b1, ← b2, ← c1, ← c2] at k1
  rw [← a3, ← a4, ← b3, ← b4, ← c3, ← c4] at k2
  have d1 := place_bd h s1
  have d2 := place_bd h s2
  have q1 := imin_le (A := 16777216) d1.1 d2.1
  have q2 := imin_le (A := 16777216) d1.2.1 d2.2.1
  have q3 := imin_le (A := 16777216) d1.2.2.1 d2.2.2.1
  have q4 := imin_le (A := 16777216) d1.2.2.2.1 d2.2.2.2.1
  have y1 := imin_max (prX x (pFrom x p j)) (prX x (pTo x p j))
  have y2 := imin_max (prHX x (pFrom x p j)) (prHX x (pTo x p j))
  have y3 := imin_max (prY x (pFrom x p j)) (prY x (pTo x p j))
  have y4 := imin_max (prHY x (pFrom x p j)) (prHY x (pTo x p j))
  have m0 := hu.m0
  have m1 := hu.m1
  refine ⟨rfl, h1, h2, ?_, ?_, ?_, ?_⟩
  · show wr (imin (prX x (pFrom x p j)) (prX x (pTo x p j)) - u.margin) ≤ _
    rw [wr_small (by omega) (by omega)]; omega
  · show wr (imin (prY x (pFrom x p j)) (prY x (pTo x p j)) - u.margin) ≤ _
    rw [wr_small (by omega) (by omega)]; omega
  · show _ ≤ wr (imax (prHX x (pFrom x p j)) (prHX x (pTo x p j)) + u.margin)
    rw [wr_small (by omega) (by omega)]; omega
  · show _ ≤ wr (imax (prHY x (pFrom x p j)) (prHY x (pTo x p j)) + u.margin)
    rw [wr_small (by omega) (by omega)]; omega
theorem leg_holds {u : Unit'} (hu : UnitP u) {x : Leg} (h : LegP x) {p : Int} (hp : 1 ≤ p ∧ p ≤ 20) {t : Int} (h1 : x.start ≤ t) (h2 : t ≤ x.leave) : ∃ b ∈ boxesL u x p, Holds u x t b := by
  have s0 := h.s0
  have sa := h.sa
  have al := h.al
  have l1 := h.l1
  have hwT : wr (x.arrive - x.start) = x.arrive - x.start := wr_small (by omega) (by omega)
  have hpc : ∀ j : Int, 0 ≤ j → j < p → x.start < x.arrive → boxJ u x p j ∈ boxesL u x p := fun j j0 j1 hT => by
    unfold boxesL
    refine List.mem_append_left _ ?_
    unfold pcs nP
    rw [hwT, decide_eq_true (show x.arrive - x.start > 0 by omega)]
    show _ ∈ List.map _ (List.range' 0 p.toNat)
    refine List.mem_map.2 ⟨j.toNat, by rw [List.mem_range'_1]; omega, ?_⟩
    rw [show ((j.toNat : Nat) : Int) = j by omega]
  rcases Int.lt_or_le t x.arrive with ha | ha
  · have hT : 0 < x.arrive - x.start := by omega
    have hn : 0 ≤ (t - x.start) * p := Int.mul_nonneg (by omega) (by omega)
    have j0 : 0 ≤ (t - x.start) * p / (x.arrive - x.start) := Int.ediv_nonneg hn (by omega)
    have j1 : (t - x.start) * p / (x.arrive - x.start) < p := Int.ediv_lt_of_lt_mul hT (by rw [Int.mul_comm p]; exact Int.mul_lt_mul_of_pos_right (by omega) (by omega))
    refine ⟨_, hpc _ j0 j1 (by omega), piece_holds hu h hp ⟨j0, j1⟩ (by omega) ?_ ?_ (by omega)⟩
    · generalize hq : (t - x.start) * p / (x.arrive - x.start) = j at *
      have hm : (x.arrive - x.start) * j ≤ (t - x.start) * p := by
        have := Int.ediv_mul_le ((t - x.start) * p) (show x.arrive - x.start ≠ 0 by omega)
        rw [hq, Int.mul_comm] at this
        exact this
      have := Int.ediv_le_ediv (show 0 < p by omega) hm
      rw [Int.mul_ediv_cancel _ (show p ≠ 0 by omega)] at this
      omega
    · generalize hq : (t - x.start) * p / (x.arrive - x.start) = j at *
      have hm : (t - x.start) * p < (x.arrive - x.start) * (j + 1) := by
        have h3 := Int.lt_ediv_add_one_mul_self ((t - x.start) * p) hT
        rw [hq] at h3
        rw [Int.mul_comm (x.arrive - x.start)]
        exact h3
      have := Int.le_ediv_of_mul_le (a := t - x.start) (b := (x.arrive - x.start) * (j + 1) + p - 1) (show 0 < p by omega) (by omega)
      omega
  · have hin : stays x = true → ∃ b ∈ boxesL u x p, Holds u x t b := fun hst => by
      obtain ⟨e1, e2, e3, e4⟩ := place_end ha
      have hto := (placed_iff _).1 h.to_
      have m0 := hu.m0
      have m1 := hu.m1
      refine ⟨boxStay u x, ?_, ⟨rfl, ha, h2, ?_, ?_, ?_, ?_⟩⟩
      · unfold boxesL
        refine List.mem_append_right _ ?_
        rw [hst]
        exact List.mem_singleton.2 rfl
      · rw [e1]; show wr (x.to_.x - u.margin) ≤ _; rw [wr_small (by omega) (by omega)]; omega
      · rw [e3]; show wr (x.to_.y - u.margin) ≤ _; rw [wr_small (by omega) (by omega)]; omega
      · rw [e2]; show _ ≤ wr (x.to_.x + u.margin); rw [wr_small (by omega) (by omega)]; omega
      · rw [e4]; show _ ≤ wr (x.to_.y + u.margin); rw [wr_small (by omega) (by omega)]; omega
    rcases Int.lt_or_le x.arrive x.leave with hl | hl
    · exact hin (by unfold stays; rw [decide_eq_true hl]; rfl)
    · have hal : x.arrive = x.leave := by omega
      rcases Int.lt_or_le x.start x.arrive with hs | hs
      · have hta : t = x.arrive := by omega
        subst hta
        have hm : (x.arrive - x.start) * (p - 1 + 1) = (x.arrive - x.start) * p := by congr 1; omega
        refine ⟨_, hpc (p - 1) (by omega) (by omega) hs, piece_holds hu h hp (by omega) hs ?_ ?_ (Int.le_refl _)⟩
        · have h4 : (x.arrive - x.start) * (p - 1) ≤ (x.arrive - x.start) * p := Int.mul_le_mul_of_nonneg_left (by omega) (by omega)
          have := Int.ediv_le_ediv (show 0 < p by omega) h4
          rw [Int.mul_ediv_cancel _ (show p ≠ 0 by omega)] at this
          omega
        · rw [hm]
          have := Int.le_ediv_of_mul_le (a := x.arrive - x.start) (b := (x.arrive - x.start) * p + p - 1) (show 0 < p by omega) (by omega)
          omega
      · exact hin (by
          unfold stays
          rw [decide_eq_false (show ¬ x.arrive < x.leave by omega)]
          exact beq_iff_eq.2 (by omega))
/-- Boxes of two lists of which none meet. -/
theorem clash_no {a b : List Box} (h : decide (clI a b ≥ 0) = false) {x y : Box} (hx : x ∈ a) (hy : y ∈ b) : meet x y = false := by
  have h' := of_decide_eq_false h
  unfold clI clS at h'
  cases hf : (List.range' 0 a.length).find? (fun i => b.any fun y => meet (atN .box a i) y) with
  | some i => rw [hf] at h'; exact absurd (show ((i : Int) ≥ 0) by omega) h'
  | none =>
    rw [List.find?_eq_none] at hf
    obtain ⟨i, hi, rfl⟩ := List.getElem_of_mem hx
    have := hf i (by rw [List.mem_range'_1]; omega)
    rw [atN_nat (T := .box) hi] at this
    cases hm : meet a[i] y with
    | false => rfl
    | true => exact absurd (List.any_eq_true.2 ⟨y, hy, hm⟩) this
theorem apart {u v : Unit'} (hu : UnitP u) (hv : UnitP v) (hlv : u.level = v.level) {x y : Leg} (hx : LegP x) (hy : LegP y) {t : Int} (x1 : x.start ≤ t) (y1 : y.start ≤ t) {b c : Box} (hb : Holds u x t b) (hc : Holds v y t c) (hm : meet b c = false) :
    farS ⟨prX x t, prY x t⟩ ⟨prHX x t, prHY x t⟩ ⟨prX y t, prY y t⟩ ⟨prHX y t, prHY y t⟩ (wr (u.margin + v.margin)) = true := by
  have m0 := hu.m0
  have m1 := hu.m1
  have n0 := hv.m0
  have n1 := hv.m1
  have dx := place_bd hx x1
  have dy := place_bd hy y1
  have h1 := hb.t0
  have h2 := hb.t1
  have h3 := hc.t0
  have h4 := hc.t1
  have h5 := hb.lx
  have h6 := hb.ly
  have h7 := hb.hx
  have h8 := hb.hy
  have h9 := hc.lx
  have h10 := hc.ly
  have h11 := hc.hx
  have h12 := hc.hy
  have hsep : ¬ ((b.low.x ≤ c.high.x ∧ c.low.x ≤ b.high.x) ∧ (b.low.y ≤ c.high.y ∧ c.low.y ≤ b.high.y)) := fun hh => by
    have : meet b c = true := by
      unfold meet overlap
      have e1 : (b.level == c.level) = true := by rw [beq_iff_eq, hb.level, hc.level, hlv]
      simp only [bif_f, Bool.and_eq_true, decide_eq_true_eq, e1, true_and]
      omega
    rw [this] at hm
    exact Bool.noConfusion hm
  unfold farS
  rw [bif_t, Bool.or_eq_true, decide_eq_true_eq, decide_eq_true_eq]
  show imax (wr (prHX x t - prX y t)) (wr (prHX y t - prX x t)) > _ ∨ imax (wr (prHY x t - prY y t)) (wr (prHY y t - prY x t)) > _
  rw [wr_small (x := prHX x t - prX y t) (by omega) (by omega), wr_small (x := prHX y t - prX x t) (by omega) (by omega), wr_small (x := prHY x t - prY y t) (by omega) (by omega), wr_small (x := prHY y t - prY x t) (by omega) (by omega), wr_small (x := u.margin + v.margin) (by omega) (by omega)]
  have i1 := imax_is (prHX x t - prX y t) (prHX y t - prX x t)
  have i2 := imax_is (prHY x t - prY y t) (prHY y t - prY x t)
  omega
/-- Units on the same level, whose boxes do not clash, are apart at each time at which both are under way. -/
theorem apart_at {u v : Unit'} {l m : List Leg} {p q : Int} (hb : BxE u l p = 0) (hc : BxE v m q = 0) (hlv : u.level = v.level) (hcl : decide (clI (BxL u l p) (BxL v m q) ≥ 0) = false) (t : Int) :
    (bif (bif (whE l t == 0) then (whE m t == 0) else false) then (!(farS ⟨whX l t, whY l t⟩ ⟨whHX l t, whHY l t⟩ ⟨whX m t, whY m t⟩ ⟨whHX m t, whHY m t⟩ (wr (u.margin + v.margin)))) else false) = false := by
  have key : ∀ {u : Unit'} {l : List Leg} {p : Int}, BxE u l p = 0 → UnitP u ∧ legsOk l = true ∧ (1 ≤ p ∧ p ≤ 20) ∧ BxL u l p = boxesOf u l p := fun {u l p} h => by
    unfold BxE at h
    unfold BxL
    cases hA : bArg u l with
    | true => rw [hA] at h; exact absurd (show (2 : Int) = 0 from h) (by decide)
    | false =>
      rw [hA] at h
      cases hw : within p 1 20 with
      | false => rw [hw] at h; exact absurd (show (4 : Int) = 0 from h) (by decide)
      | true => exact ⟨unitOk_P (bArg_ok hA).1, (bArg_ok hA).2, (within_iff _ _ _).1 hw, rfl⟩
  obtain ⟨hu, hl, hp, eb⟩ := key hb
  obtain ⟨hv, hm, hq, ec⟩ := key hc
  have at_ : ∀ {l : List Leg}, legsOk l = true → (whE l t == 0) = true → ∃ k, ∃ hk : k < l.length, LegP l[k] ∧ l[k].start ≤ t ∧ t ≤ l[k].leave ∧ whX l t = prX l[k] t ∧ whY l t = prY l[k] t ∧ whHX l t = prHX l[k] t ∧ whHY l t = prHY l[k] t := fun {l} hl h => by
    cases hB : atB l t with
    | false =>
      unfold whE at h
      rw [hl, hB] at h
      exact absurd (show ((7 : Int) == 0) = true from h) (by decide)
    | true =>
      obtain ⟨h1, h2, h3, _, _, _, k, hk, he⟩ := at_ok hl hB
      obtain ⟨e1, e2, e3, e4, _, _⟩ := place_eq h1 h2
      rw [he] at h1 h2 h3 e1 e2 e3 e4
      refine ⟨k, hk, h1, h2, h3, ?_, ?_, ?_, ?_⟩
      · unfold whX; rw [hl, hB, he]; exact e1
      · unfold whY; rw [hl, hB, he]; exact e2
      · unfold whHX; rw [hl, hB, he]; exact e3
      · unfold whHY; rw [hl, hB, he]; exact e4
  cases w1 : (whE l t == 0) with
  | false => rfl
  | true =>
    cases w2 : (whE m t == 0) with
    | false => rfl
    | true =>
      obtain ⟨k, hk, x1, x2, x3, a1, a2, a3, a4⟩ := at_ hl w1
      obtain ⟨j, hj, y1, y2, y3, b1, b2, b3, b4⟩ := at_ hm w2
      obtain ⟨b, hb1, hb2⟩ := leg_holds hu x1 hp x2 x3
      obtain ⟨c, hc1, hc2⟩ := leg_holds hv y1 hq y2 y3
      have hbm : b ∈ BxL u l p := by rw [eb]; exact List.mem_flatMap.2 ⟨l[k], List.getElem_mem hk, hb1⟩
      have hcm : c ∈ BxL v m q := by rw [ec]; exact List.mem_flatMap.2 ⟨m[j], List.getElem_mem hj, hc1⟩
      have := apart hu hv hlv x1 y1 x2 y2 hb2 hc2 (clash_no hcl hbm hcm)
      rw [a1, a2, a3, a4, b1, b2, b3, b4, this]
      rfl
end Go.Proofs.YtnbcmgdogohenaaDoor.Ev
/- Summaries of functions, printed by a program out of a list, and what is made of them. -/
set_option maxRecDepth 100000
namespace Go.Proofs.YtnbcmgdogohenaaDoor.Ev
open Go Go.RowKit Go.Proofs
structure S9_12 where
  t : List Int
  a : ByteArray
  a2 : Int
  a3 : Int
  a4 : Int
  a5 : Int
  a6 : Int
  a7 : Int
  a8 : Int
  a9 : Int
  a10 : Int
  a11 : Int
  a12 : Int
  a13 : List Leg
  b : ByteArray
  b2 : Int
  b3 : Int
  b4 : Int
  b5 : Int
  b6 : Int
  b7 : Int
  b8 : Int
  b9 : Int
  b10 : Int
  b11 : Int
  b12 : Int
  b13 : List Leg
  t8 : Bool
  all : Int
  k : Int
def S9_12.enc (s : S9_12) : List PV := [.sl .int s.t, .ptr [.s s.a, .i .i64 s.a2, .i .i64 s.a3, .i .i64 s.a4, .i .i64 s.a5, .i .i64 s.a6, .i .i64 s.a7, .i .i64 s.a8, .i .i64 s.a9, .i .i64 s.a10, .i .i64 s.a11, .i .i64 s.a12, .sl .leg s.a13] 0, .ptr [.s s.b, .i .i64 s.b2, .i .i64 s.b3, .i .i64 s.b4, .i .i64 s.b5, .i .i64 s.b6, .i .i64 s.b7, .i .i64 s.b8, .i .i64 s.b9, .i .i64 s.b10, .i .i64 s.b11, .i .i64 s.b12, .sl .leg s.b13] 0, .b s.t8, .i .i64 s.all, .i .i64 s.k]
def S9_12.encH (s : S9_12) : Heap := []
def dec9_12 : List PV → Heap → Option S9_12
  | [.sl .int t_, .ptr [.s a_, .i .i64 a2_, .i .i64 a3_, .i .i64 a4_, .i .i64 a5_, .i .i64 a6_, .i .i64 a7_, .i .i64 a8_, .i .i64 a9_, .i .i64 a10_, .i .i64 a11_, .i .i64 a12_, .sl .leg a13_] 0, .ptr [.s b_, .i .i64 b2_, .i .i64 b3_, .i .i64 b4_, .i .i64 b5_, .i .i64 b6_, .i .i64 b7_, .i .i64 b8_, .i .i64 b9_, .i .i64 b10_, .i .i64 b11_, .i .i64 b12_, .sl .leg b13_] 0, .b t8_, .i .i64 all_, .i .i64 k_], [] => some ⟨t_, a_, a2_, a3_, a4_, a5_, a6_, a7_, a8_, a9_, a10_, a11_, a12_, a13_, b_, b2_, b3_, b4_, b5_, b6_, b7_, b8_, b9_, b10_, b11_, b12_, b13_, t8_, all_, k_⟩
  | _, _ => none
theorem dec_enc9_12 (vs : List PV) (hs : Heap) (s : S9_12) (h : dec9_12 vs hs = some s) : vs = s.enc ∧ hs = s.encH := by
  unfold dec9_12 at h
  split at h
  · obtain rfl := Option.some.inj h
    exact ⟨rfl, rfl⟩
  · simp at h
def st9_12 {ρ : Type} (s : S9_12) (next : S9_12 → Option ρ) (out : S9_12 × Bool → Option ρ) : Option ρ := (match (decide (s.k < (s.t.length : Int))) with | true => (match (inB 0 s.a13.length) with | true => (match (inB s.k s.t.length) with | true => (match (!(s.all == 0)) with | true => (match (!(s.all == 0)) with | true => (match (decide (s.a13.length ≤ 1000000)) with | true => (match (decide (s.b13.length ≤ 1000000)) with | true => (match (bif (bif ((whE s.a13 (wr (((atD .leg s.a13 0).start) + (Int.tmod (wr ((Int.tmod (atD .int s.t s.k) s.all) + s.all)) s.all)))) == 0) then ((whE s.b13 (wr (((atD .leg s.a13 0).start) + (Int.tmod (wr ((Int.tmod (atD .int s.t s.k) s.all) + s.all)) s.all)))) == 0) else false) then (!(farS (⟨(whX s.a13 (wr (((atD .leg s.a13 0).start) + (Int.tmod (wr ((Int.tmod (atD .int s.t s.k) s.all) + s.all)) s.all)))), (whY s.a13 (wr (((atD .leg s.a13 0).start) + (Int.tmod (wr ((Int.tmod (atD .int s.t s.k) s.all) + s.all)) s.all))))⟩ : Spot) (⟨(whHX s.a13 (wr (((atD .leg s.a13 0).start) + (Int.tmod (wr ((Int.tmod (atD .int s.t s.k) s.all) + s.all)) s.all)))), (whHY s.a13 (wr (((atD .leg s.a13 0).start) + (Int.tmod (wr ((Int.tmod (atD .int s.t s.k) s.all) + s.all)) s.all))))⟩ : Spot) (⟨(whX s.b13 (wr (((atD .leg s.a13 0).start) + (Int.tmod (wr ((Int.tmod (atD .int s.t s.k) s.all) + s.all)) s.all)))), (whY s.b13 (wr (((atD .leg s.a13 0).start) + (Int.tmod (wr ((Int.tmod (atD .int s.t s.k) s.all) + s.all)) s.all))))⟩ : Spot) (⟨(whHX s.b13 (wr (((atD .leg s.a13 0).start) + (Int.tmod (wr ((Int.tmod (atD .int s.t s.k) s.all) + s.all)) s.all)))), (whHY s.b13 (wr (((atD .leg s.a13 0).start) + (Int.tmod (wr ((Int.tmod (atD .int s.t s.k) s.all) + s.all)) s.all))))⟩ : Spot) (wr (s.a11 + s.b11)))) else false) with | true => out (⟨s.t, s.a, s.a2, s.a3, s.a4, s.a5, s.a6, s.a7, s.a8, s.a9, s.a10, s.a11, s.a12, s.a13, s.b, s.b2, s.b3, s.b4, s.b5, s.b6, s.b7, s.b8, s.b9, s.b10, s.b11, s.b12, s.b13, false, s.all, s.k⟩, true) | false => next ⟨s.t, s.a, s.a2, s.a3, s.a4, s.a5, s.a6, s.a7, s.a8, s.a9, s.a10, s.a11, s.a12, s.a13, s.b, s.b2, s.b3, s.b4, s.b5, s.b6, s.b7, s.b8, s.b9, s.b10, s.b11, s.b12, s.b13, s.t8, s.all, (wr (s.k + 1))⟩) | false => none) | false => none) | false => none) | false => none) | false => none) | false => none) | false => out (s, false))
def out9_12 (k : Ex → List PV → Heap → Option R) (o : S9_12 × Bool) : Option R := match o.2 with
  | true => k .ret o.1.enc o.1.encH
  | false => k (.exit 0) o.1.enc o.1.encH
def fuel9_12 (s : S9_12) : Nat := s.t.length + 1
def K9 : Keep := fun _ => ([3, 4, 5, 8, 15, 16], [])
def L9 : Lam := loopL dec9_12 st9_12 fuel9_12 out9_12
noncomputable def b9_12 : Code := (loopsOf (bodyOf Tryd.f9)).getD 0 .skip
theorem step9_12 (j : Nat) (s : S9_12) (k : Ex → List PV → Heap → Option R) : unroll (cx glU (mkG [(27, F27), (38, F38), (15, F15), (16, F16), (33, F33), (36, F36), (37, F37)]) [] []) K9 L9 Tryd.f9.ntmps (Tryd.f9.ntmps + 16) b9_12 (j + 1) s.enc s.encH k = st9_12 s (fun s' => unroll (cx glU (mkG [(27, F27), (38, F38), (15, F15), (16, F16), (33, F33), (36, F36), (37, F37)]) [] []) K9 L9 Tryd.f9.ntmps (Tryd.f9.ntmps + 16) b9_12 j s'.enc s'.encH k) (out9_12 k) := by kernel_rfl
theorem l9 : LoopsOk (cx glU (mkG [(27, F27), (38, F38), (15, F15), (16, F16), (33, F33), (36, F36), (37, F37)]) [] []) K9 L9 Tryd.f9.ntmps (Tryd.f9.ntmps + 16) (loopsOf (bodyOf Tryd.f9)) := by
  refine loopsOk_list (l := [b9_12]) (by kernel_rfl) ?_
  exact List.forall_mem_cons.2 ⟨loopOk1 (fuel := fuel9_12) (enc := S9_12.enc) (encH := S9_12.encH) (fun vs hs k => by kernel_rfl) dec_enc9_12 (step9_12 ), (fun _ h => by simp at h)⟩
theorem loop9 (u v : Unit') (l m : List Leg) (p q : Int) (t : List Int) (all_ : Int) (ht : t.length ≤ 1000000) (hl : l.length ≤ 1000000) (hm : m.length ≤ 1000000) (h0 : inB 0 l.length = true) (ha : (!(all_ == 0)) = true)
    (hb : BxE u l p = 0) (hc : BxE v m q = 0) (hlv : u.level = v.level) (hcl : decide (clI (BxL u l p) (BxL v m q) ≥ 0) = false) :
    (iter st9_12 (fuel9_12 (⟨t, u.name, u.speed, u.fuel, u.burn, u.reserve, u.hours, u.sea, u.wind, u.base.x, u.base.y, u.margin, u.level, l, v.name, v.speed, v.fuel, v.burn, v.reserve, v.hours, v.sea, v.wind, v.base.x, v.base.y, v.margin, v.level, m, false, all_, 0⟩ : S9_12)) (⟨t, u.name, u.speed, u.fuel, u.burn, u.reserve, u.hours, u.sea, u.wind, u.base.x, u.base.y, u.margin, u.level, l, v.name, v.speed, v.fuel, v.burn, v.reserve, v.hours, v.sea, v.wind, v.base.x, v.base.y, v.margin, v.level, m, false, all_, 0⟩ : S9_12) fun o12 => (match o12.2 with | true => an (.b o12.1.t8) | false => an (.b true))) = an (.b true) := by
  refine (iter_each (step := st9_12) (F := fun k => (⟨t, u.name, u.speed, u.fuel, u.burn, u.reserve, u.hours, u.sea, u.wind, u.base.x, u.base.y, u.margin, u.level, l, v.name, v.speed, v.fuel, v.burn, v.reserve, v.hours, v.sea, v.wind, v.base.x, v.base.y, v.margin, v.level, m, false, all_, (k : Int)⟩ : S9_12)) (last := ((⟨t, u.name, u.speed, u.fuel, u.burn, u.reserve, u.hours, u.sea, u.wind, u.base.x, u.base.y, u.margin, u.level, l, v.name, v.speed, v.fuel, v.burn, v.reserve, v.hours, v.sea, v.wind, v.base.x, v.base.y, v.margin, v.level, m, false, all_, (t.length : Int)⟩ : S9_12), false)) t.length _ (fun k next hk => ?_) (fun next => ?_) _ (Nat.le_refl _) _ rfl).trans rfl
  · simp only [st9_12, decLt_nat hk, inB_nat hk, wr_succ (show k ≤ 1000000 by omega), h0, ha, decide_eq_true hl, decide_eq_true hm]
    rw [apart_at hb hc hlv hcl]
  · simp only [st9_12, decLt_self]
theorem tree9 (u : Unit') (l : List Leg) (v : Unit') (m : List Leg) (p0 p1 : Int) (t : List Int) : (match (bif (bif (bif (bif (bif (greatS u) then true else (greatS v)) then true else (decide ((l.length : Int) > 60))) then true else (decide ((m.length : Int) > 60))) then true else (decide ((t.length : Int) > 100))) then true else (u.level != v.level)) with | true => an (.b true) | false => (match (decide (l.length ≤ 1000000)) with | true => (match (decide (m.length ≤ 1000000)) with | true => (match ((decide (l.length ≤ 1000000)) || ((bif ((BxE u l (wr (1 + (Int.tmod (wr p0) 20)))) != 0) then true else ((BxE v m (wr (1 + (Int.tmod (wr p1) 20)))) != 0)) || false)) with | true => (match ((decide (m.length ≤ 1000000)) || ((bif (bif ((BxE u l (wr (1 + (Int.tmod (wr p0) 20)))) != 0) then true else ((BxE v m (wr (1 + (Int.tmod (wr p1) 20)))) != 0)) then true else (!(legsOk l))) || false)) with | true => (match (bif (bif (bif ((BxE u l (wr (1 + (Int.tmod (wr p0) 20)))) != 0) then true else ((BxE v m (wr (1 + (Int.tmod (wr p1) 20)))) != 0)) then true else (!(legsOk l))) then true else (!(legsOk m))) with | true => an (.b true) | false => (match (decide ((BxL u l (wr (1 + (Int.tmod (wr p0) 20)))).length ≤ 1000000) && decide ((BxL v m (wr (1 + (Int.tmod (wr p1) 20)))).length ≤ 1000000)) with | true => (match (decide ((clI (BxL u l (wr (1 + (Int.tmod (wr p0) 20)))) (BxL v m (wr (1 + (Int.tmod (wr p1) 20))))) ≥ 0)) with | true => an (.b true) | false => (match (inB (wr ((l.length : Int) - 1)) l.length) with | true => (match (inB 0 l.length) with | true => (iter st9_12 (fuel9_12 (⟨t, u.name, u.speed, u.fuel, u.burn, u.reserve, u.hours, u.sea, u.wind, u.base.x, u.base.y, u.margin, u.level, l, v.name, v.speed, v.fuel, v.burn, v.reserve, v.hours, v.sea, v.wind, v.base.x, v.base.y, v.margin, v.level, m, false, (wr ((wr (((atD .leg l (wr ((l.length : Int) - 1))).leave) - ((atD .leg l 0).start))) + 1)), 0⟩ : S9_12)) (⟨t, u.name, u.speed, u.fuel, u.burn, u.reserve, u.hours, u.sea, u.wind, u.base.x, u.base.y, u.margin, u.level, l, v.name, v.speed, v.fuel, v.burn, v.reserve, v.hours, v.sea, v.wind, v.base.x, v.base.y, v.margin, v.level, m, false, (wr ((wr (((atD .leg l (wr ((l.length : Int) - 1))).leave) - ((atD .leg l 0).start))) + 1)), 0⟩ : S9_12) fun o12 => (match o12.2 with | true => an (.b o12.1.t8) | false => an (.b true))) | false => none) | false => none)) | false => none)) | false => none) | false => none) | false => none) | false => none)) = an (.b true) := by
  cases hg : (bif (bif (bif (bif (bif (greatS u) then true else (greatS v)) then true else (decide ((l.length : Int) > 60))) then true else (decide ((m.length : Int) > 60))) then true else (decide ((t.length : Int) > 100))) then true else (u.level != v.level)) with
  | true => rfl
  | false =>
    obtain ⟨hg1, hg2⟩ := bif_no hg
    obtain ⟨hg3, hg4⟩ := bif_no hg1
    obtain ⟨hg5, hg6⟩ := bif_no hg3
    obtain ⟨_, hg7⟩ := bif_no hg5
    have ht := lenI (m := 100) hg4
    have hm := lenI (m := 60) hg6
    have hl := lenI (m := 60) hg7
    have hlv : u.level = v.level := by simpa using hg2
    have a1 : decide (l.length ≤ 1000000) = true := decide_eq_true (by omega)
    have a2 : decide (m.length ≤ 1000000) = true := decide_eq_true (by omega)
    simp only [a1, a2, Bool.true_or]
    generalize (wr (1 + (Int.tmod (wr p0) 20))) = p
    generalize (wr (1 + (Int.tmod (wr p1) 20))) = q
    cases hB : (bif (bif (bif ((BxE u l p) != 0) then true else ((BxE v m q) != 0)) then true else (!(legsOk l))) then true else (!(legsOk m))) with
    | true => rfl
    | false =>
      obtain ⟨hB1, hB2⟩ := bif_no hB
      obtain ⟨hB3, hB4⟩ := bif_no hB1
      obtain ⟨hB5, hB6⟩ := bif_no hB3
      have hb : BxE u l p = 0 := by simpa using hB5
      have hc : BxE v m q = 0 := by simpa using hB6
      have hlo : legsOk l = true := by simpa using hB4
      have a3 : (decide ((BxL u l p).length ≤ 1000000) && decide ((BxL v m q).length ≤ 1000000)) = true := by
        have h1 := BxL_len u l p
        have h2 := BxL_len v m q
        rw [decide_eq_true (show (BxL u l p).length ≤ 1000000 by omega), decide_eq_true (show (BxL v m q).length ≤ 1000000 by omega)]
        rfl
      simp only [a3]
      cases hcl : decide (clI (BxL u l p) (BxL v m q) ≥ 0) with
      | true => rfl
      | false =>
        have hP := legsOk_P hlo
        have hne := hP.ne
        have h0 : inB 0 l.length = true := inB_nat (k := 0) hne
        obtain ⟨n, hn⟩ : ∃ n, l.length = n + 1 := ⟨l.length - 1, by omega⟩
        have hwp : wr ((l.length : Int) - 1) = (n : Int) := by rw [hn]; exact wr_pred (by omega)
        have hib : inB (n : Int) l.length = true := inB_nat (by omega)
        have hA : (!(wr (wr ((atD .leg l (n : Int)).leave - (atD .leg l 0).start) + 1) == 0)) = true := by
          have e1 : atD .leg l (n : Int) = l[n] := atD_nat (by omega)
          have e2 : atD .leg l 0 = l[0] := atD_nat (k := 0) hne
          rw [e1, e2]
          have h1 := leg_span (hP.leg 0 hne)
          have h2 := leaves_mono hP n 0 (by omega)
          have e3 : l[0 + n] = l[n] := by congr 1; omega
          rw [e3] at h2
          have h3 := (hP.leg 0 hne).s0
          have h4 := (hP.leg n (by omega)).l1
          rw [wr_small (x := l[n].leave - l[0].start) (by omega) (by omega), wr_small (by omega) (by omega)]
          have : (l[n].leave - l[0].start + 1 == 0) = false := by rw [beq_eq_false_iff_ne]; omega
          rw [this]; rfl
        simp only [hwp, hib, h0]
        exact loop9 u v l m p q t _ (by omega) (by omega) (by omega) h0 hA hb hc hlv hcl
theorem fn9 : FnOk 9 Tryd.f9 := ⟨by kernel_rfl, by kernel_rfl, by kernel_rfl, by kernel_rfl⟩
theorem e9 (u : Unit') (l : List Leg) (v : Unit') (m : List Leg) (p0 : Int) (p1 : Int) (t : List Int) : evFn (cx glU (mkG [(27, F27), (38, F38), (15, F15), (16, F16), (33, F33), (36, F36), (37, F37)]) [] []) K9 L9 Tryd.f9 [.agg [.s u.name, .i .i64 u.speed, .i .i64 u.fuel, .i .i64 u.burn, .i .i64 u.reserve, .i .i64 u.hours, .i .i64 u.sea, .i .i64 u.wind, .i .i64 u.base.x, .i .i64 u.base.y, .i .i64 u.margin, .i .i64 u.level, .sl .leg l], .agg [.s v.name, .i .i64 v.speed, .i .i64 v.fuel, .i .i64 v.burn, .i .i64 v.reserve, .i .i64 v.hours, .i .i64 v.sea, .i .i64 v.wind, .i .i64 v.base.x, .i .i64 v.base.y, .i .i64 v.margin, .i .i64 v.level, .sl .leg m], .agg [.i .u8 p0, .i .u8 p1], .sl .int t] noObjs = (match (bif (bif (bif (bif (bif (greatS u) then true else (greatS v)) then true else (decide ((l.length : Int) > 60))) then true else (decide ((m.length : Int) > 60))) then true else (decide ((t.length : Int) > 100))) then true else (u.level != v.level)) with | true => an (.b true) | false => (match (decide (l.length ≤ 1000000)) with | true => (match (decide (m.length ≤ 1000000)) with | true => (match ((decide (l.length ≤ 1000000)) || ((bif ((BxE u l (wr (1 + (Int.tmod (wr p0) 20)))) != 0) then true else ((BxE v m (wr (1 + (Int.tmod (wr p1) 20)))) != 0)) || false)) with | true => (match ((decide (m.length ≤ 1000000)) || ((bif (bif ((BxE u l (wr (1 + (Int.tmod (wr p0) 20)))) != 0) then true else ((BxE v m (wr (1 + (Int.tmod (wr p1) 20)))) != 0)) then true else (!(legsOk l))) || false)) with | true => (match (bif (bif (bif ((BxE u l (wr (1 + (Int.tmod (wr p0) 20)))) != 0) then true else ((BxE v m (wr (1 + (Int.tmod (wr p1) 20)))) != 0)) then true else (!(legsOk l))) then true else (!(legsOk m))) with | true => an (.b true) | false => (match (decide ((BxL u l (wr (1 + (Int.tmod (wr p0) 20)))).length ≤ 1000000) && decide ((BxL v m (wr (1 + (Int.tmod (wr p1) 20)))).length ≤ 1000000)) with | true => (match (decide ((clI (BxL u l (wr (1 + (Int.tmod (wr p0) 20)))) (BxL v m (wr (1 + (Int.tmod (wr p1) 20))))) ≥ 0)) with | true => an (.b true) | false => (match (inB (wr ((l.length : Int) - 1)) l.length) with | true => (match (inB 0 l.length) with | true => (iter st9_12 (fuel9_12 (⟨t, u.name, u.speed, u.fuel, u.burn, u.reserve, u.hours, u.sea, u.wind, u.base.x, u.base.y, u.margin, u.level, l, v.name, v.speed, v.fuel, v.burn, v.reserve, v.hours, v.sea, v.wind, v.base.x, v.base.y, v.margin, v.level, m, false, (wr ((wr (((atD .leg l (wr ((l.length : Int) - 1))).leave) - ((atD .leg l 0).start))) + 1)), 0⟩ : S9_12)) (⟨t, u.name, u.speed, u.fuel, u.burn, u.reserve, u.hours, u.sea, u.wind, u.base.x, u.base.y, u.margin, u.level, l, v.name, v.speed, v.fuel, v.burn, v.reserve, v.hours, v.sea, v.wind, v.base.x, v.base.y, v.margin, v.level, m, false, (wr ((wr (((atD .leg l (wr ((l.length : Int) - 1))).leave) - ((atD .leg l 0).start))) + 1)), 0⟩ : S9_12) fun o12 => (match o12.2 with | true => an (.b o12.1.t8) | false => an (.b true))) | false => none) | false => none)) | false => none)) | false => none) | false => none) | false => none) | false => none)) := by kernel_rfl
def F9 : List PV → Option (Bool × PV)
  | [.agg [.s u0, .i .i64 u1, .i .i64 u2, .i .i64 u3, .i .i64 u4, .i .i64 u5, .i .i64 u6, .i .i64 u7, .i .i64 u8, .i .i64 u9, .i .i64 u10, .i .i64 u11, .sl .leg l], .agg [.s v0, .i .i64 v1, .i .i64 v2, .i .i64 v3, .i .i64 v4, .i .i64 v5, .i .i64 v6, .i .i64 v7, .i .i64 v8, .i .i64 v9, .i .i64 v10, .i .i64 v11, .sl .leg m], .agg [.i .u8 p0, .i .u8 p1], .sl .int t] => some (true, .b true)
  | _ => none
theorem s9 : Sum glU 9 F9 := by
  intro ps r h
  unfold F9 at h
  split at h
  · rename_i u0 u1 u2 u3 u4 u5 u6 u7 u8 u9 u10 u11 l v0 v1 v2 v3 v4 v5 v6 v7 v8 v9 v10 v11 m p0 p1 t
    obtain ⟨hc, rfl⟩ := Prod.mk.inj (Option.some.inj h)
    refine call_by (K := K9) (L := L9) (bxs := []) (ows := []) (GOk.cons s27 (GOk.cons s38 (GOk.cons s15 (GOk.cons s16 (GOk.cons s33 (GOk.cons s36 (GOk.cons s37 (GOk.nil)))))))) fn9 (l9 ) (by kernel_rfl) (evF_some ((e9 ⟨u0, u1, u2, u3, u4, u5, u6, u7, ⟨u8, u9⟩, u10, u11⟩ l ⟨v0, v1, v2, v3, v4, v5, v6, v7, ⟨v8, v9⟩, v10, v11⟩ m p0 p1 t).trans ?_))
    exact tree9 ⟨u0, u1, u2, u3, u4, u5, u6, u7, ⟨u8, u9⟩, u10, u11⟩ l ⟨v0, v1, v2, v3, v4, v5, v6, v7, ⟨v8, v9⟩, v10, v11⟩ m p0 p1 t
  · simp at h
end Go.Proofs.YtnbcmgdogohenaaDoor.Ev
