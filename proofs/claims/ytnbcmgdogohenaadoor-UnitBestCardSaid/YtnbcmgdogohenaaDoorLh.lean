/- A plan that is made, as a list of legs: valid legs, whose fuel goes down by what is burnt; and a plan that is made again at the end of a leg. -/
import Derived.Test.YtnbcmgdogohenaaDoorLg
set_option linter.unusedVariables false
set_option linter.unusedSimpArgs false
namespace Go.Proofs.YtnbcmgdogohenaaDoor.Ev
open Go Go.RowKit Go.Proofs

/-! ### Valid legs, the other way round -/
theorem legOk_of {x : Leg} (h : LegP x) : legOk x = true := by
  have h1 := h.fr
  have h2 := h.to_
  have hs : x.start = x.arrive → x.fr.x = x.to_.x ∧ x.fr.y = x.to_.y := fun e => by rw [h.same e]; exact ⟨rfl, rfl⟩
  have := h.s0
  have := h.sa
  have := h.al
  have := h.l1
  have := h.fuel
  unfold legOk
  rw [h1, h2]
  simp only [Bool.and_eq_true, Bool.or_eq_true, Bool.not_eq_true', decide_eq_true_eq, beq_eq_false_iff_ne, beq_iff_eq, timed_iff, within_iff, true_and, and_true]
  refine ⟨by omega, by omega, by omega, by omega, by omega, ?_, by omega⟩
  rcases Decidable.em (x.start = x.arrive) with e | e
  · exact .inr (hs e)
  · exact .inl e
theorem linkOk_of {p x : Leg} (h1 : x.fr = p.to_) (h2 : x.start = p.leave) : linkOk p x = true := by
  unfold linkOk
  rw [h1, h2]
  simp
theorem legsOk_of {xs : List Leg} (h : LegsP xs) : legsOk xs = true := by
  have hb : (List.range' 0 xs.length).any (legBad xs) = false := by
    rw [List.any_eq_false]
    intro k hk
    rw [List.mem_range'_1] at hk
    have hk' : k < xs.length := by omega
    cases k with
    | zero =>
      show ¬ (!(legOk (atN .leg xs 0))) = true
      rw [atN_nat (T := .leg) hk', legOk_of (h.leg 0 hk')]
      simp
    | succ j =>
      show ¬ (!(legOk (atN .leg xs (j + 1))) || !(linkOk (atN .leg xs j) (atN .leg xs (j + 1)))) = true
      rw [atN_nat (T := .leg) hk', atN_nat (T := .leg) (show j < xs.length by omega), legOk_of (h.leg (j + 1) hk'), linkOk_of (h.link j hk').1 (h.link j hk').2]
      simp
  have h0 := h.ne
  unfold legsOk
  rw [hb]
  exact decide_eq_true (by omega)

/-! ### A flight: legs whose fuel goes down by what is burnt -/
structure FlightP (u : Unit') (start fuel : Int) (l : List Leg) : Prop where
  legs : LegsP l
  first : l[0]'legs.ne = l[0]'legs.ne ∧ (l[0]'legs.ne).start = start
  fuel0 : (l[0]'legs.ne).fuel = fuel - burnR u ((l[0]'legs.ne).leave - (l[0]'legs.ne).start)
  fuel : ∀ k (hk : k + 1 < l.length), l[k + 1].fuel = l[k].fuel - burnR u (l[k + 1].leave - l[k + 1].start)
theorem burn_le {u : Unit'} (hu : UnitP u) {t : Int} (ht : 0 ≤ t ∧ t ≤ 2 ^ 39) : u.burn * t ≤ 3600 * burnR u t := by
  rw [(burn_eq hu ht).1]
  have := Int.mul_ediv_add_emod (u.burn * t + 3599) 3600
  have := Int.emod_lt_of_pos (u.burn * t + 3599) (show (0 : Int) < 3600 by decide)
  omega
theorem leg_span {x : Leg} (h : LegP x) : 0 ≤ x.leave - x.start ∧ x.leave - x.start ≤ 1073741824 := by
  have := h.s0
  have := h.sa
  have := h.al
  have := h.l1
  omega
section
variable {u : Unit'} {start fuel : Int} {l : List Leg}
theorem leaves_mono (h : LegsP l) : ∀ (d k : Nat) (hk : k + d < l.length), l[k].leave ≤ l[k + d].leave
  | 0, k, hk => Int.le_refl _
  | d + 1, k, hk => by
    have h1 := leaves_mono h d k (by omega)
    have h2 := (h.link (k + d) (by omega)).2
    have h3 := leg_span (h.leg (k + d + 1) (by omega))
    have e : l[k + (d + 1)] = l[k + d + 1] := rfl
    rw [e]
    omega
theorem start_mono (h : LegsP l) {k j : Nat} (hkj : k < j) (hj : j < l.length) : l[k].leave ≤ l[j].start := by
  obtain ⟨d, rfl⟩ : ∃ d, j = k + d + 1 := ⟨j - k - 1, by omega⟩
  have h1 := leaves_mono h d k (by omega)
  have h2 := (h.link (k + d) (by omega)).2
  omega
theorem fuel_mono (hu : UnitP u) (h : FlightP u start fuel l) : ∀ (d k : Nat) (hk : k + d < l.length), l[k + d].fuel ≤ l[k].fuel
  | 0, k, hk => Int.le_refl _
  | d + 1, k, hk => by
    have h1 := fuel_mono hu h d k (by omega)
    have h2 := h.fuel (k + d) (by omega)
    have h3 := leg_span (h.legs.leg (k + d + 1) (by omega))
    have h4 := (burn_eq hu (t := l[k + d + 1].leave - l[k + d + 1].start) (by omega)).2.1
    have e : l[k + (d + 1)] = l[k + d + 1] := rfl
    rw [e]
    omega
/-- What was burnt up to the end of a leg. -/
theorem burnt (hu : UnitP u) (h : FlightP u start fuel l) : ∀ (k : Nat) (hk : k < l.length), u.burn * (l[k].leave - start) ≤ 3600 * (fuel - l[k].fuel)
  | 0, hk => by
    have h0 := h.first.2
    have h1 := h.fuel0
    have h3 := leg_span (h.legs.leg 0 hk)
    have h4 := burn_le hu (t := l[0].leave - l[0].start) (by omega)
    rw [h0] at h4 h1
    rw [h1]
    omega
  | k + 1, hk => by
    have ih := burnt hu h k (by omega)
    have h1 := h.fuel k hk
    have h2 := (h.legs.link k hk).2
    have h3 := leg_span (h.legs.leg (k + 1) hk)
    have h4 := burn_le hu (t := l[k + 1].leave - l[k + 1].start) (by omega)
    rw [h2] at h4 h1
    have e : u.burn * (l[k + 1].leave - start) = u.burn * (l[k].leave - start) + u.burn * (l[k + 1].leave - l[k].leave) := by
      rw [← Int.mul_add]; congr 1; omega
    rw [e, h1]
    omega
/-- The leg at a time: the first whose end is not before it. -/
theorem at_first (h : LegsP l) {t : Int} (h1 : (l[0]'h.ne).start ≤ t) {i : Nat} (hi : i < l.length) (h2 : t ≤ l[i].leave) :
    ∃ k, ∃ hk : k < l.length, k ≤ i ∧ atS l t = some l[k] ∧ l[k].start ≤ t ∧ t ≤ l[k].leave := by
  have h0 := h.ne
  rcases at_by h t with ⟨hb, _⟩ | ⟨k, hb, hk, hs, h3, h4⟩
  · exfalso
    unfold byS at hb
    rw [atN_nat (T := .leg) h0, decide_eq_false (show ¬ t < l[0].start by omega)] at hb
    have hb' : idxI (fun x : Leg => decide (x.leave ≥ t)) l < 0 := hb
    unfold idxI at hb'
    cases hf : l.findIdx? (fun x => decide (x.leave ≥ t)) with
    | some j => rw [hf] at hb'; exact absurd hb' (show ¬ ((j : Int) < 0) by omega)
    | none =>
      rw [List.findIdx?_eq_none_iff] at hf
      have := hf l[i] (List.getElem_mem hi)
      simp at this
      omega
  · refine ⟨k, hk, ?_, hs, h3, h4⟩
    unfold byS at hb
    rw [atN_nat (T := .leg) h0, decide_eq_false (show ¬ t < l[0].start by omega)] at hb
    have hb' : idxI (fun x : Leg => decide (x.leave ≥ t)) l = k := hb
    unfold idxI at hb'
    cases hf : l.findIdx? (fun x => decide (x.leave ≥ t)) with
    | none => rw [hf] at hb'; exact absurd hb' (show ¬ ((-1 : Int) = k) by omega)
    | some j =>
      rw [hf] at hb'
      have hjk : j = k := by have : (j : Int) = k := hb'; omega
      subst hjk
      rw [List.findIdx?_eq_some_iff_getElem] at hf
      obtain ⟨_, _, hlt⟩ := hf
      rcases Nat.lt_or_ge i j with hij | hij
      · have := hlt i hij
        simp at this
        omega
      · exact hij
/-- What is left at a time, by its leg. -/
theorem left_at (hu : UnitP u) (hU : unitOk u = true) (h : LegsP l) {t : Int} {k : Nat} (hk : k < l.length) (hs : atS l t = some l[k]) (h1 : l[k].start ≤ t) (h2 : t ≤ l[k].leave) :
    leftE u l t = 0 ∧ leftV u l t = l[k].fuel + u.burn * (l[k].leave - t) / 3600 ∧ 0 ≤ u.burn * (l[k].leave - t) ∧ u.burn * (l[k].leave - t) ≤ 2 ^ 50 := by
  have hB : atB l t = true := by unfold atB; rw [hs]; rfl
  have hV : atV l t = l[k] := by unfold atV; rw [hs]; rfl
  have hl := legsOk_of h
  have hL := h.leg k hk
  have hsp := leg_span hL
  have hf := hL.fuel
  have b0 := hu.b0
  have b1 := hu.b1
  have m1 := mul_bound (a := u.burn) (b := l[k].leave - t) (A := 1048576) (B := 1073741824) (by omega) (by omega) (by omega)
  have m0 := Int.mul_nonneg b0 (show 0 ≤ l[k].leave - t by omega)
  have hd : wr (l[k].leave - t) = l[k].leave - t := wr_small (by omega) (by omega)
  have hm : wr (u.burn * (l[k].leave - t)) = u.burn * (l[k].leave - t) := wr_small (by omega) (by omega)
  refine ⟨?_, ?_, m0, by omega⟩
  · unfold leftE
    rw [hU, hl, hB]
    rfl
  · unfold leftV
    rw [hU, hl, hB, hV, hd, hm, Int.tdiv_eq_ediv_of_nonneg m0]
    show wr (l[k].fuel + wr (u.burn * (l[k].leave - t) / 3600)) = _
    rw [wr_small (x := u.burn * (l[k].leave - t) / 3600) (by omega) (by omega), wr_small (by omega) (by omega)]
/-- The fuel that is left never rises, and is not more than what has not been burnt. -/
theorem left_law (hu : UnitP u) (hU : unitOk u = true) (h : FlightP u start fuel l) (hf : 0 ≤ fuel ∧ fuel ≤ 1073741824) {a b : Int} (h1 : start ≤ a) (hab : a ≤ b) (h2 : b ≤ (l[l.length - 1]'(by have := h.legs.ne; omega)).leave) :
    leftE u l a = 0 ∧ leftE u l b = 0 ∧ leftV u l b ≤ leftV u l a ∧ u.burn * (a - start) ≤ 3600 * (fuel - leftV u l a) ∧ 0 ≤ leftV u l a ∧ leftV u l a ≤ fuel ∧ 0 ≤ u.burn * (a - start) ∧ u.burn * (a - start) ≤ 2 ^ 50 := by
  have h0 := h.legs.ne
  have hst := h.first.2
  obtain ⟨k, hk, _, ks, k1, k2⟩ := at_first h.legs (t := a) (by omega) (i := l.length - 1) (by omega) (by omega)
  obtain ⟨j, hj, _, js, j1, j2⟩ := at_first h.legs (t := b) (by omega) (i := l.length - 1) (by omega) (by omega)
  obtain ⟨e1, v1, n1, m1⟩ := left_at hu hU h.legs hk ks k1 k2
  obtain ⟨e2, v2, n2, m2⟩ := left_at hu hU h.legs hj js j1 j2
  have hb := burnt hu h k hk
  have hlk := h.legs.leg k hk
  have hlj := h.legs.leg j hj
  have hks := leg_span hlk
  have hsum : u.burn * (l[k].leave - start) = u.burn * (a - start) + u.burn * (l[k].leave - a) := by
    rw [← Int.mul_add]; congr 1; omega
  have hlow : u.burn * (a - start) ≤ 3600 * (fuel - leftV u l a) := by
    rw [v1]
    omega
  have b0 := hu.b0
  have b1 := hu.b1
  have ha0 : 0 ≤ u.burn * (a - start) := Int.mul_nonneg b0 (by omega)
  have hs0 := (h.legs.leg 0 h0).s0
  have := hlk.l1
  have ha1 := mul_bound (a := u.burn) (b := a - start) (A := 1048576) (B := 1073741824) (by omega) (by omega) (by omega)
  have hkf := hlk.fuel
  refine ⟨e1, e2, ?_, hlow, by rw [v1]; omega, by omega, ha0, by omega⟩
  rcases Int.lt_or_le a b with hlt | hle
  · rcases Nat.lt_trichotomy k j with hkj | hkj | hkj
    · have hjf : l[j].fuel + burnR u (l[j].leave - l[j].start) ≤ l[k].fuel := by
        obtain ⟨d, rfl⟩ : ∃ d, j = k + d + 1 := ⟨j - k - 1, by omega⟩
        have := h.fuel (k + d) hj
        have := fuel_mono hu h d k (by omega)
        omega
      have hjs := leg_span hlj
      have hbj := burn_le hu (t := l[j].leave - l[j].start) (by omega)
      have hmm : u.burn * (l[j].leave - b) ≤ u.burn * (l[j].leave - l[j].start) := Int.mul_le_mul_of_nonneg_left (by omega) b0
      rw [v1, v2]
      omega
    · subst hkj
      have hmm : u.burn * (l[k].leave - b) ≤ u.burn * (l[k].leave - a) := Int.mul_le_mul_of_nonneg_left (by omega) b0
      rw [v1, v2]
      omega
    · have := start_mono h.legs hkj hk
      omega
  · have : a = b := by omega
    subst this
    exact Int.le_refl _
/-- Legs that end at the same time end at the same place, with the same fuel. -/
theorem same_end (hu : UnitP u) (h : FlightP u start fuel l) : ∀ (d k : Nat) (hk : k + d < l.length), l[k].leave = l[k + d].leave → l[k].to_ = l[k + d].to_ ∧ l[k].fuel = l[k + d].fuel
  | 0, k, hk, _ => ⟨rfl, rfl⟩
  | d + 1, k, hk, he => by
    have m1 := leaves_mono h.legs d k (by omega)
    have m2 := (h.legs.link (k + d) (by omega)).2
    have hL := h.legs.leg (k + d + 1) (by omega)
    have m3 := hL.sa
    have m4 := hL.al
    have e : l[k + (d + 1)] = l[k + d + 1] := rfl
    rw [e] at he ⊢
    have ih := same_end hu h d k (by omega) (by omega)
    have hf := h.fuel (k + d) (by omega)
    have hz : l[k + d + 1].leave - l[k + d + 1].start = 0 := by omega
    rw [hz, burn_0 hu] at hf
    refine ⟨?_, by omega⟩
    rw [ih.1, ← (h.legs.link (k + d) (by omega)).1, hL.same (by omega)]
end
end Go.Proofs.YtnbcmgdogohenaaDoor.Ev
/- A plan's legs are a flight; a plan that is made again at the end of one of its legs is what is left of it. -/
namespace Go.Proofs.YtnbcmgdogohenaaDoor.Ev
open Go Go.RowKit Go.Proofs

theorem sq0 {a : Int} (h : a * a ≤ 0) : a = 0 := by
  rcases Int.lt_trichotomy a 0 with h1 | h1 | h1
  · have := Int.mul_pos_of_neg_of_neg h1 h1; omega
  · exact h1
  · have := Int.mul_pos h1 h1; omega
theorem take_eq0 {u : Unit'} (hu : UnitP u) {a b : Spot} (ha : placed a = true) (hb : placed b = true) (h : takeR u a b = 0) : a = b := by
  obtain ⟨_, _, _, he⟩ := takes_eq hu ha hb
  obtain ⟨hs, hs0, hs1⟩ := sq_eq ha hb
  have hw := way_bound ha hb
  have hr := (wayR_root hs1).1
  have s1 := hu.s1
  rw [h] at he
  have hlt : wayR (sq a b) * 3600 + u.speed - 1 < u.speed := by
    rcases Int.lt_or_le (wayR (sq a b) * 3600 + u.speed - 1) u.speed with h1 | h1
    · exact h1
    · have := Int.le_ediv_of_mul_le (a := 1) (b := wayR (sq a b) * 3600 + u.speed - 1) (show 0 < u.speed by omega) (by omega)
      omega
  have hw0 : wayR (sq a b) = 0 := by omega
  have hq := hr.2.1
  rw [hw0] at hq
  have hx := sq_nn (a.x - b.x)
  have hy := sq_nn (a.y - b.y)
  have e1 := sq0 (a := a.x - b.x) (by omega)
  have e2 := sq0 (a := a.y - b.y) (by omega)
  exact spot_ext (by omega) (by omega)
section
variable {u : Unit'} {since : Int} {sky : List Front} {route : List Way} {pos : Spot} {time fuel : Int}
abbrev plLegs (u : Unit') (route : List Way) (pos : Spot) (time fuel : Int) : List Leg := (goSt u route pos time fuel route.length).out ++ [homeL u (goSt u route pos time fuel route.length)]
theorem plLegs_len : (plLegs u route pos time fuel).length = route.length + 1 := by unfold plLegs; rw [List.length_append, goSt_len]; rfl
theorem plLegs_at {k : Nat} (hk : k < route.length) (h : k < (plLegs u route pos time fuel).length) : (plLegs u route pos time fuel)[k] = goLeg u route pos time fuel k := by
  have : (plLegs u route pos time fuel)[k]? = some (goLeg u route pos time fuel k) := by
    unfold plLegs
    rw [List.getElem?_append_left (by rw [goSt_len]; exact hk)]
    exact goSt_at _ _ hk
  rw [List.getElem?_eq_getElem h] at this
  exact Option.some.inj this
theorem plLegs_last (h : route.length < (plLegs u route pos time fuel).length) : (plLegs u route pos time fuel)[route.length] = homeL u (goSt u route pos time fuel route.length) := by
  have : (plLegs u route pos time fuel)[route.length]? = some (homeL u (goSt u route pos time fuel route.length)) := by
    unfold plLegs
    rw [List.getElem?_append_right (by rw [goSt_len]; exact Nat.le_refl _), goSt_len, Nat.sub_self]
    rfl
  rw [List.getElem?_eq_getElem h] at this
  exact Option.some.inj this
theorem flight (hu : UnitP u) (hsn : 0 ≤ since ∧ since ≤ 1073741824) (hr : ∀ w ∈ route, wayOk w = true) (hp : placed pos = true) (ht : 0 ≤ time ∧ time ≤ 1073741824) (hf : 0 ≤ fuel ∧ fuel ≤ 1073741824) (hs : goStop u since sky route pos time fuel = none) (hn : 0 < route.length) :
    FlightP u time fuel (plLegs u route pos time fuel) := by
  have hlen : (plLegs u route pos time fuel).length = route.length + 1 := plLegs_len
  have hG := goP hu hsn hr hp ht hf hs
  have hg := fun k (hk : k < route.length) => goneAll hu hsn hr hp ht hf hs hk
  obtain ⟨m, hm⟩ : ∃ m, route.length = m + 1 := ⟨route.length - 1, by omega⟩
  have hlast := last_P hu hsn hr hp ht hf hs (k := m) (by omega)
  rw [← hm] at hlast
  have hGn := hG route.length (Nat.le_refl _)
  have hh := home_P hu (since := since) (sky := sky) hGn
  have hleg : ∀ k, k < route.length → LegP (goLeg u route pos time fuel k) := fun k hk => by
    have g := hg k hk
    have G0 := hG k (by omega)
    have G1 := hG (k + 1) (by omega)
    refine ⟨?_, ?_, ?_, ?_, ?_, ?_, ?_, ?_⟩
    · rw [g.fr]; exact G0.placed
    · have := G1.placed; exact this
    · rw [g.start]; exact G0.t0
    · rw [g.start, g.arrive]; have := g.t0; omega
    · rw [g.leave]; have := g.s0; omega
    · have := G1.t1; exact this
    · intro e
      rw [g.fr, g.to_]
      have hw : placed (atN .way route k).to_ = true := G1.placed
      exact take_eq0 hu G0.placed hw (by rw [g.start, g.arrive] at e; omega)
    · exact ⟨G1.f0, G1.f1⟩
  have hhome : LegP (homeL u (goSt u route pos time fuel route.length)) := by
    have r0 := hu.r0
    have hd := hlast.dry
    have hl := hlast.late
    have t0 := hGn.t0
    have f1 := hGn.f1
    have hb := (burn_eq hu (t := takeR u (goSt u route pos time fuel route.length).pos u.base) (by have := hh.t0; have := hh.t1; omega)).2.1
    refine ⟨?_, ?_, ?_, ?_, ?_, ?_, ?_, ?_⟩
    · rw [hh.fr]; exact hGn.placed
    · rw [hh.to_]; exact hu.base
    · rw [hh.start]; exact t0
    · rw [hh.start, hh.arrive]; have := hh.t0; omega
    · rw [hh.arrive, hh.leave]; omega
    · rw [hh.leave]; exact hl
    · intro e
      rw [hh.fr, hh.to_]
      exact take_eq0 hu hGn.placed hu.base (by rw [hh.start, hh.arrive] at e; omega)
    · rw [hh.fuel]; omega
  have hL : LegsP (plLegs u route pos time fuel) := by
    refine ⟨by omega, fun k hk => ?_, fun k hk => ?_⟩
    · rcases Nat.lt_or_ge k route.length with h1 | h1
      · rw [plLegs_at h1]; exact hleg k h1
      · have : k = route.length := by omega
        subst this
        rw [plLegs_last]; exact hhome
    · rw [plLegs_at (k := k) (by omega)]
      rcases Nat.lt_or_ge (k + 1) route.length with h1 | h1
      · rw [plLegs_at h1]; exact ⟨rfl, rfl⟩
      · have he : k + 1 = route.length := by omega
        have : (plLegs u route pos time fuel)[k + 1] = homeL u (goSt u route pos time fuel route.length) := by
          rw [← plLegs_last (u := u) (route := route) (pos := pos) (time := time) (fuel := fuel) (by omega)]
          congr 1
        rw [this, ← he]
        exact ⟨rfl, rfl⟩
  refine ⟨hL, ⟨rfl, ?_⟩, ?_, fun k hk => ?_⟩
  · rw [plLegs_at hn]; rfl
  · rw [plLegs_at hn]; exact (hg 0 hn).fuel
  · rw [plLegs_at (k := k) (by omega)]
    rcases Nat.lt_or_ge (k + 1) route.length with h1 | h1
    · rw [plLegs_at h1]; exact (hg (k + 1) h1).fuel
    · have he : k + 1 = route.length := by omega
      have : (plLegs u route pos time fuel)[k + 1] = homeL u (goSt u route pos time fuel route.length) := by
        rw [← plLegs_last (u := u) (route := route) (pos := pos) (time := time) (fuel := fuel) (by omega)]
        congr 1
      rw [this, hh.fuel, hh.leave, hh.start]
      have e1 : (goSt u route pos time fuel route.length).fuel = (goLeg u route pos time fuel k).fuel := by rw [← he]; rfl
      rw [e1]
      congr 2
      omega

/-! ### A plan of the ways that are left -/
theorem atN_drop (m k : Nat) : atN .way (route.drop m) k = atN .way route (m + k) := by
  unfold atN
  rw [List.getD, List.getD, List.getElem?_drop]
theorem goSt_succ (k : Nat) : (goSt u route pos time fuel (k + 1)).pos = (goLeg u route pos time fuel k).to_ ∧ (goSt u route pos time fuel (k + 1)).time = (goLeg u route pos time fuel k).leave ∧ (goSt u route pos time fuel (k + 1)).fuel = (goLeg u route pos time fuel k).fuel ∧ (goSt u route pos time fuel (k + 1)).out = (goSt u route pos time fuel k).out ++ [goLeg u route pos time fuel k] := ⟨rfl, rfl, rfl, rfl⟩
theorem goSt_drop (m : Nat) {g : GoSt} (hg : goSt u route pos time fuel m = g) : ∀ k, (goSt u (route.drop m) g.pos g.time g.fuel k).pos = (goSt u route pos time fuel (m + k)).pos ∧
      (goSt u (route.drop m) g.pos g.time g.fuel k).time = (goSt u route pos time fuel (m + k)).time ∧
      (goSt u (route.drop m) g.pos g.time g.fuel k).fuel = (goSt u route pos time fuel (m + k)).fuel ∧
      (goSt u route pos time fuel (m + k)).out = g.out ++ (goSt u (route.drop m) g.pos g.time g.fuel k).out
  | 0 => by subst hg; exact ⟨rfl, rfl, rfl, (List.append_nil _).symm⟩
  | k + 1 => by
    obtain ⟨h1, h2, h3, h4⟩ := goSt_drop m hg k
    have e : m + (k + 1) = m + k + 1 := rfl
    have hl : goLeg u (route.drop m) g.pos g.time g.fuel k = goLeg u route pos time fuel (m + k) := by
      unfold goLeg
      rw [h1, h2, h3, atN_drop]
    obtain ⟨a1, a2, a3, a4⟩ := goSt_succ (u := u) (route := route.drop m) (pos := g.pos) (time := g.time) (fuel := g.fuel) k
    obtain ⟨b1, b2, b3, b4⟩ := goSt_succ (u := u) (route := route) (pos := pos) (time := time) (fuel := fuel) (m + k)
    rw [e, a1, a2, a3, a4, b1, b2, b3, b4, h4, hl, List.append_assoc]
    exact ⟨rfl, rfl, rfl, rfl⟩
theorem goLeg_drop (m k : Nat) : goLeg u (route.drop m) (goSt u route pos time fuel m).pos (goSt u route pos time fuel m).time (goSt u route pos time fuel m).fuel k = goLeg u route pos time fuel (m + k) := by
  obtain ⟨h1, h2, h3, _⟩ := goSt_drop (u := u) (route := route) (pos := pos) (time := time) (fuel := fuel) m rfl k
  unfold goLeg
  rw [h1, h2, h3, atN_drop]
theorem goStop_drop (hs : goStop u since sky route pos time fuel = none) (m : Nat) : goStop u since sky (route.drop m) (goSt u route pos time fuel m).pos (goSt u route pos time fuel m).time (goSt u route pos time fuel m).fuel = none := by
  unfold goStop at hs ⊢
  rw [List.find?_eq_none] at hs ⊢
  intro k hk
  rw [List.mem_range'_1, List.length_drop] at hk
  have := hs (m + k) (by rw [List.mem_range'_1]; omega)
  unfold goWhy at this ⊢
  rw [goLeg_drop, atN_drop]
  exact this
theorem plL_drop (hs : goStop u since sky route pos time fuel = none) {m : Nat} (hm : m ≤ route.length) :
    plL u since sky (route.drop m) (goSt u route pos time fuel m).pos (goSt u route pos time fuel m).time (goSt u route pos time fuel m).fuel = (plLegs u route pos time fuel).drop m ∧
    plE u since sky (route.drop m) (goSt u route pos time fuel m).pos (goSt u route pos time fuel m).time (goSt u route pos time fuel m).fuel = 0 := by
  have h0 := goStop_drop hs m
  obtain ⟨h1, h2, h3, h4⟩ := goSt_drop (u := u) (route := route) (pos := pos) (time := time) (fuel := fuel) m rfl (route.length - m)
  unfold plL plE
  rw [h0]
  refine ⟨?_, rfl⟩
  show (goSt u (route.drop m) _ _ _ (route.drop m).length).out ++ [homeL u (goSt u (route.drop m) _ _ _ (route.drop m).length)] = _
  rw [List.length_drop]
  have e : m + (route.length - m) = route.length := by omega
  rw [e] at h1 h2 h3 h4
  unfold plLegs
  rw [List.drop_append_of_le_length (by rw [goSt_len]; exact hm), h4, List.drop_left' (goSt_len _ _ _ _ _ _)]
  congr 2
  unfold homeL
  rw [h1, h2, h3]
/-- To stay where one is can always be done, where one could go home from there. -/
theorem stay_ok (hu : UnitP u) (hsk : skyOk sky = true) (hsn : 0 ≤ since ∧ since ≤ 1073741824) {g : GoSt} (hg : GoP u g) (hl : LastP u since sky g) : whyR u since sky (legR u g.pos g.time g.fuel ⟨g.pos, 0⟩) (takeR u g.pos u.base) = 0 := by
  have ht0 := hg.t0
  have ht1 := hg.t1
  have hf0 := hg.f0
  have hf1 := hg.f1
  have hz := take_0 hu g.pos
  obtain ⟨_, a0, a1, _⟩ := takes_eq hu hg.placed hu.base
  have hb := burn_eq hu (t := takeR u g.pos u.base) (by omega)
  have hL : legR u g.pos g.time g.fuel ⟨g.pos, 0⟩ = ⟨g.pos, g.pos, g.time, g.time, g.time, g.fuel⟩ := by
    unfold legR
    have e1 : wr (g.time + takeR u g.pos g.pos) = g.time := by rw [hz, Int.add_zero]; exact wr_small (by omega) (by omega)
    have e2 : wr (g.time + 0) = g.time := by rw [Int.add_zero]; exact wr_small (by omega) (by omega)
    have e3 : wr (g.time - g.time) = 0 := by rw [Int.sub_self]; rfl
    have e4 : wr (g.fuel - 0) = g.fuel := by rw [Int.sub_zero]; exact wr_small (by omega) (by omega)
    show (⟨g.pos, g.pos, g.time, wr (g.time + takeR u g.pos g.pos), wr (wr (g.time + takeR u g.pos g.pos) + 0), wr (g.fuel - burnR u (wr (wr (wr (g.time + takeR u g.pos g.pos) + 0) - g.time)))⟩ : Leg) = _
    rw [e1, e2, e3, burn_0 hu, e4]
  rw [hL]
  have hwb : wr (g.time + takeR u g.pos u.base) = g.time + takeR u g.pos u.base := wr_small (by omega) (by omega)
  have h1 := hl.late
  have h2 := hl.dry
  have h3 := hl.tired
  have q1 : lateR ⟨g.pos, g.pos, g.time, g.time, g.time, g.fuel⟩ (takeR u g.pos u.base) = false := by
    unfold lateR
    show decide (wr (g.time + takeR u g.pos u.base) > 1073741824) = false
    rw [hwb]
    exact decide_eq_false (by omega)
  have q2 : dryR u ⟨g.pos, g.pos, g.time, g.time, g.time, g.fuel⟩ (takeR u g.pos u.base) = false := by
    unfold dryR
    show decide (wr (g.fuel - burnR u (takeR u g.pos u.base)) < u.reserve) = false
    rw [wr_small (by omega) (by omega)]
    exact decide_eq_false (by omega)
  have q3 : tiredR u since ⟨g.pos, g.pos, g.time, g.time, g.time, g.fuel⟩ (takeR u g.pos u.base) = false := by
    unfold tiredR
    show decide (wr (wr (g.time + takeR u g.pos u.base) - since) > u.hours) = false
    rw [hwb, wr_small (by omega) (by omega)]
    exact decide_eq_false (by omega)
  have q4 : roughR u sky ⟨g.pos, g.pos, g.time, g.time, g.time, g.fuel⟩ (takeR u g.pos u.base) = false := by
    unfold roughR
    show (bif skyBad sky g.pos g.pos g.time g.time u then true else skyBad sky g.pos u.base g.time (wr (g.time + takeR u g.pos u.base)) u) = false
    rw [hwb, hl.rough]
    have : skyBad sky g.pos g.pos g.time g.time u = false := by
      have hr := hl.rough
      unfold skyBad at hr ⊢
      rw [List.any_eq_false] at hr ⊢
      intro x hx
      have hx1 := hr x hx
      have hf := (skyOk_all hsk).1 x hx
      unfold frontOk at hf
      simp only [bif_f, Bool.and_eq_true, decide_eq_true_eq, placed_iff, timed_iff, within_iff] at hf
      unfold badR concernsR at hx1 ⊢
      simp only [bif_f, bif_t, Bool.and_eq_true, Bool.or_eq_true, decide_eq_true_eq, imax_le, le_imin] at hx1 ⊢
      have a1 : imin g.pos.x g.pos.x = g.pos.x := by unfold imin; simp
      have a2 : imax g.pos.x g.pos.x = g.pos.x := by unfold imax; simp
      have a3 : imin g.pos.y g.pos.y = g.pos.y := by unfold imin; simp
      have a4 : imax g.pos.y g.pos.y = g.pos.y := by unfold imax; simp
      rw [a1, a2, a3, a4]
      have b1 : imin g.pos.x u.base.x ≤ g.pos.x ∧ g.pos.x ≤ imax g.pos.x u.base.x := by unfold imin imax; split <;> split <;> omega
      have b2 : imin g.pos.y u.base.y ≤ g.pos.y ∧ g.pos.y ≤ imax g.pos.y u.base.y := by unfold imin imax; split <;> split <;> omega
      intro hh
      apply hx1
      omega
    rw [this]
    rfl
  unfold whyR
  rw [q1, q2, q3, q4]
  rfl
end
/-- A plan that is made again at the end of a leg of one of its ways is what is left of it. -/
theorem again_rest {u : Unit'} {start : Int} {route : List Way} {sky : List Front} (hE : (PlE u start route sky != 0) = false) {i : Nat} (hi : i < route.length) :
    AgE u (PlL u start route sky) (atN .leg (PlL u start route sky) i).leave (route.drop (i + 1)) sky = 0 ∧ AgL u (PlL u start route sky) (atN .leg (PlL u start route sky) i).leave (route.drop (i + 1)) sky = (PlL u start route sky).drop (i + 1) := by
  obtain ⟨hA, hlen, hstop, hL⟩ := plan_ok hE
  obtain ⟨hU, hS, hR, hT⟩ := pArg_ok hA
  have hu := unitOk_P hU
  have hT' := (timed_iff start).1 hT
  have hW := List.all_eq_true.1 hR
  have hF : 0 ≤ u.fuel ∧ u.fuel ≤ 1073741824 := ⟨hu.f0, hu.f1⟩
  have hfl := flight hu hT' hW hu.base hT' hF hstop (by omega)
  have hlen' : (plLegs u route u.base start u.fuel).length = route.length + 1 := plLegs_len
  rw [hL]
  change AgE u (plLegs u route u.base start u.fuel) _ _ _ = 0 ∧ AgL u (plLegs u route u.base start u.fuel) _ _ _ = (plLegs u route u.base start u.fuel).drop (i + 1)
  have hil : i < (plLegs u route u.base start u.fuel).length := by omega
  rw [show atN .leg ((goSt u route u.base start u.fuel route.length).out ++ [homeL u (goSt u route u.base start u.fuel route.length)]) i = (plLegs u route u.base start u.fuel)[i] from atN_nat (T := .leg) hil]
  have hli : (plLegs u route u.base start u.fuel)[i] = goLeg u route u.base start u.fuel i := plLegs_at hi hil
  obtain ⟨k, hk, hki, hs, h1, h2⟩ := at_first hfl.legs (t := (plLegs u route u.base start u.fuel)[i].leave) (by
    have := leaves_mono hfl.legs i 0 (by omega)
    have e : (plLegs u route u.base start u.fuel)[0 + i] = (plLegs u route u.base start u.fuel)[i] := by congr 1; omega
    rw [e] at this
    have := leg_span (hfl.legs.leg 0 hfl.legs.ne)
    omega) hil (Int.le_refl _)
  obtain ⟨d, rfl⟩ : ∃ d, i = k + d := ⟨i - k, by omega⟩
  have hmono := leaves_mono hfl.legs d k (by omega)
  have heq : (plLegs u route u.base start u.fuel)[k].leave = (plLegs u route u.base start u.fuel)[k + d].leave := by omega
  obtain ⟨s1, s2⟩ := same_end hu hfl d k (by omega) heq
  have hlg := legsOk_of hfl.legs
  have hB : atB (plLegs u route u.base start u.fuel) (plLegs u route u.base start u.fuel)[k + d].leave = true := by unfold atB; rw [hs]; rfl
  have hV : atV (plLegs u route u.base start u.fuel) (plLegs u route u.base start u.fuel)[k + d].leave = (plLegs u route u.base start u.fuel)[k] := by unfold atV; rw [hs]; rfl
  have hpos : agPos (plLegs u route u.base start u.fuel) (plLegs u route u.base start u.fuel)[k + d].leave = (goSt u route u.base start u.fuel (k + d + 1)).pos := by
    have hal := (hfl.legs.leg k hk).al
    unfold agPos
    rw [hV]
    unfold prX prY
    rw [show decide ((plLegs u route u.base start u.fuel)[k + d].leave ≥ (plLegs u route u.base start u.fuel)[k].arrive) = true from decide_eq_true (by omega)]
    show (⟨(plLegs u route u.base start u.fuel)[k].to_.x, (plLegs u route u.base start u.fuel)[k].to_.y⟩ : Spot) = _
    rw [s1, hli]
    rfl
  have hleft : leftV u (plLegs u route u.base start u.fuel) (plLegs u route u.base start u.fuel)[k + d].leave = (goSt u route u.base start u.fuel (k + d + 1)).fuel := by
    rw [(left_at hu hU hfl.legs hk hs h1 h2).2.1, heq, Int.sub_self, Int.mul_zero, s2, hli]
    show _ + (0 : Int) = _
    rw [Int.add_zero]
    rfl
  have hsince : agSince (plLegs u route u.base start u.fuel) = start := by
    unfold agSince
    rw [atN_nat (T := .leg) hfl.legs.ne]
    exact hfl.first.2
  have hlv : (plLegs u route u.base start u.fuel)[k + d].leave = (goSt u route u.base start u.fuel (k + d + 1)).time := by rw [hli]; rfl
  have hgA : gArg u (plLegs u route u.base start u.fuel) (route.drop (k + d + 1)) sky = false := by
    unfold gArg
    rw [hU, hlg, hS, show List.all (route.drop (k + d + 1)) wayOk = true from List.all_eq_true.2 fun w hw => hW w (List.mem_of_mem_drop hw)]
    rfl
  have hpl : pLong (route.drop (k + d + 1)) = false := decide_eq_false (by rw [List.length_drop]; omega)
  have hag : agStop u (plLegs u route u.base start u.fuel) (plLegs u route u.base start u.fuel)[k + d].leave (route.drop (k + d + 1)) sky = false := by
    unfold agStop
    have hw : agWhy u (plLegs u route u.base start u.fuel) (plLegs u route u.base start u.fuel)[k + d].leave sky = 0 := by
      unfold agWhy
      rw [hsince, hpos, hleft, hlv]
      exact stay_ok hu hS hT' (goP hu hT' hW hu.base hT' hF hstop (k + d + 1) (by omega)) (last_P hu hT' hW hu.base hT' hF hstop hi)
    rw [hw]
    cases ((route.drop (k + d + 1)).length : Int) == 0 <;> rfl
  obtain ⟨p1, p2⟩ := plL_drop (u := u) (since := start) (sky := sky) (route := route) (pos := u.base) (time := start) (fuel := u.fuel) hstop (m := k + d + 1) (by omega)
  unfold AgE AgL
  rw [hgA, hB, hpl, hag, hsince, hpos, hleft, hlv]
  exact ⟨p2, p1⟩
end Go.Proofs.YtnbcmgdogohenaaDoor.Ev
/- Summaries of functions, printed by a program out of a list, and what is made of them. -/
set_option maxRecDepth 100000
namespace Go.Proofs.YtnbcmgdogohenaaDoor.Ev
open Go Go.RowKit Go.Proofs
/-- A time of the flight, out of any number. -/
def atTime (start all b : Int) : Int := wr (start + (Int.tmod (wr ((Int.tmod b all) + all)) all))
theorem atTime_in {start all b : Int} (hs : 0 ≤ start ∧ start ≤ 1073741824) (ha : 1 ≤ all ∧ all ≤ 1073741825) : start ≤ atTime start all b ∧ atTime start all b ≤ start + all - 1 := by
  have h1 := Int.tmod_lt_of_pos b (show 0 < all by omega)
  have h2 : -all < Int.tmod b all := by
    rcases Int.le_total 0 b with hb | hb
    · have := Int.tmod_nonneg all hb; omega
    · have h3 := Int.tmod_lt_of_pos (-b) (show 0 < all by omega)
      rw [Int.neg_tmod] at h3
      omega
  have h3 : wr ((Int.tmod b all) + all) = Int.tmod b all + all := wr_small (by omega) (by omega)
  have h4 := Int.tmod_nonneg all (show 0 ≤ Int.tmod b all + all by omega)
  have h5 := Int.tmod_lt_of_pos (Int.tmod b all + all) (show 0 < all by omega)
  unfold atTime
  rw [h3, wr_small (by omega) (by omega)]
  omega
theorem imin_imax (a b : Int) : imin a b ≤ imax a b ∧ (imin a b = a ∨ imin a b = b) ∧ (imax a b = a ∨ imax a b = b) := by unfold imin imax; split <;> split <;> omega
theorem fn11 : FnOk 11 Tryd.f11 := ⟨by kernel_rfl, by kernel_rfl, by kernel_rfl, by kernel_rfl⟩
theorem e11 (u : Unit') (start : Int) (route : List Way) (sky : List Front) (at0 : Int) (b0 : Int) (b1 : Int) : evFn (cx glU (mkG [(15, F15), (23, F23), (16, F16), (24, F24), (39, F39), (26, F26), (29, F29)]) [] []) noK noL Tryd.f11 [.agg [.s u.name, .i .i64 u.speed, .i .i64 u.fuel, .i .i64 u.burn, .i .i64 u.reserve, .i .i64 u.hours, .i .i64 u.sea, .i .i64 u.wind, .i .i64 u.base.x, .i .i64 u.base.y, .i .i64 u.margin, .i .i64 u.level], .agg [.i .i64 start, .sl .way route, .sl .front sky], .i .u8 at0, .agg [.i .i64 b0, .i .i64 b1]] noObjs = (match (bif (greatS u) then true else (largeS route sky)) with | true => an (.b true) | false => (match (decide (route.length ≤ 1000000) && decide (sky.length ≤ 1000000)) with | true => (match (bif ((PlE u start route sky) != 0) then true else ((route.length : Int) == 0)) with | true => an (.b true) | false => (match (((PlL u start route sky).length : Int) != (wr ((route.length : Int) + 1))) with | true => an (.b false) | false => (match (!((route.length : Int) == 0)) with | true => (match (inB (Int.tmod (wr at0) (route.length : Int)) ((PlL u start route sky).length)) with | true => (match (decide (0 ≤ (wr ((Int.tmod (wr at0) (route.length : Int)) + 1))) && decide ((wr ((Int.tmod (wr at0) (route.length : Int)) + 1)) ≤ (route.length : Int))) with | true => (match (decide ((PlL u start route sky).length ≤ 1000000) && (decide ((List.drop (Int.toNat (wr ((Int.tmod (wr at0) (route.length : Int)) + 1))) route).length ≤ 1000000) && decide (sky.length ≤ 1000000))) with | true => (match ((decide (0 ≤ (wr ((Int.tmod (wr at0) (route.length : Int)) + 1))) && decide ((wr ((Int.tmod (wr at0) (route.length : Int)) + 1)) ≤ (((PlL u start route sky).length) : Int))) || (((AgE u (PlL u start route sky) ((atD .leg (PlL u start route sky) (Int.tmod (wr at0) (route.length : Int))).leave) (List.drop (Int.toNat (wr ((Int.tmod (wr at0) (route.length : Int)) + 1))) route) sky) != 0) || false)) with | true => (match ((decide ((AgL u (PlL u start route sky) ((atD .leg (PlL u start route sky) (Int.tmod (wr at0) (route.length : Int))).leave) (List.drop (Int.toNat (wr ((Int.tmod (wr at0) (route.length : Int)) + 1))) route) sky).length ≤ 1000000)) || (((AgE u (PlL u start route sky) ((atD .leg (PlL u start route sky) (Int.tmod (wr at0) (route.length : Int))).leave) (List.drop (Int.toNat (wr ((Int.tmod (wr at0) (route.length : Int)) + 1))) route) sky) != 0) || false)) with | true => (match (bif ((AgE u (PlL u start route sky) ((atD .leg (PlL u start route sky) (Int.tmod (wr at0) (route.length : Int))).leave) (List.drop (Int.toNat (wr ((Int.tmod (wr at0) (route.length : Int)) + 1))) route) sky) != 0) then true else (!(sameS eqL (AgL u (PlL u start route sky) ((atD .leg (PlL u start route sky) (Int.tmod (wr at0) (route.length : Int))).leave) (List.drop (Int.toNat (wr ((Int.tmod (wr at0) (route.length : Int)) + 1))) route) sky) (List.drop (Int.toNat (wr ((Int.tmod (wr at0) (route.length : Int)) + 1))) (PlL u start route sky))))) with | true => an (.b false) | false => (match (inB (wr (((PlL u start route sky).length : Int) - 1)) ((PlL u start route sky).length)) with | true => (match (decide ((wr ((wr (((atD .leg (PlL u start route sky) (wr (((PlL u start route sky).length : Int) - 1))).leave) - start)) + 1)) < 1)) with | true => an (.b false) | false => (match (!((wr ((wr (((atD .leg (PlL u start route sky) (wr (((PlL u start route sky).length : Int) - 1))).leave) - start)) + 1)) == 0)) with | true => (match (!((wr ((wr (((atD .leg (PlL u start route sky) (wr (((PlL u start route sky).length : Int) - 1))).leave) - start)) + 1)) == 0)) with | true => (match (!((wr ((wr (((atD .leg (PlL u start route sky) (wr (((PlL u start route sky).length : Int) - 1))).leave) - start)) + 1)) == 0)) with | true => (match (!((wr ((wr (((atD .leg (PlL u start route sky) (wr (((PlL u start route sky).length : Int) - 1))).leave) - start)) + 1)) == 0)) with | true => (match (decide ((PlL u start route sky).length ≤ 1000000)) with | true => (match (decide ((PlL u start route sky).length ≤ 1000000)) with | true => an (.b (bif (bif (bif (bif ((leftE u (PlL u start route sky) (imin (wr (start + (Int.tmod (wr ((Int.tmod b0 (wr ((wr (((atD .leg (PlL u start route sky) (wr (((PlL u start route sky).length : Int) - 1))).leave) - start)) + 1))) + (wr ((wr (((atD .leg (PlL u start route sky) (wr (((PlL u start route sky).length : Int) - 1))).leave) - start)) + 1)))) (wr ((wr (((atD .leg (PlL u start route sky) (wr (((PlL u start route sky).length : Int) - 1))).leave) - start)) + 1))))) (wr (start + (Int.tmod (wr ((Int.tmod b1 (wr ((wr (((atD .leg (PlL u start route sky) (wr (((PlL u start route sky).length : Int) - 1))).leave) - start)) + 1))) + (wr ((wr (((atD .leg (PlL u start route sky) (wr (((PlL u start route sky).length : Int) - 1))).leave) - start)) + 1)))) (wr ((wr (((atD .leg (PlL u start route sky) (wr (((PlL u start route sky).length : Int) - 1))).leave) - start)) + 1))))))) == 0) then ((leftE u (PlL u start route sky) (imax (wr (start + (Int.tmod (wr ((Int.tmod b0 (wr ((wr (((atD .leg (PlL u start route sky) (wr (((PlL u start route sky).length : Int) - 1))).leave) - start)) + 1))) + (wr ((wr (((atD .leg (PlL u start route sky) (wr (((PlL u start route sky).length : Int) - 1))).leave) - start)) + 1)))) (wr ((wr (((atD .leg (PlL u start route sky) (wr (((PlL u start route sky).length : Int) - 1))).leave) - start)) + 1))))) (wr (start + (Int.tmod (wr ((Int.tmod b1 (wr ((wr (((atD .leg (PlL u start route sky) (wr (((PlL u start route sky).length : Int) - 1))).leave) - start)) + 1))) + (wr ((wr (((atD .leg (PlL u start route sky) (wr (((PlL u start route sky).length : Int) - 1))).leave) - start)) + 1)))) (wr ((wr (((atD .leg (PlL u start route sky) (wr (((PlL u start route sky).length : Int) - 1))).leave) - start)) + 1))))))) == 0) else false) then (decide ((leftV u (PlL u start route sky) (imin (wr (start + (Int.tmod (wr ((Int.tmod b0 (wr ((wr (((atD .leg (PlL u start route sky) (wr (((PlL u start route sky).length : Int) - 1))).leave) - start)) + 1))) + (wr ((wr (((atD .leg (PlL u start route sky) (wr (((PlL u start route sky).length : Int) - 1))).leave) - start)) + 1)))) (wr ((wr (((atD .leg (PlL u start route sky) (wr (((PlL u start route sky).length : Int) - 1))).leave) - start)) + 1))))) (wr (start + (Int.tmod (wr ((Int.tmod b1 (wr ((wr (((atD .leg (PlL u start route sky) (wr (((PlL u start route sky).length : Int) - 1))).leave) - start)) + 1))) + (wr ((wr (((atD .leg (PlL u start route sky) (wr (((PlL u start route sky).length : Int) - 1))).leave) - start)) + 1)))) (wr ((wr (((atD .leg (PlL u start route sky) (wr (((PlL u start route sky).length : Int) - 1))).leave) - start)) + 1))))))) ≥ (leftV u (PlL u start route sky) (imax (wr (start + (Int.tmod (wr ((Int.tmod b0 (wr ((wr (((atD .leg (PlL u start route sky) (wr (((PlL u start route sky).length : Int) - 1))).leave) - start)) + 1))) + (wr ((wr (((atD .leg (PlL u start route sky) (wr (((PlL u start route sky).length : Int) - 1))).leave) - start)) + 1)))) (wr ((wr (((atD .leg (PlL u start route sky) (wr (((PlL u start route sky).length : Int) - 1))).leave) - start)) + 1))))) (wr (start + (Int.tmod (wr ((Int.tmod b1 (wr ((wr (((atD .leg (PlL u start route sky) (wr (((PlL u start route sky).length : Int) - 1))).leave) - start)) + 1))) + (wr ((wr (((atD .leg (PlL u start route sky) (wr (((PlL u start route sky).length : Int) - 1))).leave) - start)) + 1)))) (wr ((wr (((atD .leg (PlL u start route sky) (wr (((PlL u start route sky).length : Int) - 1))).leave) - start)) + 1))))))))) else false) then (decide ((wr (3600 * (wr (u.fuel - (leftV u (PlL u start route sky) (imin (wr (start + (Int.tmod (wr ((Int.tmod b0 (wr ((wr (((atD .leg (PlL u start route sky) (wr (((PlL u start route sky).length : Int) - 1))).leave) - start)) + 1))) + (wr ((wr (((atD .leg (PlL u start route sky) (wr (((PlL u start route sky).length : Int) - 1))).leave) - start)) + 1)))) (wr ((wr (((atD .leg (PlL u start route sky) (wr (((PlL u start route sky).length : Int) - 1))).leave) - start)) + 1))))) (wr (start + (Int.tmod (wr ((Int.tmod b1 (wr ((wr (((atD .leg (PlL u start route sky) (wr (((PlL u start route sky).length : Int) - 1))).leave) - start)) + 1))) + (wr ((wr (((atD .leg (PlL u start route sky) (wr (((PlL u start route sky).length : Int) - 1))).leave) - start)) + 1)))) (wr ((wr (((atD .leg (PlL u start route sky) (wr (((PlL u start route sky).length : Int) - 1))).leave) - start)) + 1))))))))))) ≥ (wr (u.burn * (wr ((imin (wr (start + (Int.tmod (wr ((Int.tmod b0 (wr ((wr (((atD .leg (PlL u start route sky) (wr (((PlL u start route sky).length : Int) - 1))).leave) - start)) + 1))) + (wr ((wr (((atD .leg (PlL u start route sky) (wr (((PlL u start route sky).length : Int) - 1))).leave) - start)) + 1)))) (wr ((wr (((atD .leg (PlL u start route sky) (wr (((PlL u start route sky).length : Int) - 1))).leave) - start)) + 1))))) (wr (start + (Int.tmod (wr ((Int.tmod b1 (wr ((wr (((atD .leg (PlL u start route sky) (wr (((PlL u start route sky).length : Int) - 1))).leave) - start)) + 1))) + (wr ((wr (((atD .leg (PlL u start route sky) (wr (((PlL u start route sky).length : Int) - 1))).leave) - start)) + 1)))) (wr ((wr (((atD .leg (PlL u start route sky) (wr (((PlL u start route sky).length : Int) - 1))).leave) - start)) + 1)))))) - start)))))) else false) then true else false)) | false => none) | false => none) | false => none) | false => none) | false => none) | false => none)) | false => none)) | false => none) | false => none) | false => none) | false => none) | false => none) | false => none))) | false => none)) := by kernel_rfl
def F11 : List PV → Option (Bool × PV)
  | [.agg uL, .agg [.i .i64 start, .sl .way route, .sl .front sky], .i .u8 at0, .agg [.i .i64 b0, .i .i64 b1]] => (ETy.dec .unit uL).bind fun u => some ((decide (0 ≤ at0) && decide (at0 < 256)), .b true)
  | _ => none
theorem s11 : Sum glU 11 F11 := by
  intro ps r h
  unfold F11 at h
  split at h
  · rename_i uL start route sky at0 b0 b1
    obtain ⟨u, hu, h_u⟩ := Option.bind_eq_some_iff.1 h
    obtain rfl := dec_is (by simp) hu
    obtain ⟨hc, rfl⟩ := Prod.mk.inj (Option.some.inj h_u)
    refine call_by (K := noK) (L := noL) (bxs := []) (ows := []) (GOk.cons s15 (GOk.cons s23 (GOk.cons s16 (GOk.cons s24 (GOk.cons s39 (GOk.cons s26 (GOk.cons s29 (GOk.nil)))))))) fn11 (noLoops (by kernel_rfl)) (by kernel_rfl) (evF_some ((e11 u start route sky at0 b0 b1).trans ?_))
    simp only [Bool.and_eq_true, decide_eq_true_eq] at hc
    obtain ⟨hc1, hc2⟩ := hc
    cases hg : (bif (greatS u) then true else (largeS route sky)) with
    | true => rfl
    | false =>
      obtain ⟨h1, h2⟩ := large_no hg
      have a1 : decide (route.length ≤ 1000000) = true := decide_eq_true (by omega)
      have a2 : decide (sky.length ≤ 1000000) = true := decide_eq_true (by omega)
      rw [a1, a2]
      cases hE : (PlE u start route sky != 0) with
      | true => rfl
      | false =>
        cases hn : ((route.length : Int) == 0) with
        | true => rfl
        | false =>
          have hn' : 0 < route.length := by
            have : ¬ ((route.length : Int) = 0) := by simpa using hn
            omega
          obtain ⟨hA, hlen, hstop, hL⟩ := plan_ok hE
          obtain ⟨hU, hS, hR, hT⟩ := pArg_ok hA
          have hu := unitOk_P hU
          have hT' := (timed_iff start).1 hT
          have hW := List.all_eq_true.1 hR
          have hF : 0 ≤ u.fuel ∧ u.fuel ≤ 1073741824 := ⟨hu.f0, hu.f1⟩
          have hfl := flight hu hT' hW hu.base hT' hF hstop hn'
          have hLl : (PlL u start route sky).length = route.length + 1 := by rw [hL, List.length_append, goSt_len]; rfl
          have hln : (((PlL u start route sky).length : Int) != wr ((route.length : Int) + 1)) = false := by
            rw [hLl, wr_succ (by omega)]
            exact bne_self_eq_false _
          obtain ⟨i, hi, hti⟩ : ∃ i : Nat, i < route.length ∧ Int.tmod (wr at0) (route.length : Int) = (i : Int) := by
            have hw : wr at0 = at0 := wr_small (by omega) (by omega)
            have t1 := Int.tmod_nonneg (route.length : Int) hc1
            have t2 := Int.tmod_lt_of_pos at0 (show 0 < (route.length : Int) by omega)
            refine ⟨(Int.tmod at0 (route.length : Int)).toNat, by omega, by rw [hw]; omega⟩
          obtain ⟨q1, q2⟩ := again_rest hE hi
          have hwi : wr ((i : Int) + 1) = ((i + 1 : Nat) : Int) := wr_succ (by omega)
          have hib : inB (i : Int) (PlL u start route sky).length = true := inB_nat (by omega)
          have bb1 : (decide (0 ≤ ((i + 1 : Nat) : Int)) && decide (((i + 1 : Nat) : Int) ≤ (route.length : Int))) = true := by rw [decide_eq_true (show (0 : Int) ≤ ((i + 1 : Nat) : Int) by omega), decide_eq_true (show ((i + 1 : Nat) : Int) ≤ (route.length : Int) by omega)]; rfl
          have bb2 : (decide (0 ≤ ((i + 1 : Nat) : Int)) && decide (((i + 1 : Nat) : Int) ≤ ((PlL u start route sky).length : Int))) = true := by rw [decide_eq_true (show (0 : Int) ≤ ((i + 1 : Nat) : Int) by omega), decide_eq_true (show ((i + 1 : Nat) : Int) ≤ ((PlL u start route sky).length : Int) by omega)]; rfl
          have a3 : decide ((PlL u start route sky).length ≤ 1000000) = true := decide_eq_true (by omega)
          have a4 : decide ((List.drop (i + 1) route).length ≤ 1000000) = true := decide_eq_true (by rw [List.length_drop]; omega)
          have a5 : decide ((List.drop (i + 1) (PlL u start route sky)).length ≤ 1000000) = true := decide_eq_true (by rw [List.length_drop]; omega)
          have hwp : wr (((PlL u start route sky).length : Int) - 1) = (route.length : Int) := by rw [hLl]; exact wr_pred (by omega)
          have hil : inB (route.length : Int) (PlL u start route sky).length = true := inB_nat (by omega)
          have e0 : ((0 : Int) != 0) = false := rfl
          simp only [hln, hti, hib, hwi, Int.toNat_natCast, bb1, bb2, a3, a4, atD, q1, q2, a5, e0, sameL_self, hwp, hil, Bool.not_true, Bool.not_false, Bool.true_or, Bool.or_true, Bool.and_self, cond_false]
          have hlast : atN .leg (PlL u start route sky) route.length = homeL u (goSt u route u.base start u.fuel route.length) := by
            unfold atN
            rw [List.getD, hL, List.getElem?_append_right (by rw [goSt_len]; exact Nat.le_refl _), goSt_len, Nat.sub_self]
            rfl
          have hpl : PlL u start route sky = plLegs u route u.base start u.fuel := hL
          have hLs := hfl.legs
          have hll : (plLegs u route u.base start u.fuel).length = route.length + 1 := plLegs_len
          have hlv : (plLegs u route u.base start u.fuel)[route.length].leave = (homeL u (goSt u route u.base start u.fuel route.length)).leave := by rw [plLegs_last]
          have hll1 := (hLs.leg route.length (by omega)).l1
          have hll0 := leaves_mono hLs route.length 0 (by omega)
          have hsp0 := leg_span (hLs.leg 0 (by omega))
          have hf0 := hfl.first.2
          have e00 : (plLegs u route u.base start u.fuel)[0 + route.length] = (plLegs u route u.base start u.fuel)[route.length] := by congr 1; omega
          rw [e00, hlv] at hll0
          rw [hlv] at hll1
          rw [hlast, hpl]
          generalize hD : (homeL u (goSt u route u.base start u.fuel route.length)).leave = D at *
          have hall : wr (wr (D - start) + 1) = D - start + 1 := by
            rw [wr_small (x := D - start) (by omega) (by omega)]
            exact wr_small (by omega) (by omega)
          have c1 : decide (D - start + 1 < 1) = false := decide_eq_false (by omega)
          have c2 : (!(D - start + 1 == 0)) = true := by
            have : (D - start + 1 == 0) = false := by rw [beq_eq_false_iff_ne]; omega
            rw [this]; rfl
          simp only [hall, c1, c2]
          have ta := atTime_in (b := b0) hT' (show 1 ≤ D - start + 1 ∧ D - start + 1 ≤ 1073741825 by omega)
          have tb := atTime_in (b := b1) hT' (show 1 ≤ D - start + 1 ∧ D - start + 1 ≤ 1073741825 by omega)
          change an (.b (bif (bif (bif (bif (leftE u _ (imin (atTime start (D - start + 1) b0) (atTime start (D - start + 1) b1)) == 0) then (leftE u _ (imax (atTime start (D - start + 1) b0) (atTime start (D - start + 1) b1)) == 0) else false) then decide (leftV u _ (imin (atTime start (D - start + 1) b0) (atTime start (D - start + 1) b1)) ≥ leftV u _ (imax (atTime start (D - start + 1) b0) (atTime start (D - start + 1) b1))) else false) then decide (wr (3600 * wr (u.fuel - leftV u _ (imin (atTime start (D - start + 1) b0) (atTime start (D - start + 1) b1)))) ≥ wr (u.burn * wr (imin (atTime start (D - start + 1) b0) (atTime start (D - start + 1) b1) - start))) else false) then true else false)) = _
          generalize atTime start (D - start + 1) b0 = A at *
          generalize atTime start (D - start + 1) b1 = B at *
          have hmm := imin_imax A B
          have hlawD : (plLegs u route u.base start u.fuel)[(plLegs u route u.base start u.fuel).length - 1].leave = D := by
            rw [← hlv]
            congr 2
            omega
          have law := left_law hu hU hfl hF (a := imin A B) (b := imax A B) (by omega) hmm.1 (by rw [hlawD]; omega)
          obtain ⟨l1, l2, l3, l4, l5, l6, l7, l8⟩ := law
          rw [l1, l2, decide_eq_true (show leftV u (plLegs u route u.base start u.fuel) (imin A B) ≥ leftV u (plLegs u route u.base start u.fuel) (imax A B) from l3)]
          have w1 : wr (imin A B - start) = imin A B - start := wr_small (by omega) (by omega)
          have w2 : wr (u.fuel - leftV u (plLegs u route u.base start u.fuel) (imin A B)) = u.fuel - leftV u (plLegs u route u.base start u.fuel) (imin A B) := wr_small (by omega) (by omega)
          rw [w1, w2, wr_small (x := u.burn * (imin A B - start)) (by omega) (by omega), wr_small (x := 3600 * (u.fuel - leftV u (plLegs u route u.base start u.fuel) (imin A B))) (by omega) (by omega), decide_eq_true (show 3600 * (u.fuel - leftV u (plLegs u route u.base start u.fuel) (imin A B)) ≥ u.burn * (imin A B - start) from l4)]
          rfl
  · simp at h
end Go.Proofs.YtnbcmgdogohenaaDoor.Ev
