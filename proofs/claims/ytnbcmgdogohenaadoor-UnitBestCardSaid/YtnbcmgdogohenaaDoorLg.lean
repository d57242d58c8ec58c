/- What a plan that is made has: its legs, one by one. -/
import Derived.Test.YtnbcmgdogohenaaDoorLf
set_option linter.unusedVariables false
set_option linter.unusedSimpArgs false
namespace Go.Proofs.YtnbcmgdogohenaaDoor.Ev
open Go Go.RowKit Go.Proofs

theorem burn_eq {u : Unit'} (hu : UnitP u) {t : Int} (ht : 0 ≤ t ∧ t ≤ 2 ^ 39) : burnR u t = (u.burn * t + 3599) / 3600 ∧ 0 ≤ burnR u t ∧ burnR u t ≤ 2 ^ 60 ∧ hoursS u t = burnR u t := by
  have h1 := hu.b0
  have h2 := hu.b1
  have m1 := mul_bound (a := u.burn) (b := t) (A := 1048576) (B := 2 ^ 39) (by omega) ht (by omega)
  have m0 := Int.mul_nonneg h1 ht.1
  have hp : wr (u.burn * t) = u.burn * t := wr_small (by omega) (by omega)
  have hc := ceil_eq (n := u.burn * t) (b := 3600) (by omega) (by omega)
  have e : burnR u t = (u.burn * t + 3600 - 1) / 3600 := by unfold burnR; rw [hp]; exact hc.1
  have e' : burnR u t = v72 (u.burn * t) 3600 := by unfold burnR; rw [hp]
  have hh : hoursS u t = burnR u t := by
    unfold hoursS burnR v72
    rw [hp, wr_small (x := u.burn * t + 3600) (by omega) (by omega), show u.burn * t + 3600 - 1 = u.burn * t + 3599 by omega]
  refine ⟨by rw [e]; omega, by rw [e']; exact hc.2.1, by rw [e']; omega, hh⟩
/-- A way that can be gone. -/
structure GoneP (u : Unit') (since : Int) (sky : List Front) (g : GoSt) (w : Way) (l : Leg) : Prop where
  fr : l.fr = g.pos
  to_ : l.to_ = w.to_
  start : l.start = g.time
  arrive : l.arrive = g.time + takeR u g.pos w.to_
  leave : l.leave = l.arrive + w.stay
  fuel : l.fuel = g.fuel - burnR u (l.leave - l.start)
  t0 : 0 ≤ takeR u g.pos w.to_
  b0 : 0 ≤ takeR u w.to_ u.base
  s0 : 0 ≤ w.stay
  late : l.leave + takeR u w.to_ u.base ≤ 1073741824
  dry : u.reserve ≤ l.fuel - burnR u (takeR u w.to_ u.base)
  tired : l.leave + takeR u w.to_ u.base - since ≤ u.hours
  rough1 : skyBad sky l.fr l.to_ l.start l.leave u = false
  rough2 : skyBad sky l.to_ u.base l.leave (l.leave + takeR u w.to_ u.base) u = false
section
variable {u : Unit'} {since : Int} {sky : List Front} {route : List Way} {pos : Spot} {time fuel : Int}
/-- The state of a plan under way. -/
structure GoP (u : Unit') (g : GoSt) : Prop where
  placed : placed g.pos = true
  t0 : 0 ≤ g.time
  t1 : g.time ≤ 1073741824
  f0 : 0 ≤ g.fuel
  f1 : g.fuel ≤ 1073741824
theorem gone_P (hu : UnitP u) (hsn : 0 ≤ since ∧ since ≤ 1073741824) (hr : ∀ w ∈ route, wayOk w = true) {k : Nat} (hk : k < route.length) (hg : GoP u (goSt u route pos time fuel k)) (h0 : goWhy u since sky route pos time fuel k = 0) :
    GoneP u since sky (goSt u route pos time fuel k) (atN .way route k) (goLeg u route pos time fuel k) ∧ GoP u (goSt u route pos time fuel (k + 1)) := by
  have hw := hr _ (atN_nat (T := .way) hk ▸ List.getElem_mem hk)
  unfold wayOk at hw
  rw [bif_f, Bool.and_eq_true, timed_iff] at hw
  obtain ⟨hp, hst0, hst1⟩ := hw
  obtain ⟨_, a0, a1, _⟩ := takes_eq hu hg.placed hp
  obtain ⟨_, b0, b1, _⟩ := takes_eq hu hp hu.base
  have t0 := hg.t0
  have t1 := hg.t1
  have f0 := hg.f0
  have f1 := hg.f1
  generalize hL : goLeg u route pos time fuel k = l at *
  have ha : l.arrive = (goSt u route pos time fuel k).time + takeR u (goSt u route pos time fuel k).pos (atN .way route k).to_ := by
    rw [← hL]; exact wr_small (by omega) (by omega)
  have hs : l.start = (goSt u route pos time fuel k).time := by rw [← hL]; rfl
  have hl : l.leave = l.arrive + (atN .way route k).stay := by
    have : l.leave = wr (l.arrive + (atN .way route k).stay) := by rw [← hL]; rfl
    rw [this]; exact wr_small (by omega) (by omega)
  have hb := burn_eq hu (t := l.leave - l.start) (by omega)
  have hb2 := burn_eq hu (t := takeR u (atN .way route k).to_ u.base) (by omega)
  have hwl : wr (l.leave - l.start) = l.leave - l.start := wr_small (by omega) (by omega)
  have hf : l.fuel = (goSt u route pos time fuel k).fuel - burnR u (l.leave - l.start) := by
    have : l.fuel = wr ((goSt u route pos time fuel k).fuel - burnR u (wr (l.leave - l.start))) := by rw [← hL]; rfl
    rw [this, hwl]; exact wr_small (by omega) (by omega)
  have hwb : wr (l.leave + takeR u (atN .way route k).to_ u.base) = l.leave + takeR u (atN .way route k).to_ u.base := wr_small (by omega) (by omega)
  unfold goWhy whyR at h0
  rw [hL] at h0
  cases q1 : lateR l (takeR u (atN .way route k).to_ u.base) with
  | true => rw [q1] at h0; exact absurd (show (4 : Int) = 0 from h0) (by decide)
  | false =>
    cases q2 : dryR u l (takeR u (atN .way route k).to_ u.base) with
    | true => rw [q1, q2] at h0; exact absurd (show (1 : Int) = 0 from h0) (by decide)
    | false =>
      cases q3 : tiredR u since l (takeR u (atN .way route k).to_ u.base) with
      | true => rw [q1, q2, q3] at h0; exact absurd (show (2 : Int) = 0 from h0) (by decide)
      | false =>
        cases q4 : roughR u sky l (takeR u (atN .way route k).to_ u.base) with
        | true => rw [q1, q2, q3, q4] at h0; exact absurd (show (3 : Int) = 0 from h0) (by decide)
        | false =>
          unfold lateR at q1
          unfold dryR at q2
          unfold tiredR at q3
          unfold roughR at q4
          have q1 := of_decide_eq_false q1
          have q2 := of_decide_eq_false q2
          have q3 := of_decide_eq_false q3
          rw [hwb] at q1 q3 q4
          have w2 : wr (l.fuel - burnR u (takeR u (atN .way route k).to_ u.base)) = l.fuel - burnR u (takeR u (atN .way route k).to_ u.base) := wr_small (by omega) (by omega)
          have w3 : wr (l.leave + takeR u (atN .way route k).to_ u.base - since) = l.leave + takeR u (atN .way route k).to_ u.base - since := wr_small (by omega) (by omega)
          rw [w2] at q2
          rw [w3] at q3
          obtain ⟨r1, r2⟩ := bif_no q4
          have hr0 := hu.r0
          refine ⟨⟨by rw [← hL]; rfl, by rw [← hL]; rfl, hs, ha, hl, hf, a0, b0, hst0, by omega, by omega, by omega, r1, r2⟩, ⟨?_, ?_, ?_, ?_, ?_⟩⟩
          · exact hp
          · show 0 ≤ (goLeg u route pos time fuel k).leave; rw [hL]; omega
          · show (goLeg u route pos time fuel k).leave ≤ _; rw [hL]; omega
          · show 0 ≤ (goLeg u route pos time fuel k).fuel; rw [hL]; omega
          · show (goLeg u route pos time fuel k).fuel ≤ _; rw [hL]; omega
theorem goP (hu : UnitP u) (hsn : 0 ≤ since ∧ since ≤ 1073741824) (hr : ∀ w ∈ route, wayOk w = true) (hp : placed pos = true) (ht : 0 ≤ time ∧ time ≤ 1073741824) (hf : 0 ≤ fuel ∧ fuel ≤ 1073741824) (hs : goStop u since sky route pos time fuel = none) :
    ∀ k, k ≤ route.length → GoP u (goSt u route pos time fuel k)
  | 0, _ => ⟨hp, ht.1, ht.2, hf.1, hf.2⟩
  | k + 1, hk => (gone_P hu hsn hr (by omega) (goP hu hsn hr hp ht hf hs k (by omega)) (by
      unfold goStop at hs
      have := List.find?_eq_none.1 hs k (by simp; omega)
      simpa using this)).2
theorem goneAll (hu : UnitP u) (hsn : 0 ≤ since ∧ since ≤ 1073741824) (hr : ∀ w ∈ route, wayOk w = true) (hp : placed pos = true) (ht : 0 ≤ time ∧ time ≤ 1073741824) (hf : 0 ≤ fuel ∧ fuel ≤ 1073741824) (hs : goStop u since sky route pos time fuel = none) {k : Nat} (hk : k < route.length) :
    GoneP u since sky (goSt u route pos time fuel k) (atN .way route k) (goLeg u route pos time fuel k) :=
  (gone_P hu hsn hr hk (goP hu hsn hr hp ht hf hs k (by omega)) (by
      unfold goStop at hs
      have := List.find?_eq_none.1 hs k (by simp; omega)
      simpa using this)).1
/-- The legs, one by one. -/
theorem goSt_at : ∀ (n k : Nat) (h : k < n), (goSt u route pos time fuel n).out[k]? = some (goLeg u route pos time fuel k)
  | n + 1, k, h => by
    show ((goSt u route pos time fuel n).out ++ [_])[k]? = _
    rcases Nat.lt_or_ge k n with hk | hk
    · rw [List.getElem?_append_left (by rw [goSt_len]; exact hk)]
      exact goSt_at n k hk
    · have : k = n := by omega
      subst this
      rw [List.getElem?_append_right (by rw [goSt_len]; omega), goSt_len, Nat.sub_self]
      rfl
end
end Go.Proofs.YtnbcmgdogohenaaDoor.Ev
/- What a plan that is made has: the way home, and the weather. -/
namespace Go.Proofs.YtnbcmgdogohenaaDoor.Ev
open Go Go.RowKit Go.Proofs

/-- Weather that is too bad, on a leg, in the law's own order. -/
def badH (x : Front) (u : Unit') (c : Leg) : Bool := (bif (bif (bif (decide (x.sea > u.sea)) then true else (decide (x.wind > u.wind))) then (bif (decide (x.fr ≤ c.leave)) then (decide (c.start ≤ x.to_)) else false) else false) then (bif (bif (bif (decide (x.low.x ≤ (imax c.fr.x c.to_.x))) then (decide ((imin c.fr.x c.to_.x) ≤ x.high.x)) else false) then (decide (x.low.y ≤ (imax c.fr.y c.to_.y))) else false) then (decide ((imin c.fr.y c.to_.y) ≤ x.high.y)) else false) else false)
theorem imax_le {a b c : Int} : imax a b ≤ c ↔ a ≤ c ∧ b ≤ c := by unfold imax; split <;> omega
theorem le_imin {a b c : Int} : c ≤ imin a b ↔ c ≤ a ∧ c ≤ b := by unfold imin; split <;> omega
theorem imin_max (a b : Int) : imin a b ≤ imax a b := by unfold imin imax; split <;> split <;> omega
theorem badH_no {sky : List Front} {u : Unit'} {c : Leg} (hs : skyOk sky = true) (hc : c.start ≤ c.leave) (h : skyBad sky c.fr c.to_ c.start c.leave u = false) {x : Front} (hx : x ∈ sky) : badH x u c = false := by
  have hf := (skyOk_all hs).1 x hx
  unfold frontOk at hf
  simp only [bif_f, Bool.and_eq_true, decide_eq_true_eq, placed_iff, timed_iff, within_iff] at hf
  have hb : badR x c.fr c.to_ c.start c.leave u = false := by
    unfold skyBad at h
    rw [List.any_eq_false] at h
    simpa using h x hx
  cases hh : badH x u c with
  | false => rfl
  | true =>
    exfalso
    unfold badH at hh
    simp only [bif_f, bif_t, Bool.and_eq_true, decide_eq_true_eq] at hh
    obtain ⟨⟨h1, h2, h3⟩, ⟨⟨h4, h5⟩, h6⟩, h7⟩ := hh
    have hcc : concernsR x c.fr c.to_ c.start c.leave = true := by
      unfold concernsR
      simp only [bif_f, Bool.and_eq_true, decide_eq_true_eq, imax_le, le_imin]
      have := imin_max c.fr.x c.to_.x
      have := imin_max c.fr.y c.to_.y
      omega
    unfold badR at hb
    rw [hcc] at hb
    have : (bif decide (x.sea > u.sea) then true else decide (x.wind > u.wind)) = false := hb
    rw [bif_t, h1] at this
    exact Bool.noConfusion this
theorem wayR_0 (p : Spot) : wayR (sq p p) = 0 := by
  have h : sq p p = 0 := by
    unfold sq
    rw [Int.sub_self, Int.sub_self]
    rfl
  rw [h, ← way_same (q := 0) (by decide) (by decide)]
  rfl
theorem take_0 {u : Unit'} (hu : UnitP u) (p : Spot) : takeR u p p = 0 := by
  have hs := hu.s1
  have hs2 := hu.s2
  unfold takeR
  rw [wayR_0]
  have := (ceil_eq (n := 0) (b := u.speed) (by omega) ⟨hs, hs2⟩).2
  have e : wr (0 * 3600) = 0 := rfl
  rw [e]
  omega
theorem burn_0 {u : Unit'} (hu : UnitP u) : burnR u 0 = 0 := by
  have := (burn_eq hu (t := 0) (by omega)).1
  rw [this, Int.mul_zero]
  rfl
/-- The way home of a plan under way. -/
structure HomeP (u : Unit') (since : Int) (sky : List Front) (g : GoSt) (h : Leg) : Prop where
  fr : h.fr = g.pos
  to_ : h.to_ = u.base
  start : h.start = g.time
  arrive : h.arrive = g.time + takeR u g.pos u.base
  leave : h.leave = g.time + takeR u g.pos u.base
  fuel : h.fuel = g.fuel - burnR u (takeR u g.pos u.base)
  t0 : 0 ≤ takeR u g.pos u.base
  t1 : takeR u g.pos u.base ≤ 274877906944
theorem home_P {u : Unit'} (hu : UnitP u) {since : Int} {sky : List Front} {g : GoSt} (hg : GoP u g) : HomeP u since sky g (homeL u g) := by
  obtain ⟨_, a0, a1, _⟩ := takes_eq hu hg.placed hu.base
  have t0 := hg.t0
  have t1 := hg.t1
  have f0 := hg.f0
  have f1 := hg.f1
  have hb := burn_eq hu (t := takeR u g.pos u.base) (by omega)
  exact ⟨rfl, rfl, rfl, wr_small (by omega) (by omega), wr_small (by omega) (by omega), wr_small (by omega) (by omega), a0, a1⟩
/-- What is behind the last way of a plan: home in time, with the reserve, in weather that is not too bad. -/
structure LastP (u : Unit') (since : Int) (sky : List Front) (g : GoSt) : Prop where
  late : g.time + takeR u g.pos u.base ≤ 1073741824
  dry : u.reserve ≤ g.fuel - burnR u (takeR u g.pos u.base)
  tired : g.time + takeR u g.pos u.base - since ≤ u.hours
  rough : skyBad sky g.pos u.base g.time (g.time + takeR u g.pos u.base) u = false
section
variable {u : Unit'} {since : Int} {sky : List Front} {route : List Way} {pos : Spot} {time fuel : Int}
theorem last_P (hu : UnitP u) (hsn : 0 ≤ since ∧ since ≤ 1073741824) (hr : ∀ w ∈ route, wayOk w = true) (hp : placed pos = true) (ht : 0 ≤ time ∧ time ≤ 1073741824) (hf : 0 ≤ fuel ∧ fuel ≤ 1073741824) (hs : goStop u since sky route pos time fuel = none) {k : Nat} (hk : k < route.length) :
    LastP u since sky (goSt u route pos time fuel (k + 1)) := by
  have h := goneAll hu hsn hr hp ht hf hs hk
  have e1 : (goSt u route pos time fuel (k + 1)).pos = (atN .way route k).to_ := rfl
  have e2 : (goSt u route pos time fuel (k + 1)).time = (goLeg u route pos time fuel k).leave := rfl
  have e3 : (goSt u route pos time fuel (k + 1)).fuel = (goLeg u route pos time fuel k).fuel := rfl
  refine ⟨?_, ?_, ?_, ?_⟩
  · rw [e1, e2]; exact h.late
  · rw [e1, e3]; exact h.dry
  · rw [e1, e2]; exact h.tired
  · rw [e1, e2]
    have := h.rough2
    rw [h.to_] at this
    exact this
end
theorem plan_ok {u : Unit'} {start : Int} {route : List Way} {sky : List Front} (h : (PlE u start route sky != 0) = false) :
    pArg u start route sky = false ∧ route.length ≤ 30 ∧ goStop u start sky route u.base start u.fuel = none ∧ PlL u start route sky = (goSt u route u.base start u.fuel route.length).out ++ [homeL u (goSt u route u.base start u.fuel route.length)] := by
  unfold PlE at h
  unfold PlL
  cases hA : pArg u start route sky with
  | true => rw [hA] at h; exact Bool.noConfusion (show true = false from h)
  | false =>
    rw [hA] at h
    cases hL : pLong route with
    | true => rw [hL] at h; exact Bool.noConfusion (show true = false from h)
    | false =>
      rw [hL] at h
      have h' : (plE u start sky route u.base start u.fuel != 0) = false := h
      have hl := of_decide_eq_false (show decide ((route.length : Int) > 30) = false from hL)
      unfold plE at h'
      refine ⟨rfl, by omega, ?_, ?_⟩
      · cases hg : goStop u start sky route u.base start u.fuel with
        | none => rfl
        | some j => rw [hg] at h'; exact Bool.noConfusion (show true = false from h')
      · show plL u start sky route u.base start u.fuel = _
        unfold plL
        cases hg : goStop u start sky route u.base start u.fuel with
        | none => rfl
        | some j => rw [hg] at h'; exact Bool.noConfusion (show true = false from h')
theorem plan_no {u : Unit'} {start : Int} {route : List Way} {sky : List Front} (h : (PlE u start route sky != 0) = true) : PlL u start route sky = [] := by
  unfold PlE at h
  unfold PlL
  cases hA : pArg u start route sky with
  | true => rfl
  | false =>
    rw [hA] at h
    cases hL : pLong route with
    | true => rfl
    | false =>
      rw [hL] at h
      have h' : (plE u start sky route u.base start u.fuel != 0) = true := h
      show plL u start sky route u.base start u.fuel = _
      unfold plE at h'
      unfold plL
      cases hg : goStop u start sky route u.base start u.fuel with
      | none => rw [hg] at h'; exact Bool.noConfusion (show false = true from h')
      | some j => rfl
theorem bnn {n : Int} (h : n = 0) : (n != 0) = false := by subst h; rfl
theorem dists {a b : Spot} (ha : placed a = true) (hb : placed b = true) : distRE a b = 0 ∧ distR a b = wayR (sq a b) ∧ distE a b = 0 ∧ distS a b = wayR (sq a b) := by
  have h1 := dist_same a b
  have e1 : distRE a b = 0 := by unfold distRE; rw [show Place a = true from ha, show Place b = true from hb]; rfl
  have e2 : distR a b = wayR (sq a b) := by unfold distR; rw [show Place a = true from ha, show Place b = true from hb]; rfl
  exact ⟨e1, e2, by rw [h1.2, e1], by rw [h1.1, e2]⟩
/-- The time of a way, as the law says it. -/
abbrev takeL (u : Unit') (d : Int) : Int := (wr (Int.tdiv (wr ((wr ((wr (d * 3600)) + u.speed)) - 1)) u.speed))
theorem takeL_eq (u : Unit') (a b : Spot) : takeL u (wayR (sq a b)) = takeR u a b := rfl
end Go.Proofs.YtnbcmgdogohenaaDoor.Ev
/- Summaries of functions, printed by a program out of a list, and what is made of them. -/
set_option maxRecDepth 100000
namespace Go.Proofs.YtnbcmgdogohenaaDoor.Ev
open Go Go.RowKit Go.Proofs
structure S6_25 where
  u : Unit'
  x : Int
  x2 : List Way
  x3 : List Front
  t4 : Bool
  l : List Leg
  time : Int
  fuel : Int
  i : Int
  k : Int
  at_ : Spot
  c : Leg
def S6_25.enc (s : S6_25) : List PV := [.ptr [.s s.u.name, .i .i64 s.u.speed, .i .i64 s.u.fuel, .i .i64 s.u.burn, .i .i64 s.u.reserve, .i .i64 s.u.hours, .i .i64 s.u.sea, .i .i64 s.u.wind, .i .i64 s.u.base.x, .i .i64 s.u.base.y, .i .i64 s.u.margin, .i .i64 s.u.level] 0, .ptr [.i .i64 s.x, .sl .way s.x2, .sl .front s.x3] 0, .b s.t4, .sl .leg s.l, .ref 17 0, .i .i64 s.time, .i .i64 s.fuel, .i .i64 s.i, .ref 21 0, .i .i64 s.k]
def S6_25.encH (s : S6_25) : Heap := [some (.cells 23 [.i .i64 s.at_.x, .i .i64 s.at_.y]), some (.cells 49 [.i .i64 s.c.fr.x, .i .i64 s.c.fr.y, .i .i64 s.c.to_.x, .i .i64 s.c.to_.y, .i .i64 s.c.start, .i .i64 s.c.arrive, .i .i64 s.c.leave, .i .i64 s.c.fuel])]
def dec6_25 : List PV → Heap → Option S6_25
  | [.ptr uL 0, .ptr [.i .i64 x_, .sl .way x2_, .sl .front x3_] 0, .b t4_, .sl .leg l_, .ref 17 0, .i .i64 time_, .i .i64 fuel_, .i .i64 i_, .ref 21 0, .i .i64 k_], [some (.cells 23 [.i .i64 at__0, .i .i64 at__1]), some (.cells 49 cL)] => (ETy.dec .unit uL).bind fun u_ => (ETy.dec .leg cL).bind fun c_ => some ⟨u_, x_, x2_, x3_, t4_, l_, time_, fuel_, i_, k_, ⟨at__0, at__1⟩, c_⟩
  | _, _ => none
theorem dec_enc6_25 (vs : List PV) (hs : Heap) (s : S6_25) (h : dec6_25 vs hs = some s) : vs = s.enc ∧ hs = s.encH := by
  unfold dec6_25 at h
  split at h
  · obtain ⟨u_, hu, h_u⟩ := Option.bind_eq_some_iff.1 h
    obtain rfl := dec_is (by simp) hu
    obtain ⟨c_, hc, h_c⟩ := Option.bind_eq_some_iff.1 h_u
    obtain rfl := dec_is (by simp) hc
    obtain rfl := Option.some.inj h_c
    exact ⟨rfl, rfl⟩
  · simp at h
def st6_25 {ρ : Type} (s : S6_25) (next : S6_25 → Option ρ) (out : S6_25 × Bool → Option ρ) : Option ρ := (match (bif (decide (s.k < (s.x3.length : Int))) then (decide ((s.x2.length : Int) > 0)) else false) with | true => (match (inB s.k s.x3.length) with | true => (match (bif (bif (bif (decide (((atD .front s.x3 s.k).sea) > s.u.sea)) then true else (decide (((atD .front s.x3 s.k).wind) > s.u.wind))) then (bif (decide (((atD .front s.x3 s.k).fr) ≤ s.c.leave)) then (decide (s.c.start ≤ ((atD .front s.x3 s.k).to_))) else false) else false) then (bif (bif (bif (decide (((atD .front s.x3 s.k).low.x) ≤ (imax s.c.fr.x s.c.to_.x))) then (decide ((imin s.c.fr.x s.c.to_.x) ≤ ((atD .front s.x3 s.k).high.x))) else false) then (decide (((atD .front s.x3 s.k).low.y) ≤ (imax s.c.fr.y s.c.to_.y))) else false) then (decide ((imin s.c.fr.y s.c.to_.y) ≤ ((atD .front s.x3 s.k).high.y))) else false) else false) with | true => out (⟨s.u, s.x, s.x2, s.x3, false, s.l, s.time, s.fuel, s.i, s.k, s.at_, s.c⟩, true) | false => next ⟨s.u, s.x, s.x2, s.x3, s.t4, s.l, s.time, s.fuel, s.i, (wr (s.k + 1)), s.at_, s.c⟩) | false => none) | false => out (s, false))
def out6_25 (k : Ex → List PV → Heap → Option R) (o : S6_25 × Bool) : Option R := match o.2 with
  | true => k .ret o.1.enc o.1.encH
  | false => k (.exit 2) o.1.enc o.1.encH
def fuel6_25 (s : S6_25) : Nat := s.x3.length + 1
structure S6_10 where
  u : Unit'
  x : Int
  x2 : List Way
  x3 : List Front
  t4 : Bool
  l : List Leg
  time : Int
  fuel : Int
  i : Int
  at_ : Spot
def S6_10.enc (s : S6_10) : List PV := [.ptr [.s s.u.name, .i .i64 s.u.speed, .i .i64 s.u.fuel, .i .i64 s.u.burn, .i .i64 s.u.reserve, .i .i64 s.u.hours, .i .i64 s.u.sea, .i .i64 s.u.wind, .i .i64 s.u.base.x, .i .i64 s.u.base.y, .i .i64 s.u.margin, .i .i64 s.u.level] 0, .ptr [.i .i64 s.x, .sl .way s.x2, .sl .front s.x3] 0, .b s.t4, .sl .leg s.l, .ref 17 0, .i .i64 s.time, .i .i64 s.fuel, .i .i64 s.i]
def S6_10.encH (s : S6_10) : Heap := [some (.cells 23 [.i .i64 s.at_.x, .i .i64 s.at_.y])]
def dec6_10 : List PV → Heap → Option S6_10
  | [.ptr uL 0, .ptr [.i .i64 x_, .sl .way x2_, .sl .front x3_] 0, .b t4_, .sl .leg l_, .ref 17 0, .i .i64 time_, .i .i64 fuel_, .i .i64 i_], [some (.cells 23 [.i .i64 at__0, .i .i64 at__1])] => (ETy.dec .unit uL).bind fun u_ => some ⟨u_, x_, x2_, x3_, t4_, l_, time_, fuel_, i_, ⟨at__0, at__1⟩⟩
  | _, _ => none
theorem dec_enc6_10 (vs : List PV) (hs : Heap) (s : S6_10) (h : dec6_10 vs hs = some s) : vs = s.enc ∧ hs = s.encH := by
  unfold dec6_10 at h
  split at h
  · obtain ⟨u_, hu, h_u⟩ := Option.bind_eq_some_iff.1 h
    obtain rfl := dec_is (by simp) hu
    obtain rfl := Option.some.inj h_u
    exact ⟨rfl, rfl⟩
  · simp at h
def st6_10 {ρ : Type} (s : S6_10) (next : S6_10 → Option ρ) (out : S6_10 × Bool → Option ρ) : Option ρ := (match (decide (s.i < (s.l.length : Int))) with | true => (match (inB s.i s.l.length) with | true => (match (decide (s.i < (s.x2.length : Int))) with | true => (match (inB s.i s.x2.length) with | true => (match (inB s.i s.x2.length) with | true => (match (!(s.u.speed == 0)) with | true => (match (bif (bif (bif (bif (bif (bif ((distRE s.at_ ((atD .way s.x2 s.i).to_)) != 0) then true else (!((((atD .leg s.l s.i).fr.x) == s.at_.x) && ((((atD .leg s.l s.i).fr.y) == s.at_.y) && true)))) then true else (!((((atD .leg s.l s.i).to_.x) == ((atD .way s.x2 s.i).to_.x)) && ((((atD .leg s.l s.i).to_.y) == ((atD .way s.x2 s.i).to_.y)) && true)))) then true else (((atD .leg s.l s.i).start) != s.time)) then true else (((atD .leg s.l s.i).arrive) != (wr (s.time + (wr (Int.tdiv (wr ((wr ((wr ((distR s.at_ ((atD .way s.x2 s.i).to_)) * 3600)) + s.u.speed)) - 1)) s.u.speed)))))) then true else (((atD .leg s.l s.i).leave) != (wr (((atD .leg s.l s.i).arrive) + ((atD .way s.x2 s.i).stay))))) then true else (((atD .leg s.l s.i).fuel) != (wr (s.fuel - (hoursS s.u (wr (((atD .leg s.l s.i).leave) - ((atD .leg s.l s.i).start)))))))) with | true => out (⟨s.u, s.x, s.x2, s.x3, false, s.l, s.time, s.fuel, s.i, s.at_⟩, true) | false => (match ((!(s.u.speed == 0)) || (((distE ((atD .way s.x2 s.i).to_) s.u.base) != 0) || ((!(decide ((s.x2.length : Int) > 0))) || false))) with | true => (match (bif ((distE ((atD .way s.x2 s.i).to_) s.u.base) != 0) then true else (bif (decide ((s.x2.length : Int) > 0)) then (decide ((wr (((atD .leg s.l s.i).fuel) - (hoursS s.u (wr (Int.tdiv (wr ((wr ((wr ((distS ((atD .way s.x2 s.i).to_) s.u.base) * 3600)) + s.u.speed)) - 1)) s.u.speed))))) < s.u.reserve)) else false)) with | true => out (⟨s.u, s.x, s.x2, s.x3, false, s.l, ((atD .leg s.l s.i).leave), ((atD .leg s.l s.i).fuel), s.i, ((atD .way s.x2 s.i).to_)⟩, true) | false => (iter st6_25 (fuel6_25 (⟨s.u, s.x, s.x2, s.x3, s.t4, s.l, ((atD .leg s.l s.i).leave), ((atD .leg s.l s.i).fuel), s.i, 0, ((atD .way s.x2 s.i).to_), (atD .leg s.l s.i)⟩ : S6_25)) (⟨s.u, s.x, s.x2, s.x3, s.t4, s.l, ((atD .leg s.l s.i).leave), ((atD .leg s.l s.i).fuel), s.i, 0, ((atD .way s.x2 s.i).to_), (atD .leg s.l s.i)⟩ : S6_25) fun o25 => (match o25.2 with | true => out (⟨o25.1.u, o25.1.x, o25.1.x2, o25.1.x3, o25.1.t4, o25.1.l, o25.1.time, o25.1.fuel, o25.1.i, o25.1.at_⟩, true) | false => next ⟨o25.1.u, o25.1.x, o25.1.x2, o25.1.x3, o25.1.t4, o25.1.l, o25.1.time, o25.1.fuel, (wr (o25.1.i + 1)), o25.1.at_⟩))) | false => none)) | false => none) | false => none) | false => none) | false => (match (!(s.u.speed == 0)) with | true => (match (bif (bif (bif (bif (bif (bif ((distRE s.at_ s.u.base) != 0) then true else (!((((atD .leg s.l s.i).fr.x) == s.at_.x) && ((((atD .leg s.l s.i).fr.y) == s.at_.y) && true)))) then true else (!((((atD .leg s.l s.i).to_.x) == s.u.base.x) && ((((atD .leg s.l s.i).to_.y) == s.u.base.y) && true)))) then true else (((atD .leg s.l s.i).start) != s.time)) then true else (((atD .leg s.l s.i).arrive) != (wr (s.time + (wr (Int.tdiv (wr ((wr ((wr ((distR s.at_ s.u.base) * 3600)) + s.u.speed)) - 1)) s.u.speed)))))) then true else (((atD .leg s.l s.i).leave) != (wr (((atD .leg s.l s.i).arrive) + 0)))) then true else (((atD .leg s.l s.i).fuel) != (wr (s.fuel - (hoursS s.u (wr (((atD .leg s.l s.i).leave) - ((atD .leg s.l s.i).start)))))))) with | true => out (⟨s.u, s.x, s.x2, s.x3, false, s.l, s.time, s.fuel, s.i, s.at_⟩, true) | false => (match ((!(s.u.speed == 0)) || (((distE s.u.base s.u.base) != 0) || ((!(decide ((s.x2.length : Int) > 0))) || false))) with | true => (match (bif ((distE s.u.base s.u.base) != 0) then true else (bif (decide ((s.x2.length : Int) > 0)) then (decide ((wr (((atD .leg s.l s.i).fuel) - (hoursS s.u (wr (Int.tdiv (wr ((wr ((wr ((distS s.u.base s.u.base) * 3600)) + s.u.speed)) - 1)) s.u.speed))))) < s.u.reserve)) else false)) with | true => out (⟨s.u, s.x, s.x2, s.x3, false, s.l, ((atD .leg s.l s.i).leave), ((atD .leg s.l s.i).fuel), s.i, s.u.base⟩, true) | false => (iter st6_25 (fuel6_25 (⟨s.u, s.x, s.x2, s.x3, s.t4, s.l, ((atD .leg s.l s.i).leave), ((atD .leg s.l s.i).fuel), s.i, 0, s.u.base, (atD .leg s.l s.i)⟩ : S6_25)) (⟨s.u, s.x, s.x2, s.x3, s.t4, s.l, ((atD .leg s.l s.i).leave), ((atD .leg s.l s.i).fuel), s.i, 0, s.u.base, (atD .leg s.l s.i)⟩ : S6_25) fun o25 => (match o25.2 with | true => out (⟨o25.1.u, o25.1.x, o25.1.x2, o25.1.x3, o25.1.t4, o25.1.l, o25.1.time, o25.1.fuel, o25.1.i, o25.1.at_⟩, true) | false => next ⟨o25.1.u, o25.1.x, o25.1.x2, o25.1.x3, o25.1.t4, o25.1.l, o25.1.time, o25.1.fuel, (wr (o25.1.i + 1)), o25.1.at_⟩))) | false => none)) | false => none)) | false => none) | false => out (s, false))
def out6_10 (k : Ex → List PV → Heap → Option R) (o : S6_10 × Bool) : Option R := match o.2 with
  | true => k .ret o.1.enc o.1.encH
  | false => k (.exit 0) o.1.enc o.1.encH
def fuel6_10 (s : S6_10) : Nat := s.l.length + 1
def K6 : Keep := fun i => match i with
  | 10 => ([2, 3, 4, 5, 9, 10, 11, 12], [17])
  | 25 => ([2, 3, 4, 5, 9, 10, 11, 12, 13, 21], [17, 21])
  | _ => ([], [])
def L6 : Lam := fun b vs hs k => match loopId b with
  | 10 => loopL dec6_10 st6_10 fuel6_10 out6_10 b vs hs k
  | 25 => loopL dec6_25 st6_25 fuel6_25 out6_25 b vs hs k
  | _ => none
noncomputable def b6_25 : Code := (loopsOf (bodyOf Tryd.f6)).getD 1 .skip
noncomputable def b6_10 : Code := (loopsOf (bodyOf Tryd.f6)).getD 0 .skip
theorem step6_25 (j : Nat) (s : S6_25) (k : Ex → List PV → Heap → Option R) : unroll (cx glU (mkG [(18, F18), (31, F31), (17, F17), (15, F15), (23, F23), (16, F16), (24, F24)]) [] []) K6 L6 Tryd.f6.ntmps (Tryd.f6.ntmps + 16) b6_25 (j + 1) s.enc s.encH k = st6_25 s (fun s' => unroll (cx glU (mkG [(18, F18), (31, F31), (17, F17), (15, F15), (23, F23), (16, F16), (24, F24)]) [] []) K6 L6 Tryd.f6.ntmps (Tryd.f6.ntmps + 16) b6_25 j s'.enc s'.encH k) (out6_25 k) := by kernel_rfl
theorem step6_10 (j : Nat) (s : S6_10) (k : Ex → List PV → Heap → Option R) : unroll (cx glU (mkG [(18, F18), (31, F31), (17, F17), (15, F15), (23, F23), (16, F16), (24, F24)]) [] []) K6 L6 Tryd.f6.ntmps (Tryd.f6.ntmps + 16) b6_10 (j + 1) s.enc s.encH k = st6_10 s (fun s' => unroll (cx glU (mkG [(18, F18), (31, F31), (17, F17), (15, F15), (23, F23), (16, F16), (24, F24)]) [] []) K6 L6 Tryd.f6.ntmps (Tryd.f6.ntmps + 16) b6_10 j s'.enc s'.encH k) (out6_10 k) := by kernel_rfl
theorem l6 : LoopsOk (cx glU (mkG [(18, F18), (31, F31), (17, F17), (15, F15), (23, F23), (16, F16), (24, F24)]) [] []) K6 L6 Tryd.f6.ntmps (Tryd.f6.ntmps + 16) (loopsOf (bodyOf Tryd.f6)) := by
  refine loopsOk_list (l := [b6_10, b6_25]) (by kernel_rfl) ?_
  exact List.forall_mem_cons.2 ⟨loopOk1 (fuel := fuel6_10) (enc := S6_10.enc) (encH := S6_10.encH) (fun vs hs k => by kernel_rfl) dec_enc6_10 (step6_10 ), List.forall_mem_cons.2 ⟨loopOk1 (fuel := fuel6_25) (enc := S6_25.enc) (encH := S6_25.encH) (fun vs hs k => by kernel_rfl) dec_enc6_25 (step6_25 ), (fun _ h => by simp at h)⟩⟩
theorem sky6 {ρ : Type} (u : Unit') (x : Int) (x2 : List Way) (sky : List Front) (l : List Leg) (time fuel i : Int) (at_ : Spot) (c : Leg) (hx : sky.length ≤ 1000000)
    (hb : 0 < x2.length → ∀ y ∈ sky, badH y u c = false) (O : S6_25 × Bool → Option ρ) (v : Option ρ) (hO : ∀ k, O (⟨u, x, x2, sky, false, l, time, fuel, i, k, at_, c⟩, false) = v) :
    iter st6_25 (fuel6_25 (⟨u, x, x2, sky, false, l, time, fuel, i, 0, at_, c⟩ : S6_25)) (⟨u, x, x2, sky, false, l, time, fuel, i, 0, at_, c⟩ : S6_25) O = v := by
  rcases Nat.eq_zero_or_pos x2.length with h0 | h0
  · have hd : decide ((x2.length : Int) > 0) = false := decide_eq_false (by omega)
    show st6_25 _ _ O = v
    simp only [st6_25, hd, bif_f, Bool.and_false]
    exact hO 0
  · have hd : decide ((x2.length : Int) > 0) = true := decide_eq_true (by omega)
    refine (iter_each (step := st6_25) (F := fun k => (⟨u, x, x2, sky, false, l, time, fuel, i, (k : Int), at_, c⟩ : S6_25)) (last := ((⟨u, x, x2, sky, false, l, time, fuel, i, (sky.length : Int), at_, c⟩ : S6_25), false)) sky.length O (fun k next hk => ?_) (fun next => ?_) _ (Nat.le_refl _) _ rfl).trans (hO _)
    · have hbk := hb h0 (atN .front sky k) (atN_nat (T := .front) hk ▸ List.getElem_mem hk)
      simp only [st6_25, hd, decLt_nat hk, inB_nat hk, wr_succ (show k ≤ 1000000 by omega), atD, Int.toNat_natCast]
      show (match badH (atN .front sky k) u c with | true => _ | false => _) = _
      rw [hbk]
    · simp only [st6_25, decLt_self, cond_false]
/-- The state at a leg of the plan, the way home with the others. -/
def hSt (u : Unit') (start : Int) (route : List Way) (k : Nat) : GoSt := match Nat.ble k route.length with
  | true => goSt u route u.base start u.fuel k
  | false => ⟨[], u.base, (homeL u (goSt u route u.base start u.fuel route.length)).leave, (homeL u (goSt u route u.base start u.fuel route.length)).fuel⟩
theorem hSt_le {u : Unit'} {start : Int} {route : List Way} {k : Nat} (h : k ≤ route.length) : hSt u start route k = goSt u route u.base start u.fuel k := by
  unfold hSt
  rw [Nat.ble_eq_true_of_le h]
theorem loop6 (u : Unit') (start : Int) (route : List Way) (sky : List Front) (hE : (PlE u start route sky != 0) = false) : (iter st6_10 (fuel6_10 (⟨u, start, route, sky, false, (PlL u start route sky), start, u.fuel, 0, u.base⟩ : S6_10)) (⟨u, start, route, sky, false, (PlL u start route sky), start, u.fuel, 0, u.base⟩ : S6_10) fun o10 => (match o10.2 with | true => an (.b o10.1.t4) | false => an (.b true))) = an (.b true) := by
  obtain ⟨hA, hlen, hstop, hL⟩ := plan_ok hE
  obtain ⟨hU, hS, hR, hT⟩ := pArg_ok hA
  have hu := unitOk_P hU
  have hT' := (timed_iff start).1 hT
  have hW := List.all_eq_true.1 hR
  have hF : 0 ≤ u.fuel ∧ u.fuel ≤ 1073741824 := ⟨hu.f0, hu.f1⟩
  have hsp : (!(u.speed == 0)) = true := bnz hu.s1
  have hsk := (skyOk_all hS).2
  have hLl : (PlL u start route sky).length = route.length + 1 := by rw [hL, List.length_append, goSt_len]; rfl
  refine (iter_each (step := st6_10) (F := fun k => (⟨u, start, route, sky, false, PlL u start route sky, (hSt u start route k).time, (hSt u start route k).fuel, (k : Int), (hSt u start route k).pos⟩ : S6_10)) (last := ((⟨u, start, route, sky, false, PlL u start route sky, (hSt u start route (PlL u start route sky).length).time, (hSt u start route (PlL u start route sky).length).fuel, ((PlL u start route sky).length : Int), (hSt u start route (PlL u start route sky).length).pos⟩ : S6_10), false)) (PlL u start route sky).length _ (fun k next hk => ?_) (fun next => ?_) _ (Nat.le_refl _) _ rfl).trans ?_
  · rcases Nat.lt_or_ge k route.length with hkr | hkr
    · have hg := goneAll hu hT' hW hu.base hT' hF hstop hkr
      have hG := goP hu hT' hW hu.base hT' hF hstop k (by omega)
      have hG1 := goP hu hT' hW hu.base hT' hF hstop (k + 1) (by omega)
      have hkk : hSt u start route k = goSt u route u.base start u.fuel k := hSt_le (by omega)
      have hk1 : hSt u start route (k + 1) = goSt u route u.base start u.fuel (k + 1) := hSt_le (by omega)
      have hleg : atN .leg (PlL u start route sky) k = goLeg u route u.base start u.fuel k := by
        unfold atN
        rw [List.getD, hL, List.getElem?_append_left (by rw [goSt_len]; exact hkr), goSt_at _ _ hkr]
        rfl
      have hlast := last_P hu hT' hW hu.base hT' hF hstop hkr
      have hwp : placed (atN .way route k).to_ = true := hG1.placed
      obtain ⟨d1, d2, _, _⟩ := dists hG.placed hwp
      obtain ⟨_, _, d3, d4⟩ := dists hwp hu.base
      have hbt := burn_eq hu (t := (goLeg u route u.base start u.fuel k).leave - (goLeg u route u.base start u.fuel k).start) (by
        have := hg.leave; have := hg.arrive; have := hg.start; have := hg.t0; have := hg.s0; have := hg.late; have := hg.b0; have := hG.t0; omega)
      have hbb := burn_eq hu (t := takeR u (atN .way route k).to_ u.base) (by have := hg.b0; have := hg.late; have := hG1.t0; have : (goSt u route u.base start u.fuel (k + 1)).time = (goLeg u route u.base start u.fuel k).leave := rfl; omega)
      have hwl : wr ((goLeg u route u.base start u.fuel k).leave - (goLeg u route u.base start u.fuel k).start) = (goLeg u route u.base start u.fuel k).leave - (goLeg u route u.base start u.fuel k).start := wr_small (by
        have := hg.leave; have := hg.arrive; have := hg.start; have := hg.t0; have := hg.s0; have := hg.late; have := hg.b0; have := hG.t0; omega) (by
        have := hg.leave; have := hg.arrive; have := hg.start; have := hg.t0; have := hg.s0; have := hg.late; have := hg.b0; have := hG.t0; omega)
      have c_f : ((goLeg u route u.base start u.fuel k).fuel != wr ((goSt u route u.base start u.fuel k).fuel - hoursS u (wr ((goLeg u route u.base start u.fuel k).leave - (goLeg u route u.base start u.fuel k).start)))) = false := by
        rw [hwl, hbt.2.2.2]
        have e : (goLeg u route u.base start u.fuel k).fuel = wr ((goSt u route u.base start u.fuel k).fuel - burnR u (wr ((goLeg u route u.base start u.fuel k).leave - (goLeg u route u.base start u.fuel k).start))) := rfl
        rw [e, hwl]
        exact bne_self_eq_false _
      have c_d : decide (wr ((goLeg u route u.base start u.fuel k).fuel - hoursS u (takeL u (wayR (sq (atN .way route k).to_ u.base)))) < u.reserve) = false := by
        rw [takeL_eq, hbb.2.2.2]
        have h1 := hg.dry
        have h2 := hG1.f1
        have h3 := hG1.f0
        have h4 : (goSt u route u.base start u.fuel (k + 1)).fuel = (goLeg u route u.base start u.fuel k).fuel := rfl
        rw [wr_small (by omega) (by omega)]
        exact decide_eq_false (by omega)
      have c_r : 0 < route.length → ∀ y ∈ sky, badH y u (goLeg u route u.base start u.fuel k) = false := fun _ y hy => badH_no hS (by
        have := hg.leave; have := hg.arrive; have := hg.start; have := hg.t0; have := hg.s0; omega) (by have := hg.rough1; exact this) hy
      simp only [st6_10, decLt_nat hk, decLt_nat hkr, inB_nat hk, inB_nat hkr, wr_succ (show k ≤ 1000000 by omega), atD, Int.toNat_natCast, hleg, hkk, hk1, hsp, d1, d2, d3, d4, Bool.true_or, Bool.or_true]
      have hfr : (goLeg u route u.base start u.fuel k).fr = (goSt u route u.base start u.fuel k).pos := rfl
      have hto : (goLeg u route u.base start u.fuel k).to_ = (atN .way route k).to_ := rfl
      have hst : (goLeg u route u.base start u.fuel k).start = (goSt u route u.base start u.fuel k).time := rfl
      have c1 : (bif (bif (bif (bif (bif (bif ((0 : Int) != 0) then true else (!((((goLeg u route u.base start u.fuel k).fr.x) == (goSt u route u.base start u.fuel k).pos.x) && ((((goLeg u route u.base start u.fuel k).fr.y) == (goSt u route u.base start u.fuel k).pos.y) && true)))) then true else (!((((goLeg u route u.base start u.fuel k).to_.x) == ((atN .way route k).to_.x)) && ((((goLeg u route u.base start u.fuel k).to_.y) == ((atN .way route k).to_.y)) && true)))) then true else (((goLeg u route u.base start u.fuel k).start) != (goSt u route u.base start u.fuel k).time)) then true else (((goLeg u route u.base start u.fuel k).arrive) != (wr ((goSt u route u.base start u.fuel k).time + (wr (Int.tdiv (wr ((wr ((wr ((wayR (sq (goSt u route u.base start u.fuel k).pos (atN .way route k).to_)) * 3600)) + u.speed)) - 1)) u.speed)))))) then true else (((goLeg u route u.base start u.fuel k).leave) != (wr (((goLeg u route u.base start u.fuel k).arrive) + ((atN .way route k).stay))))) then true else (((goLeg u route u.base start u.fuel k).fuel) != (wr ((goSt u route u.base start u.fuel k).fuel - (hoursS u (wr (((goLeg u route u.base start u.fuel k).leave) - ((goLeg u route u.base start u.fuel k).start)))))))) = false := by
        have c_a : ((goLeg u route u.base start u.fuel k).arrive != (wr ((goSt u route u.base start u.fuel k).time + (wr (Int.tdiv (wr ((wr ((wr ((wayR (sq (goSt u route u.base start u.fuel k).pos (atN .way route k).to_)) * 3600)) + u.speed)) - 1)) u.speed))))) = false := bne_self_eq_false _
        have c_l : ((goLeg u route u.base start u.fuel k).leave != (wr (((goLeg u route u.base start u.fuel k).arrive) + ((atN .way route k).stay)))) = false := bne_self_eq_false _
        rw [c_f, c_a, c_l, hfr, hto, hst]
        simp only [bne_self_eq_false, beq_self_eq_true, Bool.and_self, Bool.not_true, cond_false]
      rw [c1]
      have c2 : (bif ((0 : Int) != 0) then true else (bif (decide ((route.length : Int) > 0)) then (decide ((wr (((goLeg u route u.base start u.fuel k).fuel) - (hoursS u (wr (Int.tdiv (wr ((wr ((wr ((wayR (sq (atN .way route k).to_ u.base)) * 3600)) + u.speed)) - 1)) u.speed))))) < u.reserve)) else false)) = false := by
        rw [show decide ((wr (((goLeg u route u.base start u.fuel k).fuel) - (hoursS u (wr (Int.tdiv (wr ((wr ((wr ((wayR (sq (atN .way route k).to_ u.base)) * 3600)) + u.speed)) - 1)) u.speed))))) < u.reserve) = false from c_d]
        cases decide ((route.length : Int) > 0) <;> rfl
      dsimp only
      rw [c2]
      refine sky6 u start route sky _ _ _ _ _ _ (by omega) c_r _ _ fun j => ?_
      simp only [wr_succ (show k ≤ 1000000 by omega)]
      rfl
    · have hkn : k = route.length := by omega
      subst hkn
      have hG := goP hu hT' hW hu.base hT' hF hstop route.length (Nat.le_refl _)
      have hh := home_P hu (since := start) (sky := sky) hG
      have hkk : hSt u start route route.length = goSt u route u.base start u.fuel route.length := hSt_le (Nat.le_refl _)
      have hk1 : hSt u start route (route.length + 1) = ⟨[], u.base, (homeL u (goSt u route u.base start u.fuel route.length)).leave, (homeL u (goSt u route u.base start u.fuel route.length)).fuel⟩ := by
        unfold hSt
        rw [show Nat.ble (route.length + 1) route.length = false from by cases h : Nat.ble (route.length + 1) route.length with | false => rfl | true => exact absurd (Nat.le_of_ble_eq_true h) (by omega)]
      have hleg : atN .leg (PlL u start route sky) route.length = homeL u (goSt u route u.base start u.fuel route.length) := by
        unfold atN
        rw [List.getD, hL, List.getElem?_append_right (by rw [goSt_len]; exact Nat.le_refl _), goSt_len, Nat.sub_self]
        rfl
      obtain ⟨d1, d2, _, _⟩ := dists hG.placed hu.base
      obtain ⟨_, _, d3, d4⟩ := dists hu.base hu.base
      have htl : takeR u (goSt u route u.base start u.fuel route.length).pos u.base ≤ 274877906944 := hh.t1
      have htl0 : 0 ≤ takeR u (goSt u route u.base start u.fuel route.length).pos u.base := hh.t0
      have hgt := hG.t0
      have hgt1 := hG.t1
      have hbt := burn_eq hu (t := takeR u (goSt u route u.base start u.fuel route.length).pos u.base) (by omega)
      have hwl : wr ((homeL u (goSt u route u.base start u.fuel route.length)).leave - (homeL u (goSt u route u.base start u.fuel route.length)).start) = takeR u (goSt u route u.base start u.fuel route.length).pos u.base := by
        rw [hh.leave, hh.start, show (goSt u route u.base start u.fuel route.length).time + takeR u (goSt u route u.base start u.fuel route.length).pos u.base - (goSt u route u.base start u.fuel route.length).time = takeR u (goSt u route u.base start u.fuel route.length).pos u.base by omega]
        exact wr_small (by omega) (by omega)
      have c_f : ((homeL u (goSt u route u.base start u.fuel route.length)).fuel != wr ((goSt u route u.base start u.fuel route.length).fuel - hoursS u (wr ((homeL u (goSt u route u.base start u.fuel route.length)).leave - (homeL u (goSt u route u.base start u.fuel route.length)).start)))) = false := by
        rw [hwl, hbt.2.2.2]
        exact bne_self_eq_false _
      have hlast : 0 < route.length → LastP u start sky (goSt u route u.base start u.fuel route.length) := fun h0 => by
        obtain ⟨m, hm⟩ : ∃ m, route.length = m + 1 := ⟨route.length - 1, by omega⟩
        have := last_P hu hT' hW hu.base hT' hF hstop (k := m) (by omega)
        rw [hm]
        exact this
      have c_d : 0 < route.length → decide (wr ((homeL u (goSt u route u.base start u.fuel route.length)).fuel - hoursS u (takeL u (wayR (sq u.base u.base)))) < u.reserve) = false := fun h0 => by
        rw [takeL_eq, take_0 hu, (burn_eq hu (t := 0) (by omega)).2.2.2, burn_0 hu, hh.fuel]
        have h1 := (hlast h0).dry
        have h2 := hG.f1
        have h3 := hG.f0
        rw [wr_small (by omega) (by omega)]
        exact decide_eq_false (by omega)
      have c_r : 0 < route.length → ∀ y ∈ sky, badH y u (homeL u (goSt u route u.base start u.fuel route.length)) = false := fun h0 y hy => badH_no hS (by
        rw [hh.leave, hh.start]; omega) (by have := (hlast h0).rough; rw [hh.fr, hh.to_, hh.start, hh.leave]; exact this) hy
      have hnr : decide ((route.length : Int) < (route.length : Int)) = false := decLt_self _
      simp only [st6_10, decLt_nat hk, hnr, inB_nat hk, wr_succ (show route.length ≤ 1000000 by omega), atD, Int.toNat_natCast, hleg, hkk, hk1, hsp, d1, d2, d3, d4, Bool.true_or, Bool.or_true]
      have hfr : (homeL u (goSt u route u.base start u.fuel route.length)).fr = (goSt u route u.base start u.fuel route.length).pos := rfl
      have hto : (homeL u (goSt u route u.base start u.fuel route.length)).to_ = u.base := rfl
      have hst : (homeL u (goSt u route u.base start u.fuel route.length)).start = (goSt u route u.base start u.fuel route.length).time := rfl
      have c1 : (bif (bif (bif (bif (bif (bif ((0 : Int) != 0) then true else (!((((homeL u (goSt u route u.base start u.fuel route.length)).fr.x) == (goSt u route u.base start u.fuel route.length).pos.x) && ((((homeL u (goSt u route u.base start u.fuel route.length)).fr.y) == (goSt u route u.base start u.fuel route.length).pos.y) && true)))) then true else (!((((homeL u (goSt u route u.base start u.fuel route.length)).to_.x) == (u.base.x)) && ((((homeL u (goSt u route u.base start u.fuel route.length)).to_.y) == (u.base.y)) && true)))) then true else (((homeL u (goSt u route u.base start u.fuel route.length)).start) != (goSt u route u.base start u.fuel route.length).time)) then true else (((homeL u (goSt u route u.base start u.fuel route.length)).arrive) != (wr ((goSt u route u.base start u.fuel route.length).time + (wr (Int.tdiv (wr ((wr ((wr ((wayR (sq (goSt u route u.base start u.fuel route.length).pos u.base)) * 3600)) + u.speed)) - 1)) u.speed)))))) then true else (((homeL u (goSt u route u.base start u.fuel route.length)).leave) != (wr (((homeL u (goSt u route u.base start u.fuel route.length)).arrive) + 0)))) then true else (((homeL u (goSt u route u.base start u.fuel route.length)).fuel) != (wr ((goSt u route u.base start u.fuel route.length).fuel - (hoursS u (wr (((homeL u (goSt u route u.base start u.fuel route.length)).leave) - ((homeL u (goSt u route u.base start u.fuel route.length)).start)))))))) = false := by
        have c_a : ((homeL u (goSt u route u.base start u.fuel route.length)).arrive != (wr ((goSt u route u.base start u.fuel route.length).time + (wr (Int.tdiv (wr ((wr ((wr ((wayR (sq (goSt u route u.base start u.fuel route.length).pos u.base)) * 3600)) + u.speed)) - 1)) u.speed))))) = false := bne_self_eq_false _
        have c_l : ((homeL u (goSt u route u.base start u.fuel route.length)).leave != (wr (((homeL u (goSt u route u.base start u.fuel route.length)).arrive) + 0))) = false := by
          rw [hh.leave, hh.arrive, Int.add_zero, wr_small (by omega) (by omega)]
          exact bne_self_eq_false _
        rw [c_f, c_a, c_l, hfr, hto, hst]
        simp only [bne_self_eq_false, beq_self_eq_true, Bool.and_self, Bool.not_true, cond_false]
      rw [c1]
      have c2 : (bif ((0 : Int) != 0) then true else (bif (decide ((route.length : Int) > 0)) then (decide ((wr (((homeL u (goSt u route u.base start u.fuel route.length)).fuel) - (hoursS u (wr (Int.tdiv (wr ((wr ((wr ((wayR (sq u.base u.base)) * 3600)) + u.speed)) - 1)) u.speed))))) < u.reserve)) else false)) = false := by
        rcases Nat.eq_zero_or_pos route.length with h0 | h0
        · rw [show decide ((route.length : Int) > 0) = false from decide_eq_false (by omega)]
          rfl
        · rw [show decide ((wr (((homeL u (goSt u route u.base start u.fuel route.length)).fuel) - (hoursS u (wr (Int.tdiv (wr ((wr ((wr ((wayR (sq u.base u.base)) * 3600)) + u.speed)) - 1)) u.speed))))) < u.reserve) = false from c_d h0]
          cases decide ((route.length : Int) > 0) <;> rfl
      dsimp only
      rw [c2]
      refine sky6 u start route sky _ _ _ _ _ _ (by omega) c_r _ _ fun j => ?_
      simp only [wr_succ (show route.length ≤ 1000000 by omega)]
  · simp only [st6_10, decLt_self]
  · rfl
theorem fn6 : FnOk 6 Tryd.f6 := ⟨by kernel_rfl, by kernel_rfl, by kernel_rfl, by kernel_rfl⟩
theorem e6 (u : Unit') (start : Int) (route : List Way) (sky : List Front) : evFn (cx glU (mkG [(18, F18), (31, F31), (17, F17), (15, F15), (23, F23), (16, F16), (24, F24)]) [] []) K6 L6 Tryd.f6 [.agg [.s u.name, .i .i64 u.speed, .i .i64 u.fuel, .i .i64 u.burn, .i .i64 u.reserve, .i .i64 u.hours, .i .i64 u.sea, .i .i64 u.wind, .i .i64 u.base.x, .i .i64 u.base.y, .i .i64 u.margin, .i .i64 u.level], .agg [.i .i64 start, .sl .way route, .sl .front sky]] noObjs = (match (bif (greatS u) then true else (largeS route sky)) with | true => an (.b true) | false => (match (decide (route.length ≤ 1000000) && decide (sky.length ≤ 1000000)) with | true => (match ((PlE u start route sky) != 0) with | true => an (.b (bif (((PlL u start route sky).length : Int) == 0) then true else false)) | false => (match ((inB (wr (((PlL u start route sky).length : Int) - 1)) ((PlL u start route sky).length)) || ((((PlL u start route sky).length : Int) != (wr ((route.length : Int) + 1))) || false)) with | true => (match ((inB (wr (((PlL u start route sky).length : Int) - 1)) ((PlL u start route sky).length)) || ((bif (((PlL u start route sky).length : Int) != (wr ((route.length : Int) + 1))) then true else (!((((atD .leg (PlL u start route sky) (wr (((PlL u start route sky).length : Int) - 1))).to_.x) == u.base.x) && ((((atD .leg (PlL u start route sky) (wr (((PlL u start route sky).length : Int) - 1))).to_.y) == u.base.y) && true)))) || false)) with | true => (match (bif (bif (((PlL u start route sky).length : Int) != (wr ((route.length : Int) + 1))) then true else (!((((atD .leg (PlL u start route sky) (wr (((PlL u start route sky).length : Int) - 1))).to_.x) == u.base.x) && ((((atD .leg (PlL u start route sky) (wr (((PlL u start route sky).length : Int) - 1))).to_.y) == u.base.y) && true)))) then true else (bif (decide ((wr (((atD .leg (PlL u start route sky) (wr (((PlL u start route sky).length : Int) - 1))).leave) - start)) > u.hours)) then (decide ((route.length : Int) > 0)) else false)) with | true => an (.b false) | false => (iter st6_10 (fuel6_10 (⟨u, start, route, sky, false, (PlL u start route sky), start, u.fuel, 0, u.base⟩ : S6_10)) (⟨u, start, route, sky, false, (PlL u start route sky), start, u.fuel, 0, u.base⟩ : S6_10) fun o10 => (match o10.2 with | true => an (.b o10.1.t4) | false => an (.b true)))) | false => none) | false => none)) | false => none)) := by kernel_rfl
def F6 : List PV → Option (Bool × PV)
  | [.agg uL, .agg [.i .i64 start, .sl .way route, .sl .front sky]] => (ETy.dec .unit uL).bind fun u => some (true, .b true)
  | _ => none
theorem s6 : Sum glU 6 F6 := by
  intro ps r h
  unfold F6 at h
  split at h
  · rename_i uL start route sky
    obtain ⟨u, hu, h_u⟩ := Option.bind_eq_some_iff.1 h
    obtain rfl := dec_is (by simp) hu
    obtain ⟨hc, rfl⟩ := Prod.mk.inj (Option.some.inj h_u)
    refine call_by (K := K6) (L := L6) (bxs := []) (ows := []) (GOk.cons s18 (GOk.cons s31 (GOk.cons s17 (GOk.cons s15 (GOk.cons s23 (GOk.cons s16 (GOk.cons s24 (GOk.nil)))))))) fn6 (l6 ) (by kernel_rfl) (evF_some ((e6 u start route sky).trans ?_))
    cases hg : (bif (greatS u) then true else (largeS route sky)) with
    | true => rfl
    | false =>
      obtain ⟨h1, h2⟩ := large_no hg
      have a1 : decide (route.length ≤ 1000000) = true := decide_eq_true (by omega)
      have a2 : decide (sky.length ≤ 1000000) = true := decide_eq_true (by omega)
      rw [a1, a2]
      cases hE : (PlE u start route sky != 0) with
      | true =>
        have hn := plan_no hE
        show an (.b (bif (((PlL u start route sky).length : Int) == 0) then true else false)) = _
        rw [hn]
        rfl
      | false =>
        obtain ⟨hA, hlen, hstop, hL⟩ := plan_ok hE
        obtain ⟨hU, hS, hR, hT⟩ := pArg_ok hA
        have hu := unitOk_P hU
        have hT' := (timed_iff start).1 hT
        have hW := List.all_eq_true.1 hR
        have hF : 0 ≤ u.fuel ∧ u.fuel ≤ 1073741824 := ⟨hu.f0, hu.f1⟩
        have hLl : (PlL u start route sky).length = route.length + 1 := by rw [hL, List.length_append, goSt_len]; rfl
        have hG := goP hu hT' hW hu.base hT' hF hstop route.length (Nat.le_refl _)
        have hh := home_P hu (since := start) (sky := sky) hG
        have hleg : atD .leg (PlL u start route sky) (route.length : Int) = homeL u (goSt u route u.base start u.fuel route.length) := by
          unfold atD atN
          rw [Int.toNat_natCast, List.getD, hL, List.getElem?_append_right (by rw [goSt_len]; exact Nat.le_refl _), goSt_len, Nat.sub_self]
          rfl
        have hwp : wr (((PlL u start route sky).length : Int) - 1) = (route.length : Int) := by rw [hLl]; exact wr_pred (by omega)
        have hib : inB (route.length : Int) (PlL u start route sky).length = true := inB_nat (by omega)
        have hln : (((PlL u start route sky).length : Int) != wr ((route.length : Int) + 1)) = false := by
          rw [hLl, wr_succ (by omega)]
          exact bne_self_eq_false _
        have c_h : (bif decide (wr ((homeL u (goSt u route u.base start u.fuel route.length)).leave - start) > u.hours) then decide ((route.length : Int) > 0) else false) = false := by
          rcases Nat.eq_zero_or_pos route.length with h0 | h0
          · rw [show decide ((route.length : Int) > 0) = false from decide_eq_false (by omega)]
            cases decide (wr ((homeL u (goSt u route u.base start u.fuel route.length)).leave - start) > u.hours) <;> rfl
          · obtain ⟨m, hm⟩ : ∃ m, route.length = m + 1 := ⟨route.length - 1, by omega⟩
            have hl := last_P hu hT' hW hu.base hT' hF hstop (k := m) (by omega)
            rw [← hm] at hl
            have t1 := hl.tired
            have t2 := hl.late
            have t3 := hh.t0
            have t4 := hG.t0
            rw [hh.leave, wr_small (by omega) (by omega), show decide ((goSt u route u.base start u.fuel route.length).time + takeR u (goSt u route u.base start u.fuel route.length).pos u.base - start > u.hours) = false from decide_eq_false (by omega)]
            rfl
        have hto : (homeL u (goSt u route u.base start u.fuel route.length)).to_ = u.base := rfl
        simp only [hwp, hib, hln, hleg, hto, beq_self_eq_true, Bool.true_or, Bool.and_self, Bool.not_true, cond_false, c_h]
        exact loop6 u start route sky hE
  · simp at h
end Go.Proofs.YtnbcmgdogohenaaDoor.Ev
