/- Summaries of functions, printed by a program out of a list, and what is made of them. -/
import Derived.Test.YtnbcmgdogohenaaDoorLb
set_option linter.unusedVariables false
set_option linter.unusedSimpArgs false
set_option maxRecDepth 100000
namespace Go.Proofs.YtnbcmgdogohenaaDoor.Ev
open Go Go.RowKit Go.Proofs
/-- A unit that is under way. -/
structure Trip where
  u : Unit'
  sky : List Front
  pos : Spot
  since : Int
  time : Int
  fuel : Int
def Trip.cells (t : Trip) : List PV := [.s t.u.name, .i .i64 t.u.speed, .i .i64 t.u.fuel, .i .i64 t.u.burn, .i .i64 t.u.reserve, .i .i64 t.u.hours, .i .i64 t.u.sea, .i .i64 t.u.wind, .i .i64 t.u.base.x, .i .i64 t.u.base.y, .i .i64 t.u.margin, .i .i64 t.u.level, .sl .front t.sky, .i .i64 t.pos.x, .i .i64 t.pos.y, .i .i64 t.since, .i .i64 t.time, .i .i64 t.fuel]
def Trip.dec : List PV → Option Trip
  | [.s u0, .i .i64 u1, .i .i64 u2, .i .i64 u3, .i .i64 u4, .i .i64 u5, .i .i64 u6, .i .i64 u7, .i .i64 u8, .i .i64 u9, .i .i64 u10, .i .i64 u11, .sl .front sky, .i .i64 p0, .i .i64 p1, .i .i64 since, .i .i64 time, .i .i64 fuel] => some ⟨⟨u0, u1, u2, u3, u4, u5, u6, u7, ⟨u8, u9⟩, u10, u11⟩, sky, ⟨p0, p1⟩, since, time, fuel⟩
  | _ => none
theorem Trip.dec_is {l : List PV} {t : Trip} (h : Trip.dec l = some t) : l = t.cells := by
  unfold Trip.dec at h
  split at h
  · obtain rfl := Option.some.inj h
    rfl
  · simp at h
theorem fn127 : FnOk 127 Tryd.f127 := ⟨by kernel_rfl, by kernel_rfl, by kernel_rfl, by kernel_rfl⟩
def concernsR (x : Front) (a : Spot) (b : Spot) (fr : Int) (to : Int) : Bool := bif (bif (decide ((imax x.fr fr) ≤ (imin x.to_ to))) then (decide ((imax x.low.x (imin a.x b.x)) ≤ (imin x.high.x (imax a.x b.x)))) else false) then (decide ((imax x.low.y (imin a.y b.y)) ≤ (imin x.high.y (imax a.y b.y)))) else false
theorem e127 (gl : Gl) (x : Front) (a : Spot) (b : Spot) (fr : Int) (to : Int) : evFn (cx gl (mkG []) [] []) noK noL Tryd.f127 [.agg [.i .i64 x.fr, .i .i64 x.to_, .i .i64 x.low.x, .i .i64 x.low.y, .i .i64 x.high.x, .i .i64 x.high.y, .i .i64 x.sea, .i .i64 x.wind], .agg [.i .i64 a.x, .i .i64 a.y], .agg [.i .i64 b.x, .i .i64 b.y], .i .i64 fr, .i .i64 to] noObjs = an (.b (bif (bif (decide ((imax x.fr fr) ≤ (imin x.to_ to))) then (decide ((imax x.low.x (imin a.x b.x)) ≤ (imin x.high.x (imax a.x b.x)))) else false) then (decide ((imax x.low.y (imin a.y b.y)) ≤ (imin x.high.y (imax a.y b.y)))) else false)) := by kernel_rfl
def F127 : List PV → Option (Bool × PV)
  | [.agg xL, .agg [.i .i64 a0, .i .i64 a1], .agg [.i .i64 b0, .i .i64 b1], .i .i64 fr, .i .i64 to] => (ETy.dec .front xL).bind fun x => some (true, .b (concernsR x (⟨a0, a1⟩ : Spot) (⟨b0, b1⟩ : Spot) fr to))
  | _ => none
theorem s127 {gl : Gl} : Sum gl 127 F127 := by
  intro ps r h
  unfold F127 at h
  split at h
  · rename_i xL a0 a1 b0 b1 fr to
    obtain ⟨x, hx, h_x⟩ := Option.bind_eq_some_iff.1 h
    obtain rfl := dec_is (by simp) hx
    obtain ⟨hc, rfl⟩ := Prod.mk.inj (Option.some.inj h_x)
    refine call_by (K := noK) (L := noL) (bxs := []) (ows := []) (GOk.nil) fn127 (noLoops (by kernel_rfl)) (by kernel_rfl) (evF_some ((e127 gl x ⟨a0, a1⟩ ⟨b0, b1⟩ fr to).trans ?_))
    try unfold concernsR
    rfl
  · simp at h
theorem fn134 : FnOk 134 Tryd.f134 := ⟨by kernel_rfl, by kernel_rfl, by kernel_rfl, by kernel_rfl⟩
def frontFine (x : Front) (fr : Int) (to : Int) (a : Spot) (b : Spot) (t : Trip) : Bool := bif (!(bif (bif (overlap x.fr x.to_ fr to) then (overlap x.low.x x.high.x (imin a.x b.x) (imax a.x b.x)) else false) then (overlap x.low.y x.high.y (imin a.y b.y) (imax a.y b.y)) else false)) then true else (bif (decide (x.sea ≤ t.u.sea)) then (decide (x.wind ≤ t.u.wind)) else false)
theorem e134 (gl : Gl) (x : Front) (fr : Int) (to : Int) (a : Spot) (b : Spot) (t : Trip) : evFn (cx gl (mkG [(100, F100)]) [] []) noK noL Tryd.f134 [.agg [.i .i64 x.fr, .i .i64 x.to_, .i .i64 x.low.x, .i .i64 x.low.y, .i .i64 x.high.x, .i .i64 x.high.y, .i .i64 x.sea, .i .i64 x.wind], .ptr [.i .i64 fr] 0, .ptr [.i .i64 to] 0, .ptr [.i .i64 a.x, .i .i64 a.y] 0, .ptr [.i .i64 b.x, .i .i64 b.y] 0, .ptr [.ptr [.s t.u.name, .i .i64 t.u.speed, .i .i64 t.u.fuel, .i .i64 t.u.burn, .i .i64 t.u.reserve, .i .i64 t.u.hours, .i .i64 t.u.sea, .i .i64 t.u.wind, .i .i64 t.u.base.x, .i .i64 t.u.base.y, .i .i64 t.u.margin, .i .i64 t.u.level, .sl .front t.sky, .i .i64 t.pos.x, .i .i64 t.pos.y, .i .i64 t.since, .i .i64 t.time, .i .i64 t.fuel] 0] 0] noObjs = an (.b (bif (!(bif (bif (overlap x.fr x.to_ fr to) then (overlap x.low.x x.high.x (imin a.x b.x) (imax a.x b.x)) else false) then (overlap x.low.y x.high.y (imin a.y b.y) (imax a.y b.y)) else false)) then true else (bif (decide (x.sea ≤ t.u.sea)) then (decide (x.wind ≤ t.u.wind)) else false))) := by kernel_rfl
def F134 : List PV → Option (Bool × PV)
  | [.agg xL, .ptr [.i .i64 fr] 0, .ptr [.i .i64 to] 0, .ptr [.i .i64 a0, .i .i64 a1] 0, .ptr [.i .i64 b0, .i .i64 b1] 0, .ptr [.ptr tL 0] 0] => (ETy.dec .front xL).bind fun x => (Trip.dec tL).bind fun t => some (true, .b (frontFine x fr to (⟨a0, a1⟩ : Spot) (⟨b0, b1⟩ : Spot) t))
  | _ => none
theorem s134 {gl : Gl} : Sum gl 134 F134 := by
  intro ps r h
  unfold F134 at h
  split at h
  · rename_i xL fr to a0 a1 b0 b1 tL
    obtain ⟨x, hx, h_x⟩ := Option.bind_eq_some_iff.1 h
    obtain rfl := dec_is (by simp) hx
    obtain ⟨t, ht, h_t⟩ := Option.bind_eq_some_iff.1 h_x
    obtain rfl := Trip.dec_is ht
    obtain ⟨hc, rfl⟩ := Prod.mk.inj (Option.some.inj h_t)
    refine call_by (K := noK) (L := noL) (bxs := []) (ows := []) (GOk.cons s100 (GOk.nil)) fn134 (noLoops (by kernel_rfl)) (by kernel_rfl) (evF_some ((e134 gl x fr to ⟨a0, a1⟩ ⟨b0, b1⟩ t).trans ?_))
    try unfold frontFine
    rfl
  · simp at h
theorem e91b (gl : Gl) (x : Front) (fr : Int) (to : Int) (a : Spot) (b : Spot) (t : Trip) : evFn (cx gl (mkG [(134, F134)]) [] []) noK noL Tryd.f91 [.agg [.i .i64 x.fr, .i .i64 x.to_, .i .i64 x.low.x, .i .i64 x.low.y, .i .i64 x.high.x, .i .i64 x.high.y, .i .i64 x.sea, .i .i64 x.wind], .ptr [.fn (.func 134) [] [.ptr [.i .i64 fr] 0, .ptr [.i .i64 to] 0, .ptr [.i .i64 a.x, .i .i64 a.y] 0, .ptr [.i .i64 b.x, .i .i64 b.y] 0, .ptr [.ptr [.s t.u.name, .i .i64 t.u.speed, .i .i64 t.u.fuel, .i .i64 t.u.burn, .i .i64 t.u.reserve, .i .i64 t.u.hours, .i .i64 t.u.sea, .i .i64 t.u.wind, .i .i64 t.u.base.x, .i .i64 t.u.base.y, .i .i64 t.u.margin, .i .i64 t.u.level, .sl .front t.sky, .i .i64 t.pos.x, .i .i64 t.pos.y, .i .i64 t.since, .i .i64 t.time, .i .i64 t.fuel] 0] 0]] 0] noObjs = an (.b (!(frontFine x fr to a b t))) := by kernel_rfl
def F91b : List PV → Option (Bool × PV)
  | [.agg xL, .ptr [.fn (.func 134) [] [.ptr [.i .i64 fr] 0, .ptr [.i .i64 to] 0, .ptr [.i .i64 a0, .i .i64 a1] 0, .ptr [.i .i64 b0, .i .i64 b1] 0, .ptr [.ptr tL 0] 0]] 0] => (ETy.dec .front xL).bind fun x => (Trip.dec tL).bind fun t => some (true, .b (!(frontFine x fr to (⟨a0, a1⟩ : Spot) (⟨b0, b1⟩ : Spot) t)))
  | _ => none
theorem s91b {gl : Gl} : Sum gl 91 F91b := by
  intro ps r h
  unfold F91b at h
  split at h
  · rename_i xL fr to a0 a1 b0 b1 tL
    obtain ⟨x, hx, h_x⟩ := Option.bind_eq_some_iff.1 h
    obtain rfl := dec_is (by simp) hx
    obtain ⟨t, ht, h_t⟩ := Option.bind_eq_some_iff.1 h_x
    obtain rfl := Trip.dec_is ht
    obtain ⟨hc, rfl⟩ := Prod.mk.inj (Option.some.inj h_t)
    refine call_by (K := noK) (L := noL) (bxs := []) (ows := []) (GOk.cons s134 (GOk.nil)) fn91 (noLoops (by kernel_rfl)) (by kernel_rfl) (evF_some ((e91b gl x fr to ⟨a0, a1⟩ ⟨b0, b1⟩ t).trans ?_))
    rfl
  · simp at h
structure S120b_2 where
  xs : List Front
  f : Int
  f2 : Int
  f3 : Int
  f4 : Int
  f5 : Int
  f6 : Int
  t : Trip
  r : Int
  n : Int
  i : Int
def S120b_2.enc (s : S120b_2) : List PV := [.sl .front s.xs, .fn (.func 91) [] [.ptr [.fn (.func 134) [] [.ptr [.i .i64 s.f] 0, .ptr [.i .i64 s.f2] 0, .ptr [.i .i64 s.f3, .i .i64 s.f4] 0, .ptr [.i .i64 s.f5, .i .i64 s.f6] 0, .ptr [.ptr [.s s.t.u.name, .i .i64 s.t.u.speed, .i .i64 s.t.u.fuel, .i .i64 s.t.u.burn, .i .i64 s.t.u.reserve, .i .i64 s.t.u.hours, .i .i64 s.t.u.sea, .i .i64 s.t.u.wind, .i .i64 s.t.u.base.x, .i .i64 s.t.u.base.y, .i .i64 s.t.u.margin, .i .i64 s.t.u.level, .sl .front s.t.sky, .i .i64 s.t.pos.x, .i .i64 s.t.pos.y, .i .i64 s.t.since, .i .i64 s.t.time, .i .i64 s.t.fuel] 0] 0]] 0], .i .i64 s.r, .i .i64 s.n, .i .i64 s.i]
def S120b_2.encH (s : S120b_2) : Heap := []
def dec120b_2 : List PV → Heap → Option S120b_2
  | [.sl .front xs_, .fn (.func 91) [] [.ptr [.fn (.func 134) [] [.ptr [.i .i64 f_] 0, .ptr [.i .i64 f2_] 0, .ptr [.i .i64 f3_, .i .i64 f4_] 0, .ptr [.i .i64 f5_, .i .i64 f6_] 0, .ptr [.ptr tL 0] 0]] 0], .i .i64 r_, .i .i64 n_, .i .i64 i_], [] => (Trip.dec tL).bind fun t_ => some ⟨xs_, f_, f2_, f3_, f4_, f5_, f6_, t_, r_, n_, i_⟩
  | _, _ => none
theorem dec_enc120b_2 (vs : List PV) (hs : Heap) (s : S120b_2) (h : dec120b_2 vs hs = some s) : vs = s.enc ∧ hs = s.encH := by
  unfold dec120b_2 at h
  split at h
  · obtain ⟨t_, ht, h_t⟩ := Option.bind_eq_some_iff.1 h
    obtain rfl := Trip.dec_is ht
    obtain rfl := Option.some.inj h_t
    exact ⟨rfl, rfl⟩
  · simp at h
def st120b_2 {ρ : Type} (s : S120b_2) (next : S120b_2 → Option ρ) (out : S120b_2 × Bool → Option ρ) : Option ρ := (match (decide (s.i < s.n)) with | true => (match (inB s.i s.xs.length) with | true => (match (!(frontFine (atD .front s.xs s.i) s.f s.f2 (⟨s.f3, s.f4⟩ : Spot) (⟨s.f5, s.f6⟩ : Spot) s.t)) with | true => out (⟨s.xs, s.f, s.f2, s.f3, s.f4, s.f5, s.f6, s.t, s.i, s.n, s.i⟩, true) | false => next ⟨s.xs, s.f, s.f2, s.f3, s.f4, s.f5, s.f6, s.t, s.r, s.n, (wr (s.i + 1))⟩) | false => none) | false => out (s, false))
def out120b_2 (k : Ex → List PV → Heap → Option R) (o : S120b_2 × Bool) : Option R := match o.2 with
  | true => k .ret o.1.enc o.1.encH
  | false => k (.exit 0) o.1.enc o.1.encH
def fuel120b_2 (s : S120b_2) : Nat := s.xs.length + 1
def K120b : Keep := fun _ => ([0, 1, 4, 7, 8], [])
def L120b : Lam := loopL dec120b_2 st120b_2 fuel120b_2 out120b_2
noncomputable def b120b_2 : Code := (loopsOf (bodyOf Tryd.f120)).getD 0 .skip
theorem step120b_2 (gl : Gl) (j : Nat) (s : S120b_2) (k : Ex → List PV → Heap → Option R) : unroll (cx gl (mkG [(91, F91b)]) [] []) K120b L120b Tryd.f120.ntmps (Tryd.f120.ntmps + 16) b120b_2 (j + 1) s.enc s.encH k = st120b_2 s (fun s' => unroll (cx gl (mkG [(91, F91b)]) [] []) K120b L120b Tryd.f120.ntmps (Tryd.f120.ntmps + 16) b120b_2 j s'.enc s'.encH k) (out120b_2 k) := by kernel_rfl
theorem l120b (gl : Gl) : LoopsOk (cx gl (mkG [(91, F91b)]) [] []) K120b L120b Tryd.f120.ntmps (Tryd.f120.ntmps + 16) (loopsOf (bodyOf Tryd.f120)) := by
  refine loopsOk_list (l := [b120b_2]) (by kernel_rfl) ?_
  exact List.forall_mem_cons.2 ⟨loopOk1 (fuel := fuel120b_2) (enc := S120b_2.enc) (encH := S120b_2.encH) (fun vs hs k => by kernel_rfl) dec_enc120b_2 (step120b_2 gl ), (fun _ h => by simp at h)⟩
theorem e120b (gl : Gl) (xs : List Front) (fr : Int) (to : Int) (a : Spot) (b : Spot) (t : Trip) : evFn (cx gl (mkG [(91, F91b)]) [] []) K120b L120b Tryd.f120 [.sl .front xs, .fn (.func 91) [] [.ptr [.fn (.func 134) [] [.ptr [.i .i64 fr] 0, .ptr [.i .i64 to] 0, .ptr [.i .i64 a.x, .i .i64 a.y] 0, .ptr [.i .i64 b.x, .i .i64 b.y] 0, .ptr [.ptr [.s t.u.name, .i .i64 t.u.speed, .i .i64 t.u.fuel, .i .i64 t.u.burn, .i .i64 t.u.reserve, .i .i64 t.u.hours, .i .i64 t.u.sea, .i .i64 t.u.wind, .i .i64 t.u.base.x, .i .i64 t.u.base.y, .i .i64 t.u.margin, .i .i64 t.u.level, .sl .front t.sky, .i .i64 t.pos.x, .i .i64 t.pos.y, .i .i64 t.since, .i .i64 t.time, .i .i64 t.fuel] 0] 0]] 0]] noObjs = (iter st120b_2 (fuel120b_2 (⟨xs, fr, to, a.x, a.y, b.x, b.y, t, 0, (xs.length : Int), 0⟩ : S120b_2)) (⟨xs, fr, to, a.x, a.y, b.x, b.y, t, 0, (xs.length : Int), 0⟩ : S120b_2) fun o2 => (match o2.2 with | true => an (.i .i64 o2.1.r) | false => an (.i .i64 (-1)))) := by kernel_rfl
def F120b : List PV → Option (Bool × PV)
  | [.sl .front xs, .fn (.func 91) [] [.ptr [.fn (.func 134) [] [.ptr [.i .i64 fr] 0, .ptr [.i .i64 to] 0, .ptr [.i .i64 a0, .i .i64 a1] 0, .ptr [.i .i64 b0, .i .i64 b1] 0, .ptr [.ptr tL 0] 0]] 0]] => (Trip.dec tL).bind fun t => some ((decide (xs.length ≤ 1000000)), .i .i64 (idxI (fun x => !(frontFine x fr to (⟨a0, a1⟩ : Spot) (⟨b0, b1⟩ : Spot) t)) xs))
  | _ => none
theorem s120b {gl : Gl} : Sum gl 120 F120b := by
  intro ps r h
  unfold F120b at h
  split at h
  · rename_i xs fr to a0 a1 b0 b1 tL
    obtain ⟨t, ht, h_t⟩ := Option.bind_eq_some_iff.1 h
    obtain rfl := Trip.dec_is ht
    obtain ⟨hc, rfl⟩ := Prod.mk.inj (Option.some.inj h_t)
    refine call_by (K := K120b) (L := L120b) (bxs := []) (ows := []) (GOk.cons s91b (GOk.nil)) fn120 (l120b gl) (by kernel_rfl) (evF_some ((e120b gl xs fr to ⟨a0, a1⟩ ⟨b0, b1⟩ t).trans ?_))
    have hx := of_decide_eq_true hc
    refine (iter_all (step := st120b_2) (F := fun k => ⟨xs, fr, to, a0, a1, b0, b1, t, 0, xs.length, (k : Int)⟩) (stop := fun k => bif !(frontFine (atN .front xs k) fr to (⟨a0, a1⟩ : Spot) (⟨b0, b1⟩ : Spot) t) then some (⟨xs, fr, to, a0, a1, b0, b1, t, (k : Int), xs.length, (k : Int)⟩, true) else none) (last := (⟨xs, fr, to, a0, a1, b0, b1, t, 0, xs.length, (xs.length : Int)⟩, false)) xs.length _ (fun k next hk => ?_) (fun next => ?_) _ (Nat.le_refl _) _ rfl).trans ?_
    · simp only [st120b_2, decLt_nat hk, inB_nat hk, wr_succ (show k ≤ 1000000 by omega), atD, Int.toNat_natCast]
      generalize (!(frontFine (atN .front xs k) fr to (⟨a0, a1⟩ : Spot) (⟨b0, b1⟩ : Spot) t)) = b_
      cases b_ <;> rfl
    · simp only [st120b_2, decLt_self]
    · rw [runTo_find (fun x => !(frontFine x fr to (⟨a0, a1⟩ : Spot) (⟨b0, b1⟩ : Spot) t)) (fun k => (⟨xs, fr, to, a0, a1, b0, b1, t, (k : Int), xs.length, (k : Int)⟩, true)) _ _ xs (fun k hk => by rw [atN_nat hk]) xs.length 0 (by omega), List.drop_zero]
      unfold idxI
      cases xs.findIdx? (fun x => !(frontFine x fr to (⟨a0, a1⟩ : Spot) (⟨b0, b1⟩ : Spot) t)) with
      | none => rfl
      | some k => simp only [Nat.zero_add]; rfl
  · simp at h
theorem e90b (gl : Gl) (xs : List Front) (fr : Int) (to : Int) (a : Spot) (b : Spot) (t : Trip) : evFn (cx gl (mkG [(120, F120b)]) [] []) noK noL Tryd.f90 [.sl .front xs, .fn (.func 91) [] [.ptr [.fn (.func 134) [] [.ptr [.i .i64 fr] 0, .ptr [.i .i64 to] 0, .ptr [.i .i64 a.x, .i .i64 a.y] 0, .ptr [.i .i64 b.x, .i .i64 b.y] 0, .ptr [.ptr [.s t.u.name, .i .i64 t.u.speed, .i .i64 t.u.fuel, .i .i64 t.u.burn, .i .i64 t.u.reserve, .i .i64 t.u.hours, .i .i64 t.u.sea, .i .i64 t.u.wind, .i .i64 t.u.base.x, .i .i64 t.u.base.y, .i .i64 t.u.margin, .i .i64 t.u.level, .sl .front t.sky, .i .i64 t.pos.x, .i .i64 t.pos.y, .i .i64 t.since, .i .i64 t.time, .i .i64 t.fuel] 0] 0]] 0]] noObjs = (match (decide (xs.length ≤ 1000000)) with | true => an (.b (decide ((idxI (fun x => !(frontFine x fr to a b t)) xs) ≥ 0))) | false => none) := by kernel_rfl
def F90b : List PV → Option (Bool × PV)
  | [.sl .front xs, .fn (.func 91) [] [.ptr [.fn (.func 134) [] [.ptr [.i .i64 fr] 0, .ptr [.i .i64 to] 0, .ptr [.i .i64 a0, .i .i64 a1] 0, .ptr [.i .i64 b0, .i .i64 b1] 0, .ptr [.ptr tL 0] 0]] 0]] => (Trip.dec tL).bind fun t => some ((decide (xs.length ≤ 1000000)), .b (List.any xs (fun x => !(frontFine x fr to (⟨a0, a1⟩ : Spot) (⟨b0, b1⟩ : Spot) t))))
  | _ => none
theorem s90b {gl : Gl} : Sum gl 90 F90b := by
  intro ps r h
  unfold F90b at h
  split at h
  · rename_i xs fr to a0 a1 b0 b1 tL
    obtain ⟨t, ht, h_t⟩ := Option.bind_eq_some_iff.1 h
    obtain rfl := Trip.dec_is ht
    obtain ⟨hc, rfl⟩ := Prod.mk.inj (Option.some.inj h_t)
    refine call_by (K := noK) (L := noL) (bxs := []) (ows := []) (GOk.cons s120b (GOk.nil)) fn90 (noLoops (by kernel_rfl)) (by kernel_rfl) (evF_some ((e90b gl xs fr to ⟨a0, a1⟩ ⟨b0, b1⟩ t).trans ?_))
    have hx := of_decide_eq_true hc
    rw [decide_eq_true hx]
    show an (.b (decide (idxI _ xs ≥ 0))) = _
    rw [idxI_any]
    rfl
  · simp at h
theorem e58b (gl : Gl) (xs : List Front) (fr : Int) (to : Int) (a : Spot) (b : Spot) (t : Trip) : evFn (cx gl (mkG [(90, F90b)]) [] []) noK noL Tryd.f58 [.sl .front xs, .fn (.func 134) [] [.ptr [.i .i64 fr] 0, .ptr [.i .i64 to] 0, .ptr [.i .i64 a.x, .i .i64 a.y] 0, .ptr [.i .i64 b.x, .i .i64 b.y] 0, .ptr [.ptr [.s t.u.name, .i .i64 t.u.speed, .i .i64 t.u.fuel, .i .i64 t.u.burn, .i .i64 t.u.reserve, .i .i64 t.u.hours, .i .i64 t.u.sea, .i .i64 t.u.wind, .i .i64 t.u.base.x, .i .i64 t.u.base.y, .i .i64 t.u.margin, .i .i64 t.u.level, .sl .front t.sky, .i .i64 t.pos.x, .i .i64 t.pos.y, .i .i64 t.since, .i .i64 t.time, .i .i64 t.fuel] 0] 0]] noObjs = (match (decide (xs.length ≤ 1000000)) with | true => an (.b (!(List.any xs (fun x => !(frontFine x fr to a b t))))) | false => none) := by kernel_rfl
def F58b : List PV → Option (Bool × PV)
  | [.sl .front xs, .fn (.func 134) [] [.ptr [.i .i64 fr] 0, .ptr [.i .i64 to] 0, .ptr [.i .i64 a0, .i .i64 a1] 0, .ptr [.i .i64 b0, .i .i64 b1] 0, .ptr [.ptr tL 0] 0]] => (Trip.dec tL).bind fun t => some ((decide (xs.length ≤ 1000000)), .b (List.all xs (fun x => frontFine x fr to (⟨a0, a1⟩ : Spot) (⟨b0, b1⟩ : Spot) t)))
  | _ => none
theorem s58b {gl : Gl} : Sum gl 58 F58b := by
  intro ps r h
  unfold F58b at h
  split at h
  · rename_i xs fr to a0 a1 b0 b1 tL
    obtain ⟨t, ht, h_t⟩ := Option.bind_eq_some_iff.1 h
    obtain rfl := Trip.dec_is ht
    obtain ⟨hc, rfl⟩ := Prod.mk.inj (Option.some.inj h_t)
    refine call_by (K := noK) (L := noL) (bxs := []) (ows := []) (GOk.cons s90b (GOk.nil)) fn58 (noLoops (by kernel_rfl)) (by kernel_rfl) (evF_some ((e58b gl xs fr to ⟨a0, a1⟩ ⟨b0, b1⟩ t).trans ?_))
    have hx := of_decide_eq_true hc
    rw [decide_eq_true hx]
    show an (.b (!(xs.any fun x => !((fun x => frontFine x fr to (⟨a0, a1⟩ : Spot) (⟨b0, b1⟩ : Spot) t) x)))) = _
    rw [all_not_any]
    rfl
  · simp at h
theorem fn126 : FnOk 126 Tryd.f126 := ⟨by kernel_rfl, by kernel_rfl, by kernel_rfl, by kernel_rfl⟩
def v126 (t : Trip) (a : Spot) (b : Spot) (fr : Int) (to : Int) : Bool := !(List.all t.sky (fun x => frontFine x fr to a b t))
def c126 (t : Trip) : Bool := decide (t.sky.length ≤ 1000000)
theorem e126 (gl : Gl) (t : Trip) (a : Spot) (b : Spot) (fr : Int) (to : Int) : evFn (cx gl (mkG [(58, F58b)]) [] []) noK noL Tryd.f126 [.ptr [.s t.u.name, .i .i64 t.u.speed, .i .i64 t.u.fuel, .i .i64 t.u.burn, .i .i64 t.u.reserve, .i .i64 t.u.hours, .i .i64 t.u.sea, .i .i64 t.u.wind, .i .i64 t.u.base.x, .i .i64 t.u.base.y, .i .i64 t.u.margin, .i .i64 t.u.level, .sl .front t.sky, .i .i64 t.pos.x, .i .i64 t.pos.y, .i .i64 t.since, .i .i64 t.time, .i .i64 t.fuel] 0, .agg [.i .i64 a.x, .i .i64 a.y], .agg [.i .i64 b.x, .i .i64 b.y], .i .i64 fr, .i .i64 to] noObjs = (match (decide (t.sky.length ≤ 1000000)) with | true => an (.b (!(List.all t.sky (fun x => frontFine x fr to a b t)))) | false => none) := by kernel_rfl
def F126 : List PV → Option (Bool × PV)
  | [.ptr tL 0, .agg [.i .i64 a0, .i .i64 a1], .agg [.i .i64 b0, .i .i64 b1], .i .i64 fr, .i .i64 to] => (Trip.dec tL).bind fun t => some ((c126 t), .b (v126 t (⟨a0, a1⟩ : Spot) (⟨b0, b1⟩ : Spot) fr to))
  | _ => none
theorem s126 {gl : Gl} : Sum gl 126 F126 := by
  intro ps r h
  unfold F126 at h
  split at h
  · rename_i tL a0 a1 b0 b1 fr to
    obtain ⟨t, ht, h_t⟩ := Option.bind_eq_some_iff.1 h
    obtain rfl := Trip.dec_is ht
    obtain ⟨hc, rfl⟩ := Prod.mk.inj (Option.some.inj h_t)
    refine call_by (K := noK) (L := noL) (bxs := []) (ows := []) (GOk.cons s58b (GOk.nil)) fn126 (noLoops (by kernel_rfl)) (by kernel_rfl) (evF_some ((e126 gl t ⟨a0, a1⟩ ⟨b0, b1⟩ fr to).trans ?_))
    try unfold v126 at hc
    try unfold c126 at hc
    try unfold v126
    try unfold c126
    revert hc
    generalize ((decide (t.sky.length ≤ 1000000))) = b_
    cases b_
    · intro hc
      exact Bool.noConfusion (show false = true from hc)
    · intro hc
      rfl
  · simp at h
end Go.Proofs.YtnbcmgdogohenaaDoor.Ev
/- Summaries of functions, printed by a program out of a list, and what is made of them. -/
namespace Go.Proofs.YtnbcmgdogohenaaDoor.Ev
open Go Go.RowKit Go.Proofs
/-- Is weather too bad, and does it concern a way? -/
def badR (x : Front) (a b : Spot) (fr to : Int) (u : Unit') : Bool := bif (concernsR x a b fr to) then (bif (decide (x.sea > u.sea)) then true else (decide (x.wind > u.wind))) else false
def skyBad (sky : List Front) (a b : Spot) (fr to : Int) (u : Unit') : Bool := List.any sky (fun x => badR x a b fr to u)
structure S105_2 where
  sky : List Front
  from_ : Int
  to_ : Int
  u : Unit'
  a : Int
  a2 : Int
  b : Int
  b2 : Int
  t12 : Bool
  i : Int
def S105_2.enc (s : S105_2) : List PV := [.sl .front s.sky, .i .i64 s.from_, .i .i64 s.to_, .ptr [.s s.u.name, .i .i64 s.u.speed, .i .i64 s.u.fuel, .i .i64 s.u.burn, .i .i64 s.u.reserve, .i .i64 s.u.hours, .i .i64 s.u.sea, .i .i64 s.u.wind, .i .i64 s.u.base.x, .i .i64 s.u.base.y, .i .i64 s.u.margin, .i .i64 s.u.level] 0, .ptr [.i .i64 s.a, .i .i64 s.a2] 0, .ptr [.i .i64 s.b, .i .i64 s.b2] 0, .b s.t12, .i .i64 s.i]
def S105_2.encH (s : S105_2) : Heap := []
def dec105_2 : List PV → Heap → Option S105_2
  | [.sl .front sky_, .i .i64 from__, .i .i64 to__, .ptr uL 0, .ptr [.i .i64 a_, .i .i64 a2_] 0, .ptr [.i .i64 b_, .i .i64 b2_] 0, .b t12_, .i .i64 i_], [] => (ETy.dec .unit uL).bind fun u_ => some ⟨sky_, from__, to__, u_, a_, a2_, b_, b2_, t12_, i_⟩
  | _, _ => none
theorem dec_enc105_2 (vs : List PV) (hs : Heap) (s : S105_2) (h : dec105_2 vs hs = some s) : vs = s.enc ∧ hs = s.encH := by
  unfold dec105_2 at h
  split at h
  · obtain ⟨u_, hu, h_u⟩ := Option.bind_eq_some_iff.1 h
    obtain rfl := dec_is (by simp) hu
    obtain rfl := Option.some.inj h_u
    exact ⟨rfl, rfl⟩
  · simp at h
def st105_2 {ρ : Type} (s : S105_2) (next : S105_2 → Option ρ) (out : S105_2 × Bool → Option ρ) : Option ρ := (match (decide (s.i < (s.sky.length : Int))) with | true => (match (inB s.i s.sky.length) with | true => (match ((inB s.i s.sky.length) || ((!(concernsR (atD .front s.sky s.i) (⟨s.a, s.a2⟩ : Spot) (⟨s.b, s.b2⟩ : Spot) s.from_ s.to_)) || false)) with | true => (match ((inB s.i s.sky.length) || ((!(concernsR (atD .front s.sky s.i) (⟨s.a, s.a2⟩ : Spot) (⟨s.b, s.b2⟩ : Spot) s.from_ s.to_)) || ((decide (((atD .front s.sky s.i).sea) > s.u.sea)) || false))) with | true => (match (bif (concernsR (atD .front s.sky s.i) (⟨s.a, s.a2⟩ : Spot) (⟨s.b, s.b2⟩ : Spot) s.from_ s.to_) then (bif (decide (((atD .front s.sky s.i).sea) > s.u.sea)) then true else (decide (((atD .front s.sky s.i).wind) > s.u.wind))) else false) with | true => out (⟨s.sky, s.from_, s.to_, s.u, s.a, s.a2, s.b, s.b2, true, s.i⟩, true) | false => next ⟨s.sky, s.from_, s.to_, s.u, s.a, s.a2, s.b, s.b2, s.t12, (wr (s.i + 1))⟩) | false => none) | false => none) | false => none) | false => out (s, false))
def out105_2 (k : Ex → List PV → Heap → Option R) (o : S105_2 × Bool) : Option R := match o.2 with
  | true => k .ret o.1.enc o.1.encH
  | false => k (.exit 0) o.1.enc o.1.encH
def fuel105_2 (s : S105_2) : Nat := s.sky.length + 1
def K105 : Keep := fun _ => ([1, 4, 5, 6, 8, 9, 12, 13], [])
def L105 : Lam := loopL dec105_2 st105_2 fuel105_2 out105_2
noncomputable def b105_2 : Code := (loopsOf (bodyOf Tryd.f105)).getD 0 .skip
theorem step105_2 (gl : Gl) (j : Nat) (s : S105_2) (k : Ex → List PV → Heap → Option R) : unroll (cx gl (mkG [(127, F127)]) [] []) K105 L105 Tryd.f105.ntmps (Tryd.f105.ntmps + 16) b105_2 (j + 1) s.enc s.encH k = st105_2 s (fun s' => unroll (cx gl (mkG [(127, F127)]) [] []) K105 L105 Tryd.f105.ntmps (Tryd.f105.ntmps + 16) b105_2 j s'.enc s'.encH k) (out105_2 k) := by kernel_rfl
theorem l105 (gl : Gl) : LoopsOk (cx gl (mkG [(127, F127)]) [] []) K105 L105 Tryd.f105.ntmps (Tryd.f105.ntmps + 16) (loopsOf (bodyOf Tryd.f105)) := by
  refine loopsOk_list (l := [b105_2]) (by kernel_rfl) ?_
  exact List.forall_mem_cons.2 ⟨loopOk1 (fuel := fuel105_2) (enc := S105_2.enc) (encH := S105_2.encH) (fun vs hs k => by kernel_rfl) dec_enc105_2 (step105_2 gl ), (fun _ h => by simp at h)⟩
theorem loop105 (u : Unit') (sky : List Front) (a b : Spot) (fr to : Int) (hx : sky.length ≤ 1000000)  : (iter st105_2 (fuel105_2 (⟨sky, fr, to, u, a.x, a.y, b.x, b.y, false, 0⟩ : S105_2)) (⟨sky, fr, to, u, a.x, a.y, b.x, b.y, false, 0⟩ : S105_2) fun o2 => (match o2.2 with | true => an (.b o2.1.t12) | false => an (.b false))) = bif List.any sky (fun x => badR x a b fr to u) then an (.b true) else an (.b false) := by
  refine (iter_all (step := st105_2) (F := fun k => (⟨sky, fr, to, u, a.x, a.y, b.x, b.y, false, (k : Int)⟩ : S105_2)) (stop := fun k => bif badR (atN .front sky k) a b fr to u then some ((⟨sky, fr, to, u, a.x, a.y, b.x, b.y, true, (k : Int)⟩ : S105_2), true) else none) (last := ((⟨sky, fr, to, u, a.x, a.y, b.x, b.y, false, (sky.length : Int)⟩ : S105_2), false)) sky.length _ (fun k next hk => ?_) (fun next => ?_) _ (Nat.le_refl _) _ rfl).trans ?_
  · simp only [st105_2, decLt_nat hk, inB_nat hk, wr_succ (show k ≤ 1000000 by omega), atD, Int.toNat_natCast, Bool.true_or]
    show (match (badR (atN .front sky k) a b fr to u) with | true => _ | false => _) = _
    generalize (badR (atN .front sky k) a b fr to u) = b_
    cases b_ <;> rfl
  · simp only [st105_2, decLt_self]
  · rw [runTo_find (fun x => badR x a b fr to u) (fun k => ((⟨sky, fr, to, u, a.x, a.y, b.x, b.y, true, (k : Int)⟩ : S105_2), true)) _ _ sky (fun k hk => by rw [atN_nat hk]) sky.length 0 (by omega), List.drop_zero, ← find_any (fun x => badR x a b fr to u) sky]
    cases List.findIdx? (fun x => badR x a b fr to u) sky with
    | none => rfl
    | some k => rfl
theorem fn105 : FnOk 105 Tryd.f105 := ⟨by kernel_rfl, by kernel_rfl, by kernel_rfl, by kernel_rfl⟩
theorem e105 (gl : Gl) (u : Unit') (sky : List Front) (a : Spot) (b : Spot) (fr : Int) (to : Int) : evFn (cx gl (mkG [(127, F127)]) [] []) K105 L105 Tryd.f105 [.agg [.s u.name, .i .i64 u.speed, .i .i64 u.fuel, .i .i64 u.burn, .i .i64 u.reserve, .i .i64 u.hours, .i .i64 u.sea, .i .i64 u.wind, .i .i64 u.base.x, .i .i64 u.base.y, .i .i64 u.margin, .i .i64 u.level], .sl .front sky, .agg [.i .i64 a.x, .i .i64 a.y], .agg [.i .i64 b.x, .i .i64 b.y], .i .i64 fr, .i .i64 to] noObjs = (iter st105_2 (fuel105_2 (⟨sky, fr, to, u, a.x, a.y, b.x, b.y, false, 0⟩ : S105_2)) (⟨sky, fr, to, u, a.x, a.y, b.x, b.y, false, 0⟩ : S105_2) fun o2 => (match o2.2 with | true => an (.b o2.1.t12) | false => an (.b false))) := by kernel_rfl
def F105 : List PV → Option (Bool × PV)
  | [.agg uL, .sl .front sky, .agg [.i .i64 a0, .i .i64 a1], .agg [.i .i64 b0, .i .i64 b1], .i .i64 fr, .i .i64 to] => (ETy.dec .unit uL).bind fun u => some ((decide (sky.length ≤ 1000000)), .b (skyBad sky (⟨a0, a1⟩ : Spot) (⟨b0, b1⟩ : Spot) fr to u))
  | _ => none
theorem s105 {gl : Gl} : Sum gl 105 F105 := by
  intro ps r h
  unfold F105 at h
  split at h
  · rename_i uL sky a0 a1 b0 b1 fr to
    obtain ⟨u, hu, h_u⟩ := Option.bind_eq_some_iff.1 h
    obtain rfl := dec_is (by simp) hu
    obtain ⟨hc, rfl⟩ := Prod.mk.inj (Option.some.inj h_u)
    refine call_by (K := K105) (L := L105) (bxs := []) (ows := []) (GOk.cons s127 (GOk.nil)) fn105 (l105 gl) (by kernel_rfl) (evF_some ((e105 gl u sky ⟨a0, a1⟩ ⟨b0, b1⟩ fr to).trans ?_))
    refine (loop105 u sky _ _ fr to (of_decide_eq_true hc)).trans ?_
    unfold skyBad
    cases List.any sky _ <;> rfl
  · simp at h
theorem le_max (a b c : Int) : decide (imax a b ≤ c) = (decide (a ≤ c) && decide (b ≤ c)) := by
  unfold imax
  rw [← Bool.decide_and]
  congr 1
  split <;> apply propext <;> omega
theorem max_le_min (a b c d : Int) (h : a ≤ b) (h' : c ≤ d) : decide (imax a c ≤ imin b d) = overlap a b c d := by
  unfold overlap imax imin
  by_cases h1 : a ≤ d <;> by_cases h2 : c ≤ b <;> simp only [h1, h2, decide_true, decide_false, cond_true, cond_false] <;> split <;> split <;> first | exact decide_eq_true (by omega) | exact decide_eq_false (by omega)
theorem imin_le_imax (a b : Int) : imin a b ≤ imax a b := by
  unfold imin imax
  split <;> split <;> omega
theorem frontOk_le {x : Front} (h : frontOk x = true) : x.fr ≤ x.to_ ∧ x.low.x ≤ x.high.x ∧ x.low.y ≤ x.high.y := by
  unfold frontOk at h
  simp only [bif_f, Bool.and_eq_true, decide_eq_true_eq] at h
  simp_all
theorem fine_bad {x : Front} {a b : Spot} {fr to : Int} {t : Trip} (h : frontOk x = true) (hft : fr ≤ to) : frontFine x fr to a b t = !(badR x a b fr to t.u) := by
  obtain ⟨h1, h2, h3⟩ := frontOk_le h
  unfold frontFine badR concernsR
  rw [max_le_min _ _ _ _ h1 hft, max_le_min _ _ _ _ h2 (imin_le_imax _ _), max_le_min _ _ _ _ h3 (imin_le_imax _ _)]
  generalize overlap x.fr x.to_ fr to = p
  generalize overlap x.low.x x.high.x _ _ = q
  generalize overlap x.low.y x.high.y _ _ = r
  have e1 : decide (x.sea > t.u.sea) = !(decide (x.sea ≤ t.u.sea)) := (not_le _ _).symm
  have e2 : decide (x.wind > t.u.wind) = !(decide (x.wind ≤ t.u.wind)) := (not_le _ _).symm
  rw [e1, e2]
  generalize decide (x.sea ≤ t.u.sea) = d
  generalize decide (x.wind ≤ t.u.wind) = e
  cases p <;> cases q <;> cases r <;> cases d <;> cases e <;> rfl
theorem all_not_any' {α : Type} (p q : α → Bool) : ∀ {l : List α}, (∀ x ∈ l, p x = !(q x)) → l.all p = !(l.any q)
  | [], _ => rfl
  | x :: l, h => by
    rw [List.all_cons, List.any_cons, h x (List.mem_cons_self ..), all_not_any' p q (l := l) fun y hy => h y (List.mem_cons_of_mem _ hy), Bool.not_or]
theorem skyOk_all {sky : List Front} (h : skyOk sky = true) : (∀ x ∈ sky, frontOk x = true) ∧ sky.length ≤ 100 := by
  unfold skyOk at h
  rw [Bool.and_eq_true, List.all_eq_true] at h
  exact ⟨h.2, by have := of_decide_eq_true h.1; omega⟩
/-- The code's view of the weather is the document's. -/
theorem bad_eq {t : Trip} {a b : Spot} {fr to : Int} (hs : skyOk t.sky = true) (hft : fr ≤ to) : v126 t a b fr to = skyBad t.sky a b fr to t.u := by
  unfold v126 skyBad
  rw [all_not_any' _ (fun x => badR x a b fr to t.u) fun x hx => fine_bad ((skyOk_all hs).1 x hx) hft, Bool.not_not]
end Go.Proofs.YtnbcmgdogohenaaDoor.Ev
/- Summaries of functions, printed by a program out of a list, and what is made of them. -/
namespace Go.Proofs.YtnbcmgdogohenaaDoor.Ev
open Go Go.RowKit Go.Proofs
theorem fn125 : FnOk 125 Tryd.f125 := ⟨by kernel_rfl, by kernel_rfl, by kernel_rfl, by kernel_rfl⟩
def homeV (l : Leg) (back : Int) : Int := wr (l.leave + back)
theorem e125 (gl : Gl) (t : Trip) (l : Leg) (back : Int) : evFn (cx gl (mkG []) [] []) noK noL Tryd.f125 [.agg [.ptr [.s t.u.name, .i .i64 t.u.speed, .i .i64 t.u.fuel, .i .i64 t.u.burn, .i .i64 t.u.reserve, .i .i64 t.u.hours, .i .i64 t.u.sea, .i .i64 t.u.wind, .i .i64 t.u.base.x, .i .i64 t.u.base.y, .i .i64 t.u.margin, .i .i64 t.u.level, .sl .front t.sky, .i .i64 t.pos.x, .i .i64 t.pos.y, .i .i64 t.since, .i .i64 t.time, .i .i64 t.fuel] 0, .i .i64 l.fr.x, .i .i64 l.fr.y, .i .i64 l.to_.x, .i .i64 l.to_.y, .i .i64 l.start, .i .i64 l.arrive, .i .i64 l.leave, .i .i64 l.fuel, .i .i64 back]] noObjs = an (.i .i64 (wr (l.leave + back))) := by kernel_rfl
def F125 : List PV → Option (Bool × PV)
  | [.agg [.ptr tL 0, .i .i64 l0, .i .i64 l1, .i .i64 l2, .i .i64 l3, .i .i64 l4, .i .i64 l5, .i .i64 l6, .i .i64 l7, .i .i64 back]] => (Trip.dec tL).bind fun t => some (true, .i .i64 (homeV (⟨⟨l0, l1⟩, ⟨l2, l3⟩, l4, l5, l6, l7⟩ : Leg) back))
  | _ => none
theorem s125 {gl : Gl} : Sum gl 125 F125 := by
  intro ps r h
  unfold F125 at h
  split at h
  · rename_i tL l0 l1 l2 l3 l4 l5 l6 l7 back
    obtain ⟨t, ht, h_t⟩ := Option.bind_eq_some_iff.1 h
    obtain rfl := Trip.dec_is ht
    obtain ⟨hc, rfl⟩ := Prod.mk.inj (Option.some.inj h_t)
    refine call_by (K := noK) (L := noL) (bxs := []) (ows := []) (GOk.nil) fn125 (noLoops (by kernel_rfl)) (by kernel_rfl) (evF_some ((e125 gl t ⟨⟨l0, l1⟩, ⟨l2, l3⟩, l4, l5, l6, l7⟩ back).trans ?_))
    try unfold homeV
    rfl
  · simp at h
theorem fn101 : FnOk 101 Tryd.f101 := ⟨by kernel_rfl, by kernel_rfl, by kernel_rfl, by kernel_rfl⟩
def lateV (l : Leg) (back : Int) : Bool := decide ((homeV l back) > 1073741824)
theorem e101 (gl : Gl) (t : Trip) (l : Leg) (back : Int) : evFn (cx gl (mkG [(125, F125)]) [] []) noK noL Tryd.f101 [.agg [.ptr [.s t.u.name, .i .i64 t.u.speed, .i .i64 t.u.fuel, .i .i64 t.u.burn, .i .i64 t.u.reserve, .i .i64 t.u.hours, .i .i64 t.u.sea, .i .i64 t.u.wind, .i .i64 t.u.base.x, .i .i64 t.u.base.y, .i .i64 t.u.margin, .i .i64 t.u.level, .sl .front t.sky, .i .i64 t.pos.x, .i .i64 t.pos.y, .i .i64 t.since, .i .i64 t.time, .i .i64 t.fuel] 0, .i .i64 l.fr.x, .i .i64 l.fr.y, .i .i64 l.to_.x, .i .i64 l.to_.y, .i .i64 l.start, .i .i64 l.arrive, .i .i64 l.leave, .i .i64 l.fuel, .i .i64 back]] noObjs = an (.b (decide ((homeV l back) > 1073741824))) := by kernel_rfl
def F101 : List PV → Option (Bool × PV)
  | [.agg [.ptr tL 0, .i .i64 l0, .i .i64 l1, .i .i64 l2, .i .i64 l3, .i .i64 l4, .i .i64 l5, .i .i64 l6, .i .i64 l7, .i .i64 back]] => (Trip.dec tL).bind fun t => some (true, .b (lateV (⟨⟨l0, l1⟩, ⟨l2, l3⟩, l4, l5, l6, l7⟩ : Leg) back))
  | _ => none
theorem s101 {gl : Gl} : Sum gl 101 F101 := by
  intro ps r h
  unfold F101 at h
  split at h
  · rename_i tL l0 l1 l2 l3 l4 l5 l6 l7 back
    obtain ⟨t, ht, h_t⟩ := Option.bind_eq_some_iff.1 h
    obtain rfl := Trip.dec_is ht
    obtain ⟨hc, rfl⟩ := Prod.mk.inj (Option.some.inj h_t)
    refine call_by (K := noK) (L := noL) (bxs := []) (ows := []) (GOk.cons s125 (GOk.nil)) fn101 (noLoops (by kernel_rfl)) (by kernel_rfl) (evF_some ((e101 gl t ⟨⟨l0, l1⟩, ⟨l2, l3⟩, l4, l5, l6, l7⟩ back).trans ?_))
    try unfold lateV
    rfl
  · simp at h
theorem fn102 : FnOk 102 Tryd.f102 := ⟨by kernel_rfl, by kernel_rfl, by kernel_rfl, by kernel_rfl⟩
def dryV (t : Trip) (l : Leg) (back : Int) : Bool := decide ((wr (l.fuel - (burnS t.u back))) < t.u.reserve)
theorem e102 (gl : Gl) (t : Trip) (l : Leg) (back : Int) : evFn (cx gl (mkG [(95, F95)]) [] []) noK noL Tryd.f102 [.agg [.ptr [.s t.u.name, .i .i64 t.u.speed, .i .i64 t.u.fuel, .i .i64 t.u.burn, .i .i64 t.u.reserve, .i .i64 t.u.hours, .i .i64 t.u.sea, .i .i64 t.u.wind, .i .i64 t.u.base.x, .i .i64 t.u.base.y, .i .i64 t.u.margin, .i .i64 t.u.level, .sl .front t.sky, .i .i64 t.pos.x, .i .i64 t.pos.y, .i .i64 t.since, .i .i64 t.time, .i .i64 t.fuel] 0, .i .i64 l.fr.x, .i .i64 l.fr.y, .i .i64 l.to_.x, .i .i64 l.to_.y, .i .i64 l.start, .i .i64 l.arrive, .i .i64 l.leave, .i .i64 l.fuel, .i .i64 back]] noObjs = (match c95 with | true => an (.b (decide ((wr (l.fuel - (burnS t.u back))) < t.u.reserve))) | false => none) := by kernel_rfl
def F102 : List PV → Option (Bool × PV)
  | [.agg [.ptr tL 0, .i .i64 l0, .i .i64 l1, .i .i64 l2, .i .i64 l3, .i .i64 l4, .i .i64 l5, .i .i64 l6, .i .i64 l7, .i .i64 back]] => (Trip.dec tL).bind fun t => some (c95, .b (dryV t (⟨⟨l0, l1⟩, ⟨l2, l3⟩, l4, l5, l6, l7⟩ : Leg) back))
  | _ => none
theorem s102 {gl : Gl} : Sum gl 102 F102 := by
  intro ps r h
  unfold F102 at h
  split at h
  · rename_i tL l0 l1 l2 l3 l4 l5 l6 l7 back
    obtain ⟨t, ht, h_t⟩ := Option.bind_eq_some_iff.1 h
    obtain rfl := Trip.dec_is ht
    obtain ⟨hc, rfl⟩ := Prod.mk.inj (Option.some.inj h_t)
    refine call_by (K := noK) (L := noL) (bxs := []) (ows := []) (GOk.cons s95 (GOk.nil)) fn102 (noLoops (by kernel_rfl)) (by kernel_rfl) (evF_some ((e102 gl t ⟨⟨l0, l1⟩, ⟨l2, l3⟩, l4, l5, l6, l7⟩ back).trans ?_))
    try unfold dryV at hc
    try unfold dryV
    revert hc
    generalize (c95) = b_
    cases b_
    · intro hc
      exact Bool.noConfusion (show false = true from hc)
    · intro hc
      rfl
  · simp at h
theorem fn103 : FnOk 103 Tryd.f103 := ⟨by kernel_rfl, by kernel_rfl, by kernel_rfl, by kernel_rfl⟩
def tiredV (t : Trip) (l : Leg) (back : Int) : Bool := decide ((wr ((homeV l back) - t.since)) > t.u.hours)
theorem e103 (gl : Gl) (t : Trip) (l : Leg) (back : Int) : evFn (cx gl (mkG [(125, F125)]) [] []) noK noL Tryd.f103 [.agg [.ptr [.s t.u.name, .i .i64 t.u.speed, .i .i64 t.u.fuel, .i .i64 t.u.burn, .i .i64 t.u.reserve, .i .i64 t.u.hours, .i .i64 t.u.sea, .i .i64 t.u.wind, .i .i64 t.u.base.x, .i .i64 t.u.base.y, .i .i64 t.u.margin, .i .i64 t.u.level, .sl .front t.sky, .i .i64 t.pos.x, .i .i64 t.pos.y, .i .i64 t.since, .i .i64 t.time, .i .i64 t.fuel] 0, .i .i64 l.fr.x, .i .i64 l.fr.y, .i .i64 l.to_.x, .i .i64 l.to_.y, .i .i64 l.start, .i .i64 l.arrive, .i .i64 l.leave, .i .i64 l.fuel, .i .i64 back]] noObjs = an (.b (decide ((wr ((homeV l back) - t.since)) > t.u.hours))) := by kernel_rfl
def F103 : List PV → Option (Bool × PV)
  | [.agg [.ptr tL 0, .i .i64 l0, .i .i64 l1, .i .i64 l2, .i .i64 l3, .i .i64 l4, .i .i64 l5, .i .i64 l6, .i .i64 l7, .i .i64 back]] => (Trip.dec tL).bind fun t => some (true, .b (tiredV t (⟨⟨l0, l1⟩, ⟨l2, l3⟩, l4, l5, l6, l7⟩ : Leg) back))
  | _ => none
theorem s103 {gl : Gl} : Sum gl 103 F103 := by
  intro ps r h
  unfold F103 at h
  split at h
  · rename_i tL l0 l1 l2 l3 l4 l5 l6 l7 back
    obtain ⟨t, ht, h_t⟩ := Option.bind_eq_some_iff.1 h
    obtain rfl := Trip.dec_is ht
    obtain ⟨hc, rfl⟩ := Prod.mk.inj (Option.some.inj h_t)
    refine call_by (K := noK) (L := noL) (bxs := []) (ows := []) (GOk.cons s125 (GOk.nil)) fn103 (noLoops (by kernel_rfl)) (by kernel_rfl) (evF_some ((e103 gl t ⟨⟨l0, l1⟩, ⟨l2, l3⟩, l4, l5, l6, l7⟩ back).trans ?_))
    try unfold tiredV
    rfl
  · simp at h
theorem fn104 : FnOk 104 Tryd.f104 := ⟨by kernel_rfl, by kernel_rfl, by kernel_rfl, by kernel_rfl⟩
def roughV (t : Trip) (l : Leg) (back : Int) : Bool := bif (v126 t l.fr l.to_ l.start l.leave) then true else (v126 t l.to_ t.u.base l.leave (homeV l back))
theorem e104 (gl : Gl) (t : Trip) (l : Leg) (back : Int) : evFn (cx gl (mkG [(126, F126), (125, F125)]) [] []) noK noL Tryd.f104 [.agg [.ptr [.s t.u.name, .i .i64 t.u.speed, .i .i64 t.u.fuel, .i .i64 t.u.burn, .i .i64 t.u.reserve, .i .i64 t.u.hours, .i .i64 t.u.sea, .i .i64 t.u.wind, .i .i64 t.u.base.x, .i .i64 t.u.base.y, .i .i64 t.u.margin, .i .i64 t.u.level, .sl .front t.sky, .i .i64 t.pos.x, .i .i64 t.pos.y, .i .i64 t.since, .i .i64 t.time, .i .i64 t.fuel] 0, .i .i64 l.fr.x, .i .i64 l.fr.y, .i .i64 l.to_.x, .i .i64 l.to_.y, .i .i64 l.start, .i .i64 l.arrive, .i .i64 l.leave, .i .i64 l.fuel, .i .i64 back]] noObjs = (match (c126 t) with | true => (match ((c126 t) || ((v126 t l.fr l.to_ l.start l.leave) || false)) with | true => an (.b (bif (v126 t l.fr l.to_ l.start l.leave) then true else (v126 t l.to_ t.u.base l.leave (homeV l back)))) | false => none) | false => none) := by kernel_rfl
def F104 : List PV → Option (Bool × PV)
  | [.agg [.ptr tL 0, .i .i64 l0, .i .i64 l1, .i .i64 l2, .i .i64 l3, .i .i64 l4, .i .i64 l5, .i .i64 l6, .i .i64 l7, .i .i64 back]] => (Trip.dec tL).bind fun t => some ((c126 t), .b (roughV t (⟨⟨l0, l1⟩, ⟨l2, l3⟩, l4, l5, l6, l7⟩ : Leg) back))
  | _ => none
theorem s104 {gl : Gl} : Sum gl 104 F104 := by
  intro ps r h
  unfold F104 at h
  split at h
  · rename_i tL l0 l1 l2 l3 l4 l5 l6 l7 back
    obtain ⟨t, ht, h_t⟩ := Option.bind_eq_some_iff.1 h
    obtain rfl := Trip.dec_is ht
    obtain ⟨hc, rfl⟩ := Prod.mk.inj (Option.some.inj h_t)
    refine call_by (K := noK) (L := noL) (bxs := []) (ows := []) (GOk.cons s126 (GOk.cons s125 (GOk.nil))) fn104 (noLoops (by kernel_rfl)) (by kernel_rfl) (evF_some ((e104 gl t ⟨⟨l0, l1⟩, ⟨l2, l3⟩, l4, l5, l6, l7⟩ back).trans ?_))
    unfold roughV
    rw [hc]
    rfl
  · simp at h
/-- The package-level variable: the reasons. -/
def glU : Gl := fun n => match n with
  | 0 => .ptr [.i .i64 4, .i .i64 1, .i .i64 2, .i .i64 3] 0
  | _ => .junk
/-- The leg that is tried, in the code and in the document. -/
def tryL (t : Trip) (w : Way) : Leg := ⟨t.pos, w.to_, t.time, wr (t.time + takeS t.u t.pos w.to_), wr (wr (t.time + takeS t.u t.pos w.to_) + w.stay), wr (t.fuel - burnS t.u (wr (wr (wr (t.time + takeS t.u t.pos w.to_) + w.stay) - t.time)))⟩
def tryW (t : Trip) (w : Way) : Int := bif lateV (tryL t w) (takeS t.u w.to_ t.u.base) then 4 else bif dryV t (tryL t w) (takeS t.u w.to_ t.u.base) then 1 else bif tiredV t (tryL t w) (takeS t.u w.to_ t.u.base) then 2 else bif roughV t (tryL t w) (takeS t.u w.to_ t.u.base) then 3 else 0
def legR (u : Unit') (pos : Spot) (time fuel : Int) (w : Way) : Leg := ⟨pos, w.to_, time, wr (time + takeR u pos w.to_), wr (wr (time + takeR u pos w.to_) + w.stay), wr (fuel - burnR u (wr (wr (wr (time + takeR u pos w.to_) + w.stay) - time)))⟩
def lateR (l : Leg) (back : Int) : Bool := decide (wr (l.leave + back) > 1073741824)
def dryR (u : Unit') (l : Leg) (back : Int) : Bool := decide (wr (l.fuel - burnR u back) < u.reserve)
def tiredR (u : Unit') (since : Int) (l : Leg) (back : Int) : Bool := decide (wr (wr (l.leave + back) - since) > u.hours)
def roughR (u : Unit') (sky : List Front) (l : Leg) (back : Int) : Bool := bif skyBad sky l.fr l.to_ l.start l.leave u then true else skyBad sky l.to_ u.base l.leave (wr (l.leave + back)) u
def whyR (u : Unit') (since : Int) (sky : List Front) (l : Leg) (back : Int) : Int := bif lateR l back then 4 else bif dryR u l back then 1 else bif tiredR u since l back then 2 else bif roughR u sky l back then 3 else 0
def K77 : Keep := fun _ => ([4, 5, 6, 82, 83], [12, 14])
noncomputable def b77_6 : Code := (loopsOf (bodyOf Tryd.f77)).getD 0 .skip
noncomputable def L77 : Lam := unrollL (cx glU (mkG [(84, F84), (95, F95), (101, F101), (102, F102), (103, F103), (104, F104)]) [] []) K77 Tryd.f77.ntmps (Tryd.f77.ntmps + 16) 5
theorem l77 : LoopsOk (cx glU (mkG [(84, F84), (95, F95), (101, F101), (102, F102), (103, F103), (104, F104)]) [] []) K77 (L77) Tryd.f77.ntmps (Tryd.f77.ntmps + 16) (loopsOf (bodyOf Tryd.f77)) := by
  refine loopsOk_list (l := [b77_6]) (by kernel_rfl) ?_
  exact List.forall_mem_cons.2 ⟨loopOk_unroll (by kernel_rfl) (by kernel_rfl), fun _ h => by simp at h⟩
theorem fn77 : FnOk 77 Tryd.f77 := ⟨by kernel_rfl, by kernel_rfl, by kernel_rfl, by kernel_rfl⟩
theorem e77 (t : Trip) (w : Way) : evFn (cx glU (mkG [(84, F84), (95, F95), (101, F101), (102, F102), (103, F103), (104, F104)]) [] []) K77 (L77) Tryd.f77 [.ptr [.s t.u.name, .i .i64 t.u.speed, .i .i64 t.u.fuel, .i .i64 t.u.burn, .i .i64 t.u.reserve, .i .i64 t.u.hours, .i .i64 t.u.sea, .i .i64 t.u.wind, .i .i64 t.u.base.x, .i .i64 t.u.base.y, .i .i64 t.u.margin, .i .i64 t.u.level, .sl .front t.sky, .i .i64 t.pos.x, .i .i64 t.pos.y, .i .i64 t.since, .i .i64 t.time, .i .i64 t.fuel] 0, .agg [.i .i64 w.to_.x, .i .i64 w.to_.y, .i .i64 w.stay]] noObjs = (match (c84 t.u) with | true => (match c95 with | true => (match (c84 t.u) with | true => (match (lateV (⟨t.pos, w.to_, t.time, (wr (t.time + (takeS t.u t.pos w.to_))), (wr ((wr (t.time + (takeS t.u t.pos w.to_))) + w.stay)), (wr (t.fuel - (burnS t.u (wr ((wr ((wr (t.time + (takeS t.u t.pos w.to_))) + w.stay)) - t.time)))))⟩ : Leg) (takeS t.u w.to_ t.u.base)) with | true => an (.tup [.agg [.i .i64 t.pos.x, .i .i64 t.pos.y, .i .i64 w.to_.x, .i .i64 w.to_.y, .i .i64 t.time, .i .i64 (wr (t.time + (takeS t.u t.pos w.to_))), .i .i64 (wr ((wr (t.time + (takeS t.u t.pos w.to_))) + w.stay)), .i .i64 (wr (t.fuel - (burnS t.u (wr ((wr ((wr (t.time + (takeS t.u t.pos w.to_))) + w.stay)) - t.time)))))], .i .i64 4]) | false => (match c95 with | true => (match (dryV t (⟨t.pos, w.to_, t.time, (wr (t.time + (takeS t.u t.pos w.to_))), (wr ((wr (t.time + (takeS t.u t.pos w.to_))) + w.stay)), (wr (t.fuel - (burnS t.u (wr ((wr ((wr (t.time + (takeS t.u t.pos w.to_))) + w.stay)) - t.time)))))⟩ : Leg) (takeS t.u w.to_ t.u.base)) with | true => an (.tup [.agg [.i .i64 t.pos.x, .i .i64 t.pos.y, .i .i64 w.to_.x, .i .i64 w.to_.y, .i .i64 t.time, .i .i64 (wr (t.time + (takeS t.u t.pos w.to_))), .i .i64 (wr ((wr (t.time + (takeS t.u t.pos w.to_))) + w.stay)), .i .i64 (wr (t.fuel - (burnS t.u (wr ((wr ((wr (t.time + (takeS t.u t.pos w.to_))) + w.stay)) - t.time)))))], .i .i64 1]) | false => (match (tiredV t (⟨t.pos, w.to_, t.time, (wr (t.time + (takeS t.u t.pos w.to_))), (wr ((wr (t.time + (takeS t.u t.pos w.to_))) + w.stay)), (wr (t.fuel - (burnS t.u (wr ((wr ((wr (t.time + (takeS t.u t.pos w.to_))) + w.stay)) - t.time)))))⟩ : Leg) (takeS t.u w.to_ t.u.base)) with | true => an (.tup [.agg [.i .i64 t.pos.x, .i .i64 t.pos.y, .i .i64 w.to_.x, .i .i64 w.to_.y, .i .i64 t.time, .i .i64 (wr (t.time + (takeS t.u t.pos w.to_))), .i .i64 (wr ((wr (t.time + (takeS t.u t.pos w.to_))) + w.stay)), .i .i64 (wr (t.fuel - (burnS t.u (wr ((wr ((wr (t.time + (takeS t.u t.pos w.to_))) + w.stay)) - t.time)))))], .i .i64 2]) | false => (match (c126 t) with | true => (match (roughV t (⟨t.pos, w.to_, t.time, (wr (t.time + (takeS t.u t.pos w.to_))), (wr ((wr (t.time + (takeS t.u t.pos w.to_))) + w.stay)), (wr (t.fuel - (burnS t.u (wr ((wr ((wr (t.time + (takeS t.u t.pos w.to_))) + w.stay)) - t.time)))))⟩ : Leg) (takeS t.u w.to_ t.u.base)) with | true => an (.tup [.agg [.i .i64 t.pos.x, .i .i64 t.pos.y, .i .i64 w.to_.x, .i .i64 w.to_.y, .i .i64 t.time, .i .i64 (wr (t.time + (takeS t.u t.pos w.to_))), .i .i64 (wr ((wr (t.time + (takeS t.u t.pos w.to_))) + w.stay)), .i .i64 (wr (t.fuel - (burnS t.u (wr ((wr ((wr (t.time + (takeS t.u t.pos w.to_))) + w.stay)) - t.time)))))], .i .i64 3]) | false => an (.tup [.agg [.i .i64 t.pos.x, .i .i64 t.pos.y, .i .i64 w.to_.x, .i .i64 w.to_.y, .i .i64 t.time, .i .i64 (wr (t.time + (takeS t.u t.pos w.to_))), .i .i64 (wr ((wr (t.time + (takeS t.u t.pos w.to_))) + w.stay)), .i .i64 (wr (t.fuel - (burnS t.u (wr ((wr ((wr (t.time + (takeS t.u t.pos w.to_))) + w.stay)) - t.time)))))], .i .i64 0])) | false => none))) | false => none)) | false => none) | false => none) | false => none) := by kernel_rfl
def F77 : List PV → Option (Bool × PV)
  | [.ptr tL 0, .agg [.i .i64 w0, .i .i64 w1, .i .i64 w2]] => (Trip.dec tL).bind fun t => some ((c84 t.u && c126 t), .tup [.agg [.i .i64 ((tryL t (⟨⟨w0, w1⟩, w2⟩ : Way)).fr.x), .i .i64 ((tryL t (⟨⟨w0, w1⟩, w2⟩ : Way)).fr.y), .i .i64 ((tryL t (⟨⟨w0, w1⟩, w2⟩ : Way)).to_.x), .i .i64 ((tryL t (⟨⟨w0, w1⟩, w2⟩ : Way)).to_.y), .i .i64 ((tryL t (⟨⟨w0, w1⟩, w2⟩ : Way)).start), .i .i64 ((tryL t (⟨⟨w0, w1⟩, w2⟩ : Way)).arrive), .i .i64 ((tryL t (⟨⟨w0, w1⟩, w2⟩ : Way)).leave), .i .i64 ((tryL t (⟨⟨w0, w1⟩, w2⟩ : Way)).fuel)], .i .i64 (tryW t (⟨⟨w0, w1⟩, w2⟩ : Way))])
  | _ => none
theorem s77 : Sum glU 77 F77 := by
  intro ps r h
  unfold F77 at h
  split at h
  · rename_i tL w0 w1 w2
    obtain ⟨t, ht, h_t⟩ := Option.bind_eq_some_iff.1 h
    obtain rfl := Trip.dec_is ht
    obtain ⟨hc, rfl⟩ := Prod.mk.inj (Option.some.inj h_t)
    refine call_by (K := K77) (L := (L77)) (bxs := []) (ows := []) (GOk.cons s84 (GOk.cons s95 (GOk.cons s101 (GOk.cons s102 (GOk.cons s103 (GOk.cons s104 (GOk.nil))))))) fn77 (l77 ) (by kernel_rfl) (evF_some ((e77 t ⟨⟨w0, w1⟩, w2⟩).trans ?_))
    rw [Bool.and_eq_true] at hc
    have h1 : c84 t.u = true := hc.1
    rw [h1]
    unfold tryW
    show (match lateV (tryL t _) (takeS t.u _ t.u.base) with | true => _ | false => _) = _
    cases lateV (tryL t _) (takeS t.u _ t.u.base) with
    | true => rfl
    | false =>
      show (match dryV t (tryL t _) (takeS t.u _ t.u.base) with | true => _ | false => _) = _
      cases dryV t (tryL t _) (takeS t.u _ t.u.base) with
      | true => rfl
      | false =>
        show (match tiredV t (tryL t _) (takeS t.u _ t.u.base) with | true => _ | false => _) = _
        cases tiredV t (tryL t _) (takeS t.u _ t.u.base) with
        | true => rfl
        | false =>
          show (match c126 t with | true => (match roughV t (tryL t _) (takeS t.u _ t.u.base) with | true => _ | false => _) | false => none) = _
          rw [hc.2]
          show (match roughV t (tryL t _) (takeS t.u _ t.u.base) with | true => _ | false => _) = _
          cases roughV t (tryL t _) (takeS t.u _ t.u.base) <;> rfl
  · simp at h
theorem fn78 : FnOk 78 Tryd.f78 := ⟨by kernel_rfl, by kernel_rfl, by kernel_rfl, by kernel_rfl⟩
theorem e78 (gl : Gl) (u : Unit') (pos : Spot) (since : Int) (time : Int) (fuel : Int) (w : Way) (sky : List Front) : evFn (cx gl (mkG [(96, F96), (97, F97), (105, F105)]) [] []) noK noL Tryd.f78 [.agg [.s u.name, .i .i64 u.speed, .i .i64 u.fuel, .i .i64 u.burn, .i .i64 u.reserve, .i .i64 u.hours, .i .i64 u.sea, .i .i64 u.wind, .i .i64 u.base.x, .i .i64 u.base.y, .i .i64 u.margin, .i .i64 u.level], .agg [.i .i64 pos.x, .i .i64 pos.y, .i .i64 since, .i .i64 time, .i .i64 fuel], .agg [.i .i64 w.to_.x, .i .i64 w.to_.y, .i .i64 w.stay], .sl .front sky] noObjs = (match (c96 u) with | true => (match c97 with | true => (match (c96 u) with | true => (match (decide ((wr ((wr ((wr (time + (takeR u pos w.to_))) + w.stay)) + (takeR u w.to_ u.base))) > 1073741824)) with | true => an (.tup [.agg [.i .i64 pos.x, .i .i64 pos.y, .i .i64 w.to_.x, .i .i64 w.to_.y, .i .i64 time, .i .i64 (wr (time + (takeR u pos w.to_))), .i .i64 (wr ((wr (time + (takeR u pos w.to_))) + w.stay)), .i .i64 (wr (fuel - (burnR u (wr ((wr ((wr (time + (takeR u pos w.to_))) + w.stay)) - time)))))], .i .i64 4]) | false => (match c97 with | true => (match (decide ((wr ((wr (fuel - (burnR u (wr ((wr ((wr (time + (takeR u pos w.to_))) + w.stay)) - time))))) - (burnR u (takeR u w.to_ u.base)))) < u.reserve)) with | true => an (.tup [.agg [.i .i64 pos.x, .i .i64 pos.y, .i .i64 w.to_.x, .i .i64 w.to_.y, .i .i64 time, .i .i64 (wr (time + (takeR u pos w.to_))), .i .i64 (wr ((wr (time + (takeR u pos w.to_))) + w.stay)), .i .i64 (wr (fuel - (burnR u (wr ((wr ((wr (time + (takeR u pos w.to_))) + w.stay)) - time)))))], .i .i64 1]) | false => (match (decide ((wr ((wr ((wr ((wr (time + (takeR u pos w.to_))) + w.stay)) + (takeR u w.to_ u.base))) - since)) > u.hours)) with | true => an (.tup [.agg [.i .i64 pos.x, .i .i64 pos.y, .i .i64 w.to_.x, .i .i64 w.to_.y, .i .i64 time, .i .i64 (wr (time + (takeR u pos w.to_))), .i .i64 (wr ((wr (time + (takeR u pos w.to_))) + w.stay)), .i .i64 (wr (fuel - (burnR u (wr ((wr ((wr (time + (takeR u pos w.to_))) + w.stay)) - time)))))], .i .i64 2]) | false => (match (decide (sky.length ≤ 1000000)) with | true => (match ((decide (sky.length ≤ 1000000)) || ((skyBad sky pos w.to_ time (wr ((wr (time + (takeR u pos w.to_))) + w.stay)) u) || false)) with | true => (match (bif (skyBad sky pos w.to_ time (wr ((wr (time + (takeR u pos w.to_))) + w.stay)) u) then true else (skyBad sky w.to_ u.base (wr ((wr (time + (takeR u pos w.to_))) + w.stay)) (wr ((wr ((wr (time + (takeR u pos w.to_))) + w.stay)) + (takeR u w.to_ u.base))) u)) with | true => an (.tup [.agg [.i .i64 pos.x, .i .i64 pos.y, .i .i64 w.to_.x, .i .i64 w.to_.y, .i .i64 time, .i .i64 (wr (time + (takeR u pos w.to_))), .i .i64 (wr ((wr (time + (takeR u pos w.to_))) + w.stay)), .i .i64 (wr (fuel - (burnR u (wr ((wr ((wr (time + (takeR u pos w.to_))) + w.stay)) - time)))))], .i .i64 3]) | false => an (.tup [.agg [.i .i64 pos.x, .i .i64 pos.y, .i .i64 w.to_.x, .i .i64 w.to_.y, .i .i64 time, .i .i64 (wr (time + (takeR u pos w.to_))), .i .i64 (wr ((wr (time + (takeR u pos w.to_))) + w.stay)), .i .i64 (wr (fuel - (burnR u (wr ((wr ((wr (time + (takeR u pos w.to_))) + w.stay)) - time)))))], .i .i64 0])) | false => none) | false => none))) | false => none)) | false => none) | false => none) | false => none) := by kernel_rfl
def F78 : List PV → Option (Bool × PV)
  | [.agg uL, .agg [.i .i64 pos0, .i .i64 pos1, .i .i64 since, .i .i64 time, .i .i64 fuel], .agg [.i .i64 w0, .i .i64 w1, .i .i64 w2], .sl .front sky] => (ETy.dec .unit uL).bind fun u => some ((c96 u && decide (sky.length ≤ 1000000)), .tup [.agg [.i .i64 ((legR u (⟨pos0, pos1⟩ : Spot) time fuel (⟨⟨w0, w1⟩, w2⟩ : Way)).fr.x), .i .i64 ((legR u (⟨pos0, pos1⟩ : Spot) time fuel (⟨⟨w0, w1⟩, w2⟩ : Way)).fr.y), .i .i64 ((legR u (⟨pos0, pos1⟩ : Spot) time fuel (⟨⟨w0, w1⟩, w2⟩ : Way)).to_.x), .i .i64 ((legR u (⟨pos0, pos1⟩ : Spot) time fuel (⟨⟨w0, w1⟩, w2⟩ : Way)).to_.y), .i .i64 ((legR u (⟨pos0, pos1⟩ : Spot) time fuel (⟨⟨w0, w1⟩, w2⟩ : Way)).start), .i .i64 ((legR u (⟨pos0, pos1⟩ : Spot) time fuel (⟨⟨w0, w1⟩, w2⟩ : Way)).arrive), .i .i64 ((legR u (⟨pos0, pos1⟩ : Spot) time fuel (⟨⟨w0, w1⟩, w2⟩ : Way)).leave), .i .i64 ((legR u (⟨pos0, pos1⟩ : Spot) time fuel (⟨⟨w0, w1⟩, w2⟩ : Way)).fuel)], .i .i64 (whyR u since sky (legR u (⟨pos0, pos1⟩ : Spot) time fuel (⟨⟨w0, w1⟩, w2⟩ : Way)) (takeR u (⟨⟨w0, w1⟩, w2⟩ : Way).to_ u.base))])
  | _ => none
theorem s78 {gl : Gl} : Sum gl 78 F78 := by
  intro ps r h
  unfold F78 at h
  split at h
  · rename_i uL pos0 pos1 since time fuel w0 w1 w2 sky
    obtain ⟨u, hu, h_u⟩ := Option.bind_eq_some_iff.1 h
    obtain rfl := dec_is (by simp) hu
    obtain ⟨hc, rfl⟩ := Prod.mk.inj (Option.some.inj h_u)
    refine call_by (K := noK) (L := noL) (bxs := []) (ows := []) (GOk.cons s96 (GOk.cons s97 (GOk.cons s105 (GOk.nil)))) fn78 (noLoops (by kernel_rfl)) (by kernel_rfl) (evF_some ((e78 gl u ⟨pos0, pos1⟩ since time fuel ⟨⟨w0, w1⟩, w2⟩ sky).trans ?_))
    rw [Bool.and_eq_true] at hc
    rw [hc.1, hc.2]
    unfold whyR
    show (match lateR (legR u ⟨pos0, pos1⟩ time fuel ⟨⟨w0, w1⟩, w2⟩) (takeR u ⟨w0, w1⟩ u.base) with | true => _ | false => _) = _
    cases lateR (legR u ⟨pos0, pos1⟩ time fuel ⟨⟨w0, w1⟩, w2⟩) (takeR u ⟨w0, w1⟩ u.base) with
    | true => rfl
    | false =>
      show (match dryR u (legR u ⟨pos0, pos1⟩ time fuel ⟨⟨w0, w1⟩, w2⟩) (takeR u ⟨w0, w1⟩ u.base) with | true => _ | false => _) = _
      cases dryR u (legR u ⟨pos0, pos1⟩ time fuel ⟨⟨w0, w1⟩, w2⟩) (takeR u ⟨w0, w1⟩ u.base) with
      | true => rfl
      | false =>
        show (match tiredR u since (legR u ⟨pos0, pos1⟩ time fuel ⟨⟨w0, w1⟩, w2⟩) (takeR u ⟨w0, w1⟩ u.base) with | true => _ | false => _) = _
        cases tiredR u since (legR u ⟨pos0, pos1⟩ time fuel ⟨⟨w0, w1⟩, w2⟩) (takeR u ⟨w0, w1⟩ u.base) with
        | true => rfl
        | false =>
          show (match roughR u sky (legR u ⟨pos0, pos1⟩ time fuel ⟨⟨w0, w1⟩, w2⟩) (takeR u ⟨w0, w1⟩ u.base) with | true => _ | false => _) = _
          cases roughR u sky (legR u ⟨pos0, pos1⟩ time fuel ⟨⟨w0, w1⟩, w2⟩) (takeR u ⟨w0, w1⟩ u.base) <;> rfl
  · simp at h
end Go.Proofs.YtnbcmgdogohenaaDoor.Ev
/- Summaries of functions, printed by a program out of a list, and what is made of them. -/
namespace Go.Proofs.YtnbcmgdogohenaaDoor.Ev
open Go Go.RowKit Go.Proofs
/-- A plan under way: the legs, and where the unit is. -/
structure GoSt where
  out : List Leg
  pos : Spot
  time : Int
  fuel : Int
def goSt (u : Unit') (route : List Way) (pos : Spot) (time fuel : Int) : Nat → GoSt
  | 0 => ⟨[], pos, time, fuel⟩
  | k + 1 => ⟨(goSt u route pos time fuel k).out ++ [legR u (goSt u route pos time fuel k).pos (goSt u route pos time fuel k).time (goSt u route pos time fuel k).fuel (atN .way route k)],
      (legR u (goSt u route pos time fuel k).pos (goSt u route pos time fuel k).time (goSt u route pos time fuel k).fuel (atN .way route k)).to_,
      (legR u (goSt u route pos time fuel k).pos (goSt u route pos time fuel k).time (goSt u route pos time fuel k).fuel (atN .way route k)).leave,
      (legR u (goSt u route pos time fuel k).pos (goSt u route pos time fuel k).time (goSt u route pos time fuel k).fuel (atN .way route k)).fuel⟩
def goLeg (u : Unit') (route : List Way) (pos : Spot) (time fuel : Int) (k : Nat) : Leg := legR u (goSt u route pos time fuel k).pos (goSt u route pos time fuel k).time (goSt u route pos time fuel k).fuel (atN .way route k)
def goWhy (u : Unit') (since : Int) (sky : List Front) (route : List Way) (pos : Spot) (time fuel : Int) (k : Nat) : Int :=
  whyR u since sky (goLeg u route pos time fuel k) (takeR u (atN .way route k).to_ u.base)
/-- The first way that cannot be gone. -/
def goStop (u : Unit') (since : Int) (sky : List Front) (route : List Way) (pos : Spot) (time fuel : Int) : Option Nat :=
  (List.range' 0 route.length).find? fun k => goWhy u since sky route pos time fuel k != 0
def homeL (u : Unit') (g : GoSt) : Leg := ⟨g.pos, u.base, g.time, wr (g.time + takeR u g.pos u.base), wr (g.time + takeR u g.pos u.base), wr (g.fuel - burnR u (takeR u g.pos u.base))⟩
def plL (u : Unit') (since : Int) (sky : List Front) (route : List Way) (pos : Spot) (time fuel : Int) : List Leg := match goStop u since sky route pos time fuel with
  | some _ => []
  | none => (goSt u route pos time fuel route.length).out ++ [homeL u (goSt u route pos time fuel route.length)]
def plA (u : Unit') (since : Int) (sky : List Front) (route : List Way) (pos : Spot) (time fuel : Int) : Int := match goStop u since sky route pos time fuel with
  | some k => (k : Int)
  | none => -1
def plW (u : Unit') (since : Int) (sky : List Front) (route : List Way) (pos : Spot) (time fuel : Int) : Int := match goStop u since sky route pos time fuel with
  | some k => goWhy u since sky route pos time fuel k
  | none => 0
def plE (u : Unit') (since : Int) (sky : List Front) (route : List Way) (pos : Spot) (time fuel : Int) : Int := match goStop u since sky route pos time fuel with
  | some _ => 9
  | none => 0
theorem goSt_len (u : Unit') (route : List Way) (pos : Spot) (time fuel : Int) : ∀ k, (goSt u route pos time fuel k).out.length = k
  | 0 => rfl
  | k + 1 => by rw [goSt, List.length_append, goSt_len u route pos time fuel k]; rfl
structure S63_3 where
  route : List Way
  sky : List Front
  u : Unit'
  t9 : Int
  t10 : Int
  t11 : Int
  i : Int
  g : Int
  g2 : Int
  g3 : Int
  g4 : Int
  g5 : Int
  out : List Leg
def S63_3.enc (s : S63_3) : List PV := [.sl .way s.route, .sl .front s.sky, .ptr [.s s.u.name, .i .i64 s.u.speed, .i .i64 s.u.fuel, .i .i64 s.u.burn, .i .i64 s.u.reserve, .i .i64 s.u.hours, .i .i64 s.u.sea, .i .i64 s.u.wind, .i .i64 s.u.base.x, .i .i64 s.u.base.y, .i .i64 s.u.margin, .i .i64 s.u.level] 0, .ref 13 0, .nsl 49 .leg, .i .i64 s.t9, .i .i64 s.t10, .i .i64 s.t11, .own 20, .i .i64 s.i]
def S63_3.encH (s : S63_3) : Heap := [some (.cells 107 [.i .i64 s.g, .i .i64 s.g2, .i .i64 s.g3, .i .i64 s.g4, .i .i64 s.g5]), some (.row .leg 49 s.out)]
def dec63_3 : List PV → Heap → Option S63_3
  | [.sl .way route_, .sl .front sky_, .ptr uL 0, .ref 13 0, .nsl 49 .leg, .i .i64 t9_, .i .i64 t10_, .i .i64 t11_, .own 20, .i .i64 i_], [some (.cells 107 [.i .i64 g_, .i .i64 g2_, .i .i64 g3_, .i .i64 g4_, .i .i64 g5_]), some (.row .leg 49 out_)] => (ETy.dec .unit uL).bind fun u_ => some ⟨route_, sky_, u_, t9_, t10_, t11_, i_, g_, g2_, g3_, g4_, g5_, out_⟩
  | _, _ => none
theorem dec_enc63_3 (vs : List PV) (hs : Heap) (s : S63_3) (h : dec63_3 vs hs = some s) : vs = s.enc ∧ hs = s.encH := by
  unfold dec63_3 at h
  split at h
  · obtain ⟨u_, hu, h_u⟩ := Option.bind_eq_some_iff.1 h
    obtain rfl := dec_is (by simp) hu
    obtain rfl := Option.some.inj h_u
    exact ⟨rfl, rfl⟩
  · simp at h
def st63_3 {ρ : Type} (s : S63_3) (next : S63_3 → Option ρ) (out : S63_3 × Bool → Option ρ) : Option ρ := (match (decide (s.i < (s.route.length : Int))) with | true => (match (inB s.i s.route.length) with | true => (match (c96 s.u && decide (s.sky.length ≤ 1000000)) with | true => (match ((whyR s.u s.g3 s.sky (legR s.u (⟨s.g, s.g2⟩ : Spot) s.g4 s.g5 (atD .way s.route s.i)) (takeR s.u (atD .way s.route s.i).to_ s.u.base)) != 0) with | true => out (⟨s.route, s.sky, s.u, s.i, (whyR s.u s.g3 s.sky (legR s.u (⟨s.g, s.g2⟩ : Spot) s.g4 s.g5 (atD .way s.route s.i)) (takeR s.u (atD .way s.route s.i).to_ s.u.base)), 9, s.i, s.g, s.g2, s.g3, s.g4, s.g5, s.out⟩, true) | false => (match (decide ((s.out.length + 1) * 64 ≤ 140737488355328)) with | true => next ⟨s.route, s.sky, s.u, s.t9, s.t10, s.t11, (wr (s.i + 1)), ((legR s.u (⟨s.g, s.g2⟩ : Spot) s.g4 s.g5 (atD .way s.route s.i)).to_.x), ((legR s.u (⟨s.g, s.g2⟩ : Spot) s.g4 s.g5 (atD .way s.route s.i)).to_.y), s.g3, ((legR s.u (⟨s.g, s.g2⟩ : Spot) s.g4 s.g5 (atD .way s.route s.i)).leave), ((legR s.u (⟨s.g, s.g2⟩ : Spot) s.g4 s.g5 (atD .way s.route s.i)).fuel), (s.out ++ ([(legR s.u (⟨s.g, s.g2⟩ : Spot) s.g4 s.g5 (atD .way s.route s.i))] : List Leg))⟩ | false => none)) | false => none) | false => none) | false => out (s, false))
def out63_3 (k : Ex → List PV → Heap → Option R) (o : S63_3 × Bool) : Option R := match o.2 with
  | true => k .ret o.1.enc o.1.encH
  | false => k (.exit 0) o.1.enc o.1.encH
def fuel63_3 (s : S63_3) : Nat := s.route.length + 1
def K63 : Keep := fun _ => ([2, 3, 4, 5, 8, 9, 10, 11, 12, 13], [13, 20])
def L63 : Lam := loopL dec63_3 st63_3 fuel63_3 out63_3
noncomputable def b63_3 : Code := (loopsOf (bodyOf Tryd.f63)).getD 0 .skip
theorem step63_3 (gl : Gl) (j : Nat) (s : S63_3) (k : Ex → List PV → Heap → Option R) : unroll (cx gl (mkG [(78, F78), (96, F96), (97, F97)]) [13] [20]) K63 L63 Tryd.f63.ntmps (Tryd.f63.ntmps + 16) b63_3 (j + 1) s.enc s.encH k = st63_3 s (fun s' => unroll (cx gl (mkG [(78, F78), (96, F96), (97, F97)]) [13] [20]) K63 L63 Tryd.f63.ntmps (Tryd.f63.ntmps + 16) b63_3 j s'.enc s'.encH k) (out63_3 k) := by kernel_rfl
theorem l63 (gl : Gl) : LoopsOk (cx gl (mkG [(78, F78), (96, F96), (97, F97)]) [13] [20]) K63 L63 Tryd.f63.ntmps (Tryd.f63.ntmps + 16) (loopsOf (bodyOf Tryd.f63)) := by
  refine loopsOk_list (l := [b63_3]) (by kernel_rfl) ?_
  exact List.forall_mem_cons.2 ⟨loopOk1 (fuel := fuel63_3) (enc := S63_3.enc) (encH := S63_3.encH) (fun vs hs k => by kernel_rfl) dec_enc63_3 (step63_3 gl ), (fun _ h => by simp at h)⟩
theorem loop63 (u : Unit') (since : Int) (sky : List Front) (route : List Way) (pos : Spot) (time fuel : Int) (h1 : c96 u = true) (h2 : decide (sky.length ≤ 1000000) = true) (h3 : route.length ≤ 1000000) :
    (iter st63_3 (fuel63_3 (⟨route, sky, u, 0, 0, 0, 0, pos.x, pos.y, since, time, fuel, ([])⟩ : S63_3)) (⟨route, sky, u, 0, 0, 0, 0, pos.x, pos.y, since, time, fuel, ([])⟩ : S63_3) fun o3 => (match o3.2 with | true => an (.tup [.sl .leg ([] : List Leg), .i .i64 o3.1.t9, .i .i64 o3.1.t10, .i .i64 o3.1.t11]) | false => (match (c96 o3.1.u) with | true => (match c97 with | true => (match (decide ((o3.1.out.length + 1) * 64 ≤ 140737488355328)) with | true => an (.tup [.sl .leg (o3.1.out ++ ([⟨⟨o3.1.g, o3.1.g2⟩, o3.1.u.base, o3.1.g4, (wr (o3.1.g4 + (takeR o3.1.u (⟨o3.1.g, o3.1.g2⟩ : Spot) o3.1.u.base))), (wr (o3.1.g4 + (takeR o3.1.u (⟨o3.1.g, o3.1.g2⟩ : Spot) o3.1.u.base))), (wr (o3.1.g5 - (burnR o3.1.u (takeR o3.1.u (⟨o3.1.g, o3.1.g2⟩ : Spot) o3.1.u.base))))⟩] : List Leg)), .i .i64 (-1), .i .i64 0, .i .i64 0]) | false => none) | false => none) | false => none))) = an (.tup [.sl .leg (plL u since sky route pos time fuel), .i .i64 (plA u since sky route pos time fuel), .i .i64 (plW u since sky route pos time fuel), .i .i64 (plE u since sky route pos time fuel)]) := by
  refine (iter_all (step := st63_3) (F := fun k => (⟨route, sky, u, 0, 0, 0, (k : Int), (goSt u route pos time fuel k).pos.x, (goSt u route pos time fuel k).pos.y, since, (goSt u route pos time fuel k).time, (goSt u route pos time fuel k).fuel, (goSt u route pos time fuel k).out⟩ : S63_3)) (stop := fun k => bif goWhy u since sky route pos time fuel k != 0 then some ((⟨route, sky, u, (k : Int), goWhy u since sky route pos time fuel k, 9, (k : Int), (goSt u route pos time fuel k).pos.x, (goSt u route pos time fuel k).pos.y, since, (goSt u route pos time fuel k).time, (goSt u route pos time fuel k).fuel, (goSt u route pos time fuel k).out⟩ : S63_3), true) else none) (last := ((⟨route, sky, u, 0, 0, 0, (route.length : Int), (goSt u route pos time fuel route.length).pos.x, (goSt u route pos time fuel route.length).pos.y, since, (goSt u route pos time fuel route.length).time, (goSt u route pos time fuel route.length).fuel, (goSt u route pos time fuel route.length).out⟩ : S63_3), false)) route.length _ (fun k next hk => ?_) (fun next => ?_) _ (Nat.le_refl _) _ rfl).trans ?_
  · have h4 : decide (((goSt u route pos time fuel k).out.length + 1) * 64 ≤ 140737488355328) = true := by rw [goSt_len]; exact decide_eq_true (by omega)
    simp only [st63_3, decLt_nat hk, inB_nat hk, wr_succ (show k ≤ 1000000 by omega), atD, Int.toNat_natCast, h1, h2, h4, Bool.and_true]
    show (match goWhy u since sky route pos time fuel k != 0 with | true => _ | false => _) = _
    generalize (goWhy u since sky route pos time fuel k != 0) = b_
    cases b_ <;> rfl
  · simp only [st63_3, decLt_self]
  · rw [runTo_first (fun k => goWhy u since sky route pos time fuel k != 0) (fun k => ((⟨route, sky, u, (k : Int), goWhy u since sky route pos time fuel k, 9, (k : Int), (goSt u route pos time fuel k).pos.x, (goSt u route pos time fuel k).pos.y, since, (goSt u route pos time fuel k).time, (goSt u route pos time fuel k).fuel, (goSt u route pos time fuel k).out⟩ : S63_3), true)) route.length 0 (fun j _ _ => rfl)]
    have h4 : decide (((goSt u route pos time fuel route.length).out.length + 1) * 64 ≤ 140737488355328) = true := by rw [goSt_len]; exact decide_eq_true (by omega)
    unfold plL plA plW plE
    rw [show (List.range' 0 route.length).find? (fun k => goWhy u since sky route pos time fuel k != 0) = goStop u since sky route pos time fuel from rfl]
    cases goStop u since sky route pos time fuel with
    | some k => rfl
    | none =>
      simp only [h1, h4]
      rfl
theorem fn63 : FnOk 63 Tryd.f63 := ⟨by kernel_rfl, by kernel_rfl, by kernel_rfl, by kernel_rfl⟩
theorem e63 (gl : Gl) (u : Unit') (pos : Spot) (since : Int) (time : Int) (fuel : Int) (route : List Way) (sky : List Front) : evFn (cx gl (mkG [(78, F78), (96, F96), (97, F97)]) [13] [20]) K63 L63 Tryd.f63 [.agg [.s u.name, .i .i64 u.speed, .i .i64 u.fuel, .i .i64 u.burn, .i .i64 u.reserve, .i .i64 u.hours, .i .i64 u.sea, .i .i64 u.wind, .i .i64 u.base.x, .i .i64 u.base.y, .i .i64 u.margin, .i .i64 u.level], .agg [.i .i64 pos.x, .i .i64 pos.y, .i .i64 since, .i .i64 time, .i .i64 fuel], .sl .way route, .sl .front sky] noObjs = (iter st63_3 (fuel63_3 (⟨route, sky, u, 0, 0, 0, 0, pos.x, pos.y, since, time, fuel, ([])⟩ : S63_3)) (⟨route, sky, u, 0, 0, 0, 0, pos.x, pos.y, since, time, fuel, ([])⟩ : S63_3) fun o3 => (match o3.2 with | true => an (.tup [.sl .leg ([] : List Leg), .i .i64 o3.1.t9, .i .i64 o3.1.t10, .i .i64 o3.1.t11]) | false => (match (c96 o3.1.u) with | true => (match c97 with | true => (match (decide ((o3.1.out.length + 1) * 64 ≤ 140737488355328)) with | true => an (.tup [.sl .leg (o3.1.out ++ ([⟨⟨o3.1.g, o3.1.g2⟩, o3.1.u.base, o3.1.g4, (wr (o3.1.g4 + (takeR o3.1.u (⟨o3.1.g, o3.1.g2⟩ : Spot) o3.1.u.base))), (wr (o3.1.g4 + (takeR o3.1.u (⟨o3.1.g, o3.1.g2⟩ : Spot) o3.1.u.base))), (wr (o3.1.g5 - (burnR o3.1.u (takeR o3.1.u (⟨o3.1.g, o3.1.g2⟩ : Spot) o3.1.u.base))))⟩] : List Leg)), .i .i64 (-1), .i .i64 0, .i .i64 0]) | false => none) | false => none) | false => none))) := by kernel_rfl
def F63 : List PV → Option (Bool × PV)
  | [.agg uL, .agg [.i .i64 pos0, .i .i64 pos1, .i .i64 since, .i .i64 time, .i .i64 fuel], .sl .way route, .sl .front sky] => (ETy.dec .unit uL).bind fun u => some ((c96 u && (decide (sky.length ≤ 1000000) && decide (route.length ≤ 1000000))), .tup [.sl .leg (plL u since sky route (⟨pos0, pos1⟩ : Spot) time fuel), .i .i64 (plA u since sky route (⟨pos0, pos1⟩ : Spot) time fuel), .i .i64 (plW u since sky route (⟨pos0, pos1⟩ : Spot) time fuel), .i .i64 (plE u since sky route (⟨pos0, pos1⟩ : Spot) time fuel)])
  | _ => none
theorem s63 {gl : Gl} : Sum gl 63 F63 := by
  intro ps r h
  unfold F63 at h
  split at h
  · rename_i uL pos0 pos1 since time fuel route sky
    obtain ⟨u, hu, h_u⟩ := Option.bind_eq_some_iff.1 h
    obtain rfl := dec_is (by simp) hu
    obtain ⟨hc, rfl⟩ := Prod.mk.inj (Option.some.inj h_u)
    refine call_by (K := K63) (L := L63) (bxs := [13]) (ows := [20]) (GOk.cons s78 (GOk.cons s96 (GOk.cons s97 (GOk.nil)))) fn63 (l63 gl) (by kernel_rfl) (evF_some ((e63 gl u ⟨pos0, pos1⟩ since time fuel route sky).trans ?_))
    simp only [Bool.and_eq_true] at hc
    exact loop63 u since sky route ⟨pos0, pos1⟩ time fuel hc.1 hc.2.1 (of_decide_eq_true hc.2.2)
  · simp at h
end Go.Proofs.YtnbcmgdogohenaaDoor.Ev
/- Summaries of functions, printed by a program out of a list, and what is made of them. -/
namespace Go.Proofs.YtnbcmgdogohenaaDoor.Ev
open Go Go.RowKit Go.Proofs
def eqL (x y : Leg) : Bool := ((x.fr.x == y.fr.x) && ((x.fr.y == y.fr.y) && ((x.to_.x == y.to_.x) && ((x.to_.y == y.to_.y) && ((x.start == y.start) && ((x.arrive == y.arrive) && ((x.leave == y.leave) && ((x.fuel == y.fuel) && true))))))))
theorem eqL_iff (x y : Leg) : eqL x y = true ↔ x = y := by
  unfold eqL
  simp only [Bool.and_eq_true, beq_iff_eq, and_true]
  constructor
  · intro h
    rcases x with ⟨⟨_, _⟩, ⟨_, _⟩, _, _, _, _⟩
    rcases y with ⟨⟨_, _⟩, ⟨_, _⟩, _, _, _, _⟩
    simp_all
  · rintro rfl
    simp
def eqB (x y : Box) : Bool := ((x.low.x == y.low.x) && ((x.low.y == y.low.y) && ((x.high.x == y.high.x) && ((x.high.y == y.high.y) && ((x.fr == y.fr) && ((x.to_ == y.to_) && ((x.level == y.level) && true)))))))
theorem eqB_iff (x y : Box) : eqB x y = true ↔ x = y := by
  unfold eqB
  simp only [Bool.and_eq_true, beq_iff_eq, and_true]
  constructor
  · intro h
    rcases x with ⟨⟨_, _⟩, ⟨_, _⟩, _, _, _⟩
    rcases y with ⟨⟨_, _⟩, ⟨_, _⟩, _, _, _⟩
    simp_all
  · rintro rfl
    simp
theorem sameS_iff {α : Type} {e : α → α → Bool} (he : ∀ x y, e x y = true ↔ x = y) {a b : List α} : sameS e a b = true ↔ a = b := by
  unfold sameS
  by_cases h : a.length = b.length
  · have h1 : ((a.length : Int) != (b.length : Int)) = false := by simp [h]
    rw [h1]
    show ((a.zip b).all fun x => e x.1 x.2) = true ↔ _
    rw [List.all_eq_true]
    constructor
    · intro hh
      refine List.ext_getElem h fun i h1 h2 => (he _ _).1 ?_
      have := hh (a[i], b[i]) (by rw [← List.getElem_zip (h := by simp [List.length_zip]; omega)]; exact List.getElem_mem _)
      exact this
    · rintro rfl x hx
      have : x.1 = x.2 := by
        obtain ⟨i, hi, rfl⟩ := List.getElem_of_mem hx
        simp
      exact (he _ _).2 this
  · have h1 : ((a.length : Int) != (b.length : Int)) = true := by simp; omega
    rw [h1]
    constructor
    · intro hh; exact Bool.noConfusion (show false = true from hh)
    · rintro rfl; exact absurd rfl h
structure S26_4 where
  a : List Leg
  b : List Leg
  t4 : Bool
  i : Int
def S26_4.enc (s : S26_4) : List PV := [.sl .leg s.a, .sl .leg s.b, .b s.t4, .i .i64 s.i]
def S26_4.encH (s : S26_4) : Heap := []
def dec26_4 : List PV → Heap → Option S26_4
  | [.sl .leg a_, .sl .leg b_, .b t4_, .i .i64 i_], [] => some ⟨a_, b_, t4_, i_⟩
  | _, _ => none
theorem dec_enc26_4 (vs : List PV) (hs : Heap) (s : S26_4) (h : dec26_4 vs hs = some s) : vs = s.enc ∧ hs = s.encH := by
  unfold dec26_4 at h
  split at h
  · obtain rfl := Option.some.inj h
    exact ⟨rfl, rfl⟩
  · simp at h
def st26_4 {ρ : Type} (s : S26_4) (next : S26_4 → Option ρ) (out : S26_4 × Bool → Option ρ) : Option ρ := (match (decide (s.i < (s.a.length : Int))) with | true => (match (inB s.i s.a.length) with | true => (match (inB s.i s.b.length) with | true => (match (!((((atD .leg s.a s.i).fr.x) == ((atD .leg s.b s.i).fr.x)) && ((((atD .leg s.a s.i).fr.y) == ((atD .leg s.b s.i).fr.y)) && ((((atD .leg s.a s.i).to_.x) == ((atD .leg s.b s.i).to_.x)) && ((((atD .leg s.a s.i).to_.y) == ((atD .leg s.b s.i).to_.y)) && ((((atD .leg s.a s.i).start) == ((atD .leg s.b s.i).start)) && ((((atD .leg s.a s.i).arrive) == ((atD .leg s.b s.i).arrive)) && ((((atD .leg s.a s.i).leave) == ((atD .leg s.b s.i).leave)) && ((((atD .leg s.a s.i).fuel) == ((atD .leg s.b s.i).fuel)) && true))))))))) with | true => out (⟨s.a, s.b, false, s.i⟩, true) | false => next ⟨s.a, s.b, s.t4, (wr (s.i + 1))⟩) | false => none) | false => none) | false => out (s, false))
def out26_4 (k : Ex → List PV → Heap → Option R) (o : S26_4 × Bool) : Option R := match o.2 with
  | true => k .ret o.1.enc o.1.encH
  | false => k (.exit 0) o.1.enc o.1.encH
def fuel26_4 (s : S26_4) : Nat := s.a.length + 1
def K26 : Keep := fun _ => ([0, 1, 4, 5], [])
def L26 : Lam := loopL dec26_4 st26_4 fuel26_4 out26_4
noncomputable def b26_4 : Code := (loopsOf (bodyOf Tryd.f26)).getD 0 .skip
theorem step26_4 (gl : Gl) (j : Nat) (s : S26_4) (k : Ex → List PV → Heap → Option R) : unroll (cx gl (mkG []) [] []) K26 L26 Tryd.f26.ntmps (Tryd.f26.ntmps + 16) b26_4 (j + 1) s.enc s.encH k = st26_4 s (fun s' => unroll (cx gl (mkG []) [] []) K26 L26 Tryd.f26.ntmps (Tryd.f26.ntmps + 16) b26_4 j s'.enc s'.encH k) (out26_4 k) := by kernel_rfl
theorem l26 (gl : Gl) : LoopsOk (cx gl (mkG []) [] []) K26 L26 Tryd.f26.ntmps (Tryd.f26.ntmps + 16) (loopsOf (bodyOf Tryd.f26)) := by
  refine loopsOk_list (l := [b26_4]) (by kernel_rfl) ?_
  exact List.forall_mem_cons.2 ⟨loopOk1 (fuel := fuel26_4) (enc := S26_4.enc) (encH := S26_4.encH) (fun vs hs k => by kernel_rfl) dec_enc26_4 (step26_4 gl ), (fun _ h => by simp at h)⟩
theorem loop26 (a b : List Leg) (hx : a.length ≤ 1000000) (hl : a.length = b.length) : (iter st26_4 (fuel26_4 (⟨a, b, false, 0⟩ : S26_4)) (⟨a, b, false, 0⟩ : S26_4) fun o4 => (match o4.2 with | true => an (.b o4.1.t4) | false => an (.b true))) = an (.b ((a.zip b).all fun x => eqL x.1 x.2)) := by
  have hz : (a.zip b).length = a.length := by rw [List.length_zip]; omega
  refine (iter_all (step := st26_4) (F := fun k => (⟨a, b, false, (k : Int)⟩ : S26_4)) (stop := fun k => bif !(eqL (atN .leg a k) (atN .leg b k)) then some ((⟨a, b, false, (k : Int)⟩ : S26_4), true) else none) (last := ((⟨a, b, false, (a.length : Int)⟩ : S26_4), false)) a.length _ (fun k next hk => ?_) (fun next => ?_) _ (Nat.le_refl _) _ rfl).trans ?_
  · simp only [st26_4, decLt_nat hk, inB_nat hk, inB_nat (hl ▸ hk), wr_succ (show k ≤ 1000000 by omega), atD, Int.toNat_natCast]
    show (match !(eqL (atN .leg a k) (atN .leg b k)) with | true => _ | false => _) = _
    generalize (!(eqL (atN .leg a k) (atN .leg b k))) = b_
    cases b_ <;> rfl
  · simp only [st26_4, decLt_self]
  · rw [← hz, runTo_find (fun x : Leg × Leg => !(eqL x.1 x.2)) (fun k => ((⟨a, b, false, (k : Int)⟩ : S26_4), true)) _ _ (a.zip b) (fun k hk => by
        have h1 : k < a.length := by omega
        have h2 : k < b.length := by omega
        rw [atN_nat (T := .leg) h1, atN_nat (T := .leg) h2, List.getElem_zip]) (a.zip b).length 0 (by omega), List.drop_zero, ← all_not_any]
    have hf := find_any (fun x : Leg × Leg => !(eqL x.1 x.2)) (a.zip b) false true
    cases h : (a.zip b).findIdx? (fun x => !(eqL x.1 x.2)) with
    | none => rw [h] at hf; cases ha : (a.zip b).any (fun x => !(eqL x.1 x.2)) <;> rw [ha] at hf <;> first | rfl | (simp at hf)
    | some k => rw [h] at hf; cases ha : (a.zip b).any (fun x => !(eqL x.1 x.2)) <;> rw [ha] at hf <;> first | rfl | (simp at hf)
theorem fn26 : FnOk 26 Tryd.f26 := ⟨by kernel_rfl, by kernel_rfl, by kernel_rfl, by kernel_rfl⟩
theorem e26 (gl : Gl) (a : List Leg) (b : List Leg) : evFn (cx gl (mkG []) [] []) K26 L26 Tryd.f26 [.sl .leg a, .sl .leg b] noObjs = (match ((a.length : Int) != (b.length : Int)) with | true => an (.b false) | false => (iter st26_4 (fuel26_4 (⟨a, b, false, 0⟩ : S26_4)) (⟨a, b, false, 0⟩ : S26_4) fun o4 => (match o4.2 with | true => an (.b o4.1.t4) | false => an (.b true)))) := by kernel_rfl
def F26 : List PV → Option (Bool × PV)
  | [.sl .leg a, .sl .leg b] => some ((decide (a.length ≤ 1000000)), .b (sameS eqL a b))
  | _ => none
theorem s26 {gl : Gl} : Sum gl 26 F26 := by
  intro ps r h
  unfold F26 at h
  split at h
  · rename_i a b
    obtain ⟨hc, rfl⟩ := Prod.mk.inj (Option.some.inj h)
    refine call_by (K := K26) (L := L26) (bxs := []) (ows := []) (GOk.nil) fn26 (l26 gl) (by kernel_rfl) (evF_some ((e26 gl a b).trans ?_))
    unfold sameS
    cases hl : ((a.length : Int) != (b.length : Int)) with
    | true => rfl
    | false => exact loop26 a b (of_decide_eq_true hc) (by simp at hl; omega)
  · simp at h
structure S35_4 where
  a : List Box
  b : List Box
  t4 : Bool
  i : Int
def S35_4.enc (s : S35_4) : List PV := [.sl .box s.a, .sl .box s.b, .b s.t4, .i .i64 s.i]
def S35_4.encH (s : S35_4) : Heap := []
def dec35_4 : List PV → Heap → Option S35_4
  | [.sl .box a_, .sl .box b_, .b t4_, .i .i64 i_], [] => some ⟨a_, b_, t4_, i_⟩
  | _, _ => none
theorem dec_enc35_4 (vs : List PV) (hs : Heap) (s : S35_4) (h : dec35_4 vs hs = some s) : vs = s.enc ∧ hs = s.encH := by
  unfold dec35_4 at h
  split at h
  · obtain rfl := Option.some.inj h
    exact ⟨rfl, rfl⟩
  · simp at h
def st35_4 {ρ : Type} (s : S35_4) (next : S35_4 → Option ρ) (out : S35_4 × Bool → Option ρ) : Option ρ := (match (decide (s.i < (s.a.length : Int))) with | true => (match (inB s.i s.a.length) with | true => (match (inB s.i s.b.length) with | true => (match (!((((atD .box s.a s.i).low.x) == ((atD .box s.b s.i).low.x)) && ((((atD .box s.a s.i).low.y) == ((atD .box s.b s.i).low.y)) && ((((atD .box s.a s.i).high.x) == ((atD .box s.b s.i).high.x)) && ((((atD .box s.a s.i).high.y) == ((atD .box s.b s.i).high.y)) && ((((atD .box s.a s.i).fr) == ((atD .box s.b s.i).fr)) && ((((atD .box s.a s.i).to_) == ((atD .box s.b s.i).to_)) && ((((atD .box s.a s.i).level) == ((atD .box s.b s.i).level)) && true)))))))) with | true => out (⟨s.a, s.b, false, s.i⟩, true) | false => next ⟨s.a, s.b, s.t4, (wr (s.i + 1))⟩) | false => none) | false => none) | false => out (s, false))
def out35_4 (k : Ex → List PV → Heap → Option R) (o : S35_4 × Bool) : Option R := match o.2 with
  | true => k .ret o.1.enc o.1.encH
  | false => k (.exit 0) o.1.enc o.1.encH
def fuel35_4 (s : S35_4) : Nat := s.a.length + 1
def K35 : Keep := fun _ => ([0, 1, 4, 5], [])
def L35 : Lam := loopL dec35_4 st35_4 fuel35_4 out35_4
noncomputable def b35_4 : Code := (loopsOf (bodyOf Tryd.f35)).getD 0 .skip
theorem step35_4 (gl : Gl) (j : Nat) (s : S35_4) (k : Ex → List PV → Heap → Option R) : unroll (cx gl (mkG []) [] []) K35 L35 Tryd.f35.ntmps (Tryd.f35.ntmps + 16) b35_4 (j + 1) s.enc s.encH k = st35_4 s (fun s' => unroll (cx gl (mkG []) [] []) K35 L35 Tryd.f35.ntmps (Tryd.f35.ntmps + 16) b35_4 j s'.enc s'.encH k) (out35_4 k) := by kernel_rfl
theorem l35 (gl : Gl) : LoopsOk (cx gl (mkG []) [] []) K35 L35 Tryd.f35.ntmps (Tryd.f35.ntmps + 16) (loopsOf (bodyOf Tryd.f35)) := by
  refine loopsOk_list (l := [b35_4]) (by kernel_rfl) ?_
  exact List.forall_mem_cons.2 ⟨loopOk1 (fuel := fuel35_4) (enc := S35_4.enc) (encH := S35_4.encH) (fun vs hs k => by kernel_rfl) dec_enc35_4 (step35_4 gl ), (fun _ h => by simp at h)⟩
theorem loop35 (a b : List Box) (hx : a.length ≤ 1000000) (hl : a.length = b.length) : (iter st35_4 (fuel35_4 (⟨a, b, false, 0⟩ : S35_4)) (⟨a, b, false, 0⟩ : S35_4) fun o4 => (match o4.2 with | true => an (.b o4.1.t4) | false => an (.b true))) = an (.b ((a.zip b).all fun x => eqB x.1 x.2)) := by
  have hz : (a.zip b).length = a.length := by rw [List.length_zip]; omega
  refine (iter_all (step := st35_4) (F := fun k => (⟨a, b, false, (k : Int)⟩ : S35_4)) (stop := fun k => bif !(eqB (atN .box a k) (atN .box b k)) then some ((⟨a, b, false, (k : Int)⟩ : S35_4), true) else none) (last := ((⟨a, b, false, (a.length : Int)⟩ : S35_4), false)) a.length _ (fun k next hk => ?_) (fun next => ?_) _ (Nat.le_refl _) _ rfl).trans ?_
  · simp only [st35_4, decLt_nat hk, inB_nat hk, inB_nat (hl ▸ hk), wr_succ (show k ≤ 1000000 by omega), atD, Int.toNat_natCast]
    show (match !(eqB (atN .box a k) (atN .box b k)) with | true => _ | false => _) = _
    generalize (!(eqB (atN .box a k) (atN .box b k))) = b_
    cases b_ <;> rfl
  · simp only [st35_4, decLt_self]
  · rw [← hz, runTo_find (fun x : Box × Box => !(eqB x.1 x.2)) (fun k => ((⟨a, b, false, (k : Int)⟩ : S35_4), true)) _ _ (a.zip b) (fun k hk => by
        have h1 : k < a.length := by omega
        have h2 : k < b.length := by omega
        rw [atN_nat (T := .box) h1, atN_nat (T := .box) h2, List.getElem_zip]) (a.zip b).length 0 (by omega), List.drop_zero, ← all_not_any]
    have hf := find_any (fun x : Box × Box => !(eqB x.1 x.2)) (a.zip b) false true
    cases h : (a.zip b).findIdx? (fun x => !(eqB x.1 x.2)) with
    | none => rw [h] at hf; cases ha : (a.zip b).any (fun x => !(eqB x.1 x.2)) <;> rw [ha] at hf <;> first | rfl | (simp at hf)
    | some k => rw [h] at hf; cases ha : (a.zip b).any (fun x => !(eqB x.1 x.2)) <;> rw [ha] at hf <;> first | rfl | (simp at hf)
theorem fn35 : FnOk 35 Tryd.f35 := ⟨by kernel_rfl, by kernel_rfl, by kernel_rfl, by kernel_rfl⟩
theorem e35 (gl : Gl) (a : List Box) (b : List Box) : evFn (cx gl (mkG []) [] []) K35 L35 Tryd.f35 [.sl .box a, .sl .box b] noObjs = (match ((a.length : Int) != (b.length : Int)) with | true => an (.b false) | false => (iter st35_4 (fuel35_4 (⟨a, b, false, 0⟩ : S35_4)) (⟨a, b, false, 0⟩ : S35_4) fun o4 => (match o4.2 with | true => an (.b o4.1.t4) | false => an (.b true)))) := by kernel_rfl
def F35 : List PV → Option (Bool × PV)
  | [.sl .box a, .sl .box b] => some ((decide (a.length ≤ 1000000)), .b (sameS eqB a b))
  | _ => none
theorem s35 {gl : Gl} : Sum gl 35 F35 := by
  intro ps r h
  unfold F35 at h
  split at h
  · rename_i a b
    obtain ⟨hc, rfl⟩ := Prod.mk.inj (Option.some.inj h)
    refine call_by (K := K35) (L := L35) (bxs := []) (ows := []) (GOk.nil) fn35 (l35 gl) (by kernel_rfl) (evF_some ((e35 gl a b).trans ?_))
    unfold sameS
    cases hl : ((a.length : Int) != (b.length : Int)) with
    | true => rfl
    | false => exact loop35 a b (of_decide_eq_true hc) (by simp at hl; omega)
  · simp at h
theorem bnz {n : Int} (h : 1 ≤ n) : (!(n == 0)) = true := by
  cases hh : n == 0 with
  | false => rfl
  | true => rw [beq_iff_eq] at hh; omega
theorem c96_ok {u : Unit'} (h : unitOk u = true) : c96 u = true := by
  have : 1 ≤ u.speed := by
    unfold unitOk at h
    simp only [bif_f, Bool.and_eq_true] at h
    have h1 := h.1.1.1.1.2.1
    unfold In at h1
    simp only [bif_f, Bool.and_eq_true, decide_eq_true_eq] at h1
    omega
  exact bnz this
/-- What the document's plan asks first. -/
def pArg (u : Unit') (start : Int) (route : List Way) (sky : List Front) : Bool := bif (bif (bif (!(unitOk u)) then true else (!(skyOk sky))) then true else (!(List.all route wayOk))) then true else (!(Time start))
def pLong (route : List Way) : Bool := decide ((route.length : Int) > 30)
def PlL (u : Unit') (start : Int) (route : List Way) (sky : List Front) : List Leg := bif pArg u start route sky then [] else bif pLong route then [] else plL u start sky route u.base start u.fuel
def PlA (u : Unit') (start : Int) (route : List Way) (sky : List Front) : Int := bif pArg u start route sky then -1 else bif pLong route then -1 else plA u start sky route u.base start u.fuel
def PlW (u : Unit') (start : Int) (route : List Way) (sky : List Front) : Int := bif pArg u start route sky then 0 else bif pLong route then 0 else plW u start sky route u.base start u.fuel
def PlE (u : Unit') (start : Int) (route : List Way) (sky : List Front) : Int := bif pArg u start route sky then 2 else bif pLong route then 3 else plE u start sky route u.base start u.fuel
theorem pArg_ok {u : Unit'} {start : Int} {route : List Way} {sky : List Front} (h : pArg u start route sky = false) : unitOk u = true ∧ skyOk sky = true ∧ List.all route wayOk = true ∧ Time start = true := by
  unfold pArg at h
  revert h
  cases unitOk u <;> cases skyOk sky <;> cases List.all route wayOk <;> cases Time start <;> simp
/-- What the document asks first of a plan that is made anew. -/
def gArg (u : Unit') (l : List Leg) (route : List Way) (sky : List Front) : Bool := bif (bif (bif (!(unitOk u)) then true else (!(legsOk l))) then true else (!(skyOk sky))) then true else (!(List.all route wayOk))
theorem gArg_ok {u : Unit'} {l : List Leg} {route : List Way} {sky : List Front} (h : gArg u l route sky = false) : unitOk u = true ∧ legsOk l = true ∧ skyOk sky = true ∧ List.all route wayOk = true := by
  unfold gArg at h
  revert h
  cases unitOk u <;> cases legsOk l <;> cases skyOk sky <;> cases List.all route wayOk <;> simp
def agPos (l : List Leg) (t : Int) : Spot := ⟨prX (atV l t) t, prY (atV l t) t⟩
def agSince (l : List Leg) : Int := (atN .leg l 0).start
def agWhy (u : Unit') (l : List Leg) (t : Int) (sky : List Front) : Int := whyR u (agSince l) sky (legR u (agPos l t) t (leftV u l t) ⟨agPos l t, 0⟩) (takeR u (agPos l t) u.base)
def agStop (u : Unit') (l : List Leg) (t : Int) (route : List Way) (sky : List Front) : Bool := bif ((route.length : Int) == 0) then (agWhy u l t sky != 0) else false
def AgL (u : Unit') (l : List Leg) (t : Int) (route : List Way) (sky : List Front) : List Leg := bif gArg u l route sky then [] else bif !(atB l t) then [] else bif pLong route then [] else bif agStop u l t route sky then [] else plL u (agSince l) sky route (agPos l t) t (leftV u l t)
def AgA (u : Unit') (l : List Leg) (t : Int) (route : List Way) (sky : List Front) : Int := bif gArg u l route sky then -1 else bif !(atB l t) then -1 else bif pLong route then -1 else bif agStop u l t route sky then 0 else plA u (agSince l) sky route (agPos l t) t (leftV u l t)
def AgW (u : Unit') (l : List Leg) (t : Int) (route : List Way) (sky : List Front) : Int := bif gArg u l route sky then 0 else bif !(atB l t) then 0 else bif pLong route then 0 else bif agStop u l t route sky then agWhy u l t sky else plW u (agSince l) sky route (agPos l t) t (leftV u l t)
def AgE (u : Unit') (l : List Leg) (t : Int) (route : List Way) (sky : List Front) : Int := bif gArg u l route sky then 2 else bif !(atB l t) then 7 else bif pLong route then 3 else bif agStop u l t route sky then 9 else plE u (agSince l) sky route (agPos l t) t (leftV u l t)
theorem fn25 : FnOk 25 Tryd.f25 := ⟨by kernel_rfl, by kernel_rfl, by kernel_rfl, by kernel_rfl⟩
theorem e25 (gl : Gl) (u : Unit') (start : Int) (route : List Way) (sky : List Front) : evFn (cx gl (mkG [(20, F20), (22, F22), (62, F62), (46, F46), (63, F63)]) [] []) noK noL Tryd.f25 [.agg [.s u.name, .i .i64 u.speed, .i .i64 u.fuel, .i .i64 u.burn, .i .i64 u.reserve, .i .i64 u.hours, .i .i64 u.sea, .i .i64 u.wind, .i .i64 u.base.x, .i .i64 u.base.y, .i .i64 u.margin, .i .i64 u.level], .i .i64 start, .sl .way route, .sl .front sky] noObjs = (match ((decide (sky.length ≤ 1000000)) || ((!(unitOk u)) || false)) with | true => (match ((decide (route.length ≤ 1000000)) || ((bif (!(unitOk u)) then true else (!(skyOk sky))) || false)) with | true => (match (bif (bif (bif (!(unitOk u)) then true else (!(skyOk sky))) then true else (!(List.all route wayOk))) then true else (!(Time start))) with | true => an (.tup [.sl .leg ([] : List Leg), .i .i64 (-1), .i .i64 0, .i .i64 2]) | false => (match (decide ((route.length : Int) > 30)) with | true => an (.tup [.sl .leg ([] : List Leg), .i .i64 (-1), .i .i64 0, .i .i64 3]) | false => (match (c96 u && (decide (sky.length ≤ 1000000) && decide (route.length ≤ 1000000))) with | true => an (.tup [.sl .leg (plL u start sky route u.base start u.fuel), .i .i64 (plA u start sky route u.base start u.fuel), .i .i64 (plW u start sky route u.base start u.fuel), .i .i64 (plE u start sky route u.base start u.fuel)]) | false => none))) | false => none) | false => none) := by kernel_rfl
def F25 : List PV → Option (Bool × PV)
  | [.agg uL, .i .i64 start, .sl .way route, .sl .front sky] => (ETy.dec .unit uL).bind fun u => some ((decide (sky.length ≤ 1000000) && decide (route.length ≤ 1000000)), .tup [.sl .leg (PlL u start route sky), .i .i64 (PlA u start route sky), .i .i64 (PlW u start route sky), .i .i64 (PlE u start route sky)])
  | _ => none
theorem s25 {gl : Gl} : Sum gl 25 F25 := by
  intro ps r h
  unfold F25 at h
  split at h
  · rename_i uL start route sky
    obtain ⟨u, hu, h_u⟩ := Option.bind_eq_some_iff.1 h
    obtain rfl := dec_is (by simp) hu
    obtain ⟨hc, rfl⟩ := Prod.mk.inj (Option.some.inj h_u)
    refine call_by (K := noK) (L := noL) (bxs := []) (ows := []) (GOk.cons s20 (GOk.cons s22 (GOk.cons s62 (GOk.cons s46 (GOk.cons s63 (GOk.nil)))))) fn25 (noLoops (by kernel_rfl)) (by kernel_rfl) (evF_some ((e25 gl u start route sky).trans ?_))
    rw [Bool.and_eq_true] at hc
    rw [hc.1, hc.2]
    unfold PlL PlA PlW PlE
    show (match pArg u start route sky with | true => _ | false => (match pLong route with | true => _ | false => _)) = _
    cases hA : pArg u start route sky with
    | true => rfl
    | false =>
      rw [c96_ok (pArg_ok hA).1]
      cases pLong route <;> rfl
  · simp at h
theorem fn40 : FnOk 40 Tryd.f40 := ⟨by kernel_rfl, by kernel_rfl, by kernel_rfl, by kernel_rfl⟩
theorem e40 (gl : Gl) (u : Unit') (l : List Leg) (t : Int) (route : List Way) (sky : List Front) : evFn (cx gl (mkG [(20, F20), (36, F36), (22, F22), (62, F62), (67, F67), (68, F68), (30, F30), (78, F78), (63, F63)]) [] []) noK noL Tryd.f40 [.agg [.s u.name, .i .i64 u.speed, .i .i64 u.fuel, .i .i64 u.burn, .i .i64 u.reserve, .i .i64 u.hours, .i .i64 u.sea, .i .i64 u.wind, .i .i64 u.base.x, .i .i64 u.base.y, .i .i64 u.margin, .i .i64 u.level], .sl .leg l, .i .i64 t, .sl .way route, .sl .front sky] noObjs = (match ((decide (l.length ≤ 1000000)) || ((!(unitOk u)) || false)) with | true => (match ((decide (sky.length ≤ 1000000)) || ((bif (!(unitOk u)) then true else (!(legsOk l))) || false)) with | true => (match ((decide (route.length ≤ 1000000)) || ((bif (bif (!(unitOk u)) then true else (!(legsOk l))) then true else (!(skyOk sky))) || false)) with | true => (match (bif (bif (bif (!(unitOk u)) then true else (!(legsOk l))) then true else (!(skyOk sky))) then true else (!(List.all route wayOk))) with | true => an (.tup [.sl .leg ([] : List Leg), .i .i64 (-1), .i .i64 0, .i .i64 2]) | false => (match (decide (l.length ≤ 1000000) && decide (1 ≤ l.length)) with | true => (match (decide ((byS l t) < 0)) with | true => an (.tup [.sl .leg ([] : List Leg), .i .i64 (-1), .i .i64 0, .i .i64 7]) | false => (match (decide ((route.length : Int) > 30)) with | true => an (.tup [.sl .leg ([] : List Leg), .i .i64 (-1), .i .i64 0, .i .i64 3]) | false => (match (inB (byS l t) l.length) with | true => (match (c68 (atD .leg l (byS l t)) t) with | true => (match (decide (l.length ≤ 1000000)) with | true => (match (inB 0 l.length) with | true => (match ((route.length : Int) == 0) with | true => (match (c96 u && decide (sky.length ≤ 1000000)) with | true => (match ((whyR u ((atD .leg l 0).start) sky (legR u (⟨(prX (atD .leg l (byS l t)) t), (prY (atD .leg l (byS l t)) t)⟩ : Spot) t (leftV u l t) (⟨⟨(prX (atD .leg l (byS l t)) t), (prY (atD .leg l (byS l t)) t)⟩, 0⟩ : Way)) (takeR u (⟨⟨(prX (atD .leg l (byS l t)) t), (prY (atD .leg l (byS l t)) t)⟩, 0⟩ : Way).to_ u.base)) != 0) with | true => an (.tup [.sl .leg ([] : List Leg), .i .i64 0, .i .i64 (whyR u ((atD .leg l 0).start) sky (legR u (⟨(prX (atD .leg l (byS l t)) t), (prY (atD .leg l (byS l t)) t)⟩ : Spot) t (leftV u l t) (⟨⟨(prX (atD .leg l (byS l t)) t), (prY (atD .leg l (byS l t)) t)⟩, 0⟩ : Way)) (takeR u (⟨⟨(prX (atD .leg l (byS l t)) t), (prY (atD .leg l (byS l t)) t)⟩, 0⟩ : Way).to_ u.base)), .i .i64 9]) | false => (match (c96 u && (decide (sky.length ≤ 1000000) && decide (route.length ≤ 1000000))) with | true => an (.tup [.sl .leg (plL u ((atD .leg l 0).start) sky route (⟨(prX (atD .leg l (byS l t)) t), (prY (atD .leg l (byS l t)) t)⟩ : Spot) t (leftV u l t)), .i .i64 (plA u ((atD .leg l 0).start) sky route (⟨(prX (atD .leg l (byS l t)) t), (prY (atD .leg l (byS l t)) t)⟩ : Spot) t (leftV u l t)), .i .i64 (plW u ((atD .leg l 0).start) sky route (⟨(prX (atD .leg l (byS l t)) t), (prY (atD .leg l (byS l t)) t)⟩ : Spot) t (leftV u l t)), .i .i64 (plE u ((atD .leg l 0).start) sky route (⟨(prX (atD .leg l (byS l t)) t), (prY (atD .leg l (byS l t)) t)⟩ : Spot) t (leftV u l t))]) | false => none)) | false => none) | false => (match (c96 u && (decide (sky.length ≤ 1000000) && decide (route.length ≤ 1000000))) with | true => an (.tup [.sl .leg (plL u ((atD .leg l 0).start) sky route (⟨(prX (atD .leg l (byS l t)) t), (prY (atD .leg l (byS l t)) t)⟩ : Spot) t (leftV u l t)), .i .i64 (plA u ((atD .leg l 0).start) sky route (⟨(prX (atD .leg l (byS l t)) t), (prY (atD .leg l (byS l t)) t)⟩ : Spot) t (leftV u l t)), .i .i64 (plW u ((atD .leg l 0).start) sky route (⟨(prX (atD .leg l (byS l t)) t), (prY (atD .leg l (byS l t)) t)⟩ : Spot) t (leftV u l t)), .i .i64 (plE u ((atD .leg l 0).start) sky route (⟨(prX (atD .leg l (byS l t)) t), (prY (atD .leg l (byS l t)) t)⟩ : Spot) t (leftV u l t))]) | false => none)) | false => none) | false => none) | false => none) | false => none))) | false => none)) | false => none) | false => none) | false => none) := by kernel_rfl
def F40 : List PV → Option (Bool × PV)
  | [.agg uL, .sl .leg l, .i .i64 t, .sl .way route, .sl .front sky] => (ETy.dec .unit uL).bind fun u => some ((decide (l.length ≤ 1000000) && (decide (sky.length ≤ 1000000) && decide (route.length ≤ 1000000))), .tup [.sl .leg (AgL u l t route sky), .i .i64 (AgA u l t route sky), .i .i64 (AgW u l t route sky), .i .i64 (AgE u l t route sky)])
  | _ => none
theorem s40 {gl : Gl} : Sum gl 40 F40 := by
  intro ps r h
  unfold F40 at h
  split at h
  · rename_i uL l t route sky
    obtain ⟨u, hu, h_u⟩ := Option.bind_eq_some_iff.1 h
    obtain rfl := dec_is (by simp) hu
    obtain ⟨hc, rfl⟩ := Prod.mk.inj (Option.some.inj h_u)
    refine call_by (K := noK) (L := noL) (bxs := []) (ows := []) (GOk.cons s20 (GOk.cons s36 (GOk.cons s22 (GOk.cons s62 (GOk.cons s67 (GOk.cons s68 (GOk.cons s30 (GOk.cons s78 (GOk.cons s63 (GOk.nil)))))))))) fn40 (noLoops (by kernel_rfl)) (by kernel_rfl) (evF_some ((e40 gl u l t route sky).trans ?_))
    simp only [Bool.and_eq_true] at hc
    rw [hc.1, hc.2.1, hc.2.2]
    unfold AgL AgA AgW AgE
    show (match gArg u l route sky with | true => _ | false => _) = _
    cases hA : gArg u l route sky with
    | true => rfl
    | false =>
      obtain ⟨hU, hL, hS, hR⟩ := gArg_ok hA
      rw [legsOk_pos hL, c96_ok hU]
      cases hB : atB l t with
      | false =>
        simp only [at_no hL hB]
        rfl
      | true =>
        obtain ⟨h1, h2, _, h3, h4, h5, _⟩ := at_ok hL hB
        obtain ⟨e1, e2, e3, e4, _, e6⟩ := place_eq h1 h2
        have h0 : inB 0 l.length = true := inB_nat (k := 0) (by have := of_decide_eq_true (legsOk_pos hL); omega)
        simp only [h3, h4, h5, e6, h0]
        show (match pLong route with | true => _ | false => (match ((route.length : Int) == 0) with | true => (match (agWhy u l t sky != 0) with | true => _ | false => _) | false => _)) = _
        unfold agStop
        cases pLong route with
        | true => rfl
        | false =>
          cases ((route.length : Int) == 0) with
          | false => rfl
          | true => cases (agWhy u l t sky != 0) <;> rfl
  · simp at h
end Go.Proofs.YtnbcmgdogohenaaDoor.Ev
