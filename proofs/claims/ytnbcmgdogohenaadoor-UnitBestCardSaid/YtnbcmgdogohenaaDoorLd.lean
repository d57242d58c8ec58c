/- Summaries of functions, printed by a program out of a list, and what is made of them. -/
import Derived.Test.YtnbcmgdogohenaaDoorLc
set_option linter.unusedVariables false
set_option linter.unusedSimpArgs false
set_option maxRecDepth 100000
namespace Go.Proofs.YtnbcmgdogohenaaDoor.Ev
open Go Go.RowKit Go.Proofs
theorem fn124 : FnOk 124 Tryd.f124 := ⟨by kernel_rfl, by kernel_rfl, by kernel_rfl, by kernel_rfl⟩
theorem eo124 (gl : Gl) (l : Leg) (t : Trip) : evO (cxo gl (mkG []) (mkO []) none [] rlT [] []) noK noL 1 Tryd.f124 [.ref 0 0, .agg [.i .i64 l.fr.x, .i .i64 l.fr.y, .i .i64 l.to_.x, .i .i64 l.to_.y, .i .i64 l.start, .i .i64 l.arrive, .i .i64 l.leave, .i .i64 l.fuel]] [some (.cells 103 [.s t.u.name, .i .i64 t.u.speed, .i .i64 t.u.fuel, .i .i64 t.u.burn, .i .i64 t.u.reserve, .i .i64 t.u.hours, .i .i64 t.u.sea, .i .i64 t.u.wind, .i .i64 t.u.base.x, .i .i64 t.u.base.y, .i .i64 t.u.margin, .i .i64 t.u.level, .sl .front t.sky, .i .i64 t.pos.x, .i .i64 t.pos.y, .i .i64 t.since, .i .i64 t.time, .i .i64 t.fuel]), none, none, none, none, none, none, none] = ao (.tup []) [some (.cells 103 [.s t.u.name, .i .i64 t.u.speed, .i .i64 t.u.fuel, .i .i64 t.u.burn, .i .i64 t.u.reserve, .i .i64 t.u.hours, .i .i64 t.u.sea, .i .i64 t.u.wind, .i .i64 t.u.base.x, .i .i64 t.u.base.y, .i .i64 t.u.margin, .i .i64 t.u.level, .sl .front t.sky, .i .i64 l.to_.x, .i .i64 l.to_.y, .i .i64 t.since, .i .i64 l.leave, .i .i64 l.fuel]), none, none, none, none, none, none, none] := by kernel_rfl
def FO124 : ObjF
  | [.ref 0 0, .agg lL], [some (.cells 103 tL), none, none, none, none, none, none, none] => (ETy.dec .leg lL).bind fun l => (Trip.dec tL).bind fun t => some (true, .tup [], [some (.cells 103 [.s t.u.name, .i .i64 t.u.speed, .i .i64 t.u.fuel, .i .i64 t.u.burn, .i .i64 t.u.reserve, .i .i64 t.u.hours, .i .i64 t.u.sea, .i .i64 t.u.wind, .i .i64 t.u.base.x, .i .i64 t.u.base.y, .i .i64 t.u.margin, .i .i64 t.u.level, .sl .front t.sky, .i .i64 l.to_.x, .i .i64 l.to_.y, .i .i64 t.since, .i .i64 l.leave, .i .i64 l.fuel]), none, none, none, none, none, none, none])
  | _, _ => none
theorem so124 {gl : Gl} : OSum gl 124 FO124 := by
  intro ps os r os2 h
  unfold FO124 at h
  split at h
  · rename_i lL tL
    obtain ⟨l, hl, h_l⟩ := Option.bind_eq_some_iff.1 h
    obtain rfl := dec_is (by simp) hl
    obtain ⟨t, ht, h_t⟩ := Option.bind_eq_some_iff.1 h_l
    obtain rfl := Trip.dec_is ht
    obtain ⟨hc, h2_⟩ := Prod.mk.inj (Option.some.inj h_t)
    obtain ⟨rfl, rfl⟩ := Prod.mk.inj h2_
    refine obj_by (K := noK) (L := noL) (bxs := []) (ows := []) (n0 := 1) (GOk.nil) (OOk.nil) fn124 (noLoops (by kernel_rfl)) (by kernel_rfl) ((eo124 gl l t).trans ?_)
    rfl
  · simp at h
theorem fn94 : FnOk 94 Tryd.f94 := ⟨by kernel_rfl, by kernel_rfl, by kernel_rfl, by kernel_rfl⟩
theorem eo94 (gl : Gl) (route : List Way) (t : Trip) : evO (cxo gl (mkG []) (mkO []) none [] rlT [] []) noK noL 1 Tryd.f94 [.ref 0 0, .sl .way route] [some (.cells 103 [.s t.u.name, .i .i64 t.u.speed, .i .i64 t.u.fuel, .i .i64 t.u.burn, .i .i64 t.u.reserve, .i .i64 t.u.hours, .i .i64 t.u.sea, .i .i64 t.u.wind, .i .i64 t.u.base.x, .i .i64 t.u.base.y, .i .i64 t.u.margin, .i .i64 t.u.level, .sl .front t.sky, .i .i64 t.pos.x, .i .i64 t.pos.y, .i .i64 t.since, .i .i64 t.time, .i .i64 t.fuel]), none, none, none, none, none, none, none] = ao (.fn (.func 123) [] [.ptr [.sl .way route] 0, .ptr [.ref 0 0] 0]) [some (.cells 103 [.s t.u.name, .i .i64 t.u.speed, .i .i64 t.u.fuel, .i .i64 t.u.burn, .i .i64 t.u.reserve, .i .i64 t.u.hours, .i .i64 t.u.sea, .i .i64 t.u.wind, .i .i64 t.u.base.x, .i .i64 t.u.base.y, .i .i64 t.u.margin, .i .i64 t.u.level, .sl .front t.sky, .i .i64 t.pos.x, .i .i64 t.pos.y, .i .i64 t.since, .i .i64 t.time, .i .i64 t.fuel]), none, none, none, none, none, none, none] := by kernel_rfl
def FO94 : ObjF
  | [.ref 0 0, .sl .way route], [some (.cells 103 tL), none, none, none, none, none, none, none] => (Trip.dec tL).bind fun t => some (true, .fn (.func 123) [] [.ptr [.sl .way route] 0, .ptr [.ref 0 0] 0], [some (.cells 103 [.s t.u.name, .i .i64 t.u.speed, .i .i64 t.u.fuel, .i .i64 t.u.burn, .i .i64 t.u.reserve, .i .i64 t.u.hours, .i .i64 t.u.sea, .i .i64 t.u.wind, .i .i64 t.u.base.x, .i .i64 t.u.base.y, .i .i64 t.u.margin, .i .i64 t.u.level, .sl .front t.sky, .i .i64 t.pos.x, .i .i64 t.pos.y, .i .i64 t.since, .i .i64 t.time, .i .i64 t.fuel]), none, none, none, none, none, none, none])
  | _, _ => none
theorem so94 {gl : Gl} : OSum gl 94 FO94 := by
  intro ps os r os2 h
  unfold FO94 at h
  split at h
  · rename_i route tL
    obtain ⟨t, ht, h_t⟩ := Option.bind_eq_some_iff.1 h
    obtain rfl := Trip.dec_is ht
    obtain ⟨hc, h2_⟩ := Prod.mk.inj (Option.some.inj h_t)
    obtain ⟨rfl, rfl⟩ := Prod.mk.inj h2_
    refine obj_by (K := noK) (L := noL) (bxs := []) (ows := []) (n0 := 1) (GOk.nil) (OOk.nil) fn94 (noLoops (by kernel_rfl)) (by kernel_rfl) ((eo94 gl route t).trans ?_)
    rfl
  · simp at h
end Go.Proofs.YtnbcmgdogohenaaDoor.Ev
/- Summaries of functions, printed by a program out of a list, and what is made of them. -/
namespace Go.Proofs.YtnbcmgdogohenaaDoor.Ev
open Go Go.RowKit Go.Proofs
theorem fnR61 : FnOkR 61 Tryd.f61 := ⟨by kernel_rfl, by kernel_rfl, by kernel_rfl, by kernel_rfl⟩
theorem eY61 (gl : Gl) (l : Leg) (why : Int) (t : Trip) (at0 : Int) (why0 : Int) (e0 : Int) (out : List Leg) : evY (cxo gl (mkG []) (mkO []) none [] rlT [] []) 5 Tryd.f61.ntmps 6 [15, 16] [(4, 1), (5, 2), (6, 3), (7, 4)] (rcA Tryd.f61) (rcB Tryd.f61) [.agg [.i .i64 l.fr.x, .i .i64 l.fr.y, .i .i64 l.to_.x, .i .i64 l.to_.y, .i .i64 l.start, .i .i64 l.arrive, .i .i64 l.leave, .i .i64 l.fuel], .i .i64 why] [some (.cells 103 [.s t.u.name, .i .i64 t.u.speed, .i .i64 t.u.fuel, .i .i64 t.u.burn, .i .i64 t.u.reserve, .i .i64 t.u.hours, .i .i64 t.u.sea, .i .i64 t.u.wind, .i .i64 t.u.base.x, .i .i64 t.u.base.y, .i .i64 t.u.margin, .i .i64 t.u.level, .sl .front t.sky, .i .i64 t.pos.x, .i .i64 t.pos.y, .i .i64 t.since, .i .i64 t.time, .i .i64 t.fuel]), some (.cells 39 [.own 6]), some (.cells 3 [.i .i64 at0]), some (.cells 3 [.i .i64 why0]), some (.cells 30 [.i .i64 e0]), some (.loop LB.ready), some (.row .leg 49 out), none] = (match (why != 0) with | true => ao (.b false) [some (.cells 103 [.s t.u.name, .i .i64 t.u.speed, .i .i64 t.u.fuel, .i .i64 t.u.burn, .i .i64 t.u.reserve, .i .i64 t.u.hours, .i .i64 t.u.sea, .i .i64 t.u.wind, .i .i64 t.u.base.x, .i .i64 t.u.base.y, .i .i64 t.u.margin, .i .i64 t.u.level, .sl .front t.sky, .i .i64 t.pos.x, .i .i64 t.pos.y, .i .i64 t.since, .i .i64 t.time, .i .i64 t.fuel]), some (.cells 39 [.own 6]), some (.cells 3 [.i .i64 (out.length : Int)]), some (.cells 3 [.i .i64 why]), some (.cells 30 [.i .i64 9]), some (.loop LB.ret), some (.row .leg 49 ([])), none] | false => (match (decide ((out.length + 1) * 64 ≤ 140737488355328)) with | true => ao (.b true) [some (.cells 103 [.s t.u.name, .i .i64 t.u.speed, .i .i64 t.u.fuel, .i .i64 t.u.burn, .i .i64 t.u.reserve, .i .i64 t.u.hours, .i .i64 t.u.sea, .i .i64 t.u.wind, .i .i64 t.u.base.x, .i .i64 t.u.base.y, .i .i64 t.u.margin, .i .i64 t.u.level, .sl .front t.sky, .i .i64 t.pos.x, .i .i64 t.pos.y, .i .i64 t.since, .i .i64 t.time, .i .i64 t.fuel]), some (.cells 39 [.own 6]), some (.cells 3 [.i .i64 at0]), some (.cells 3 [.i .i64 why0]), some (.cells 30 [.i .i64 e0]), some (.loop LB.ready), some (.row .leg 49 (out ++ ([l] : List Leg))), none] | false => none)) := by kernel_rfl
def FY61 : ObjF
  | [.agg lL, .i .i64 why], [some (.cells 103 tL), some (.cells 39 [.own 6]), some (.cells 3 [.i .i64 at0]), some (.cells 3 [.i .i64 why0]), some (.cells 30 [.i .i64 e0]), some (.loop lb), some (.row .leg 49 out), none] => (ETy.dec .leg lL).bind fun l => (Trip.dec tL).bind fun t => some (((LB.rdy lb) && (bif (why != 0) then true else (decide ((out.length + 1) * 64 ≤ 140737488355328)))), .b (bif (why != 0) then false else true), [some (.cells 103 [.s t.u.name, .i .i64 t.u.speed, .i .i64 t.u.fuel, .i .i64 t.u.burn, .i .i64 t.u.reserve, .i .i64 t.u.hours, .i .i64 t.u.sea, .i .i64 t.u.wind, .i .i64 t.u.base.x, .i .i64 t.u.base.y, .i .i64 t.u.margin, .i .i64 t.u.level, .sl .front t.sky, .i .i64 t.pos.x, .i .i64 t.pos.y, .i .i64 t.since, .i .i64 t.time, .i .i64 t.fuel]), some (.cells 39 [.own 6]), some (.cells 3 [.i .i64 (bif (why != 0) then (out.length : Int) else at0)]), some (.cells 3 [.i .i64 (bif (why != 0) then why else why0)]), some (.cells 30 [.i .i64 (bif (why != 0) then 9 else e0)]), some (.loop (bif (why != 0) then LB.ret else LB.ready)), some (.row .leg 49 (bif (why != 0) then ([]) else (out ++ ([l] : List Leg)))), none])
  | _, _ => none
theorem sY61 {gl : Gl} : YSum gl [(4, 1), (5, 2), (6, 3), (7, 4)] (rlOf [15, 16] (rcA Tryd.f61) (rcB Tryd.f61) Tryd.f61.ntmps) FY61 := by
  intro lq_ ps os r os2 h
  unfold FY61 at h
  split at h
  · rename_i lL why tL at0 why0 e0 lb out
    obtain ⟨l, hl, h_l⟩ := Option.bind_eq_some_iff.1 h
    obtain rfl := dec_is (by simp) hl
    obtain ⟨t, ht, h_t⟩ := Option.bind_eq_some_iff.1 h_l
    obtain rfl := Trip.dec_is ht
    obtain ⟨hc, h2_⟩ := Prod.mk.inj (Option.some.inj h_t)
    obtain ⟨rfl, rfl⟩ := Prod.mk.inj h2_
    rw [Bool.and_eq_true] at hc
    obtain ⟨hlb, hc⟩ := hc
    cases lb <;> first | exact Bool.noConfusion (show false = true from hlb) | skip
    refine yld_by (bxs := []) (ows := []) (n0 := 6) (lp := 5) (GOk.nil) (OOk.nil) (by kernel_rfl) (by kernel_rfl) (by kernel_rfl) (by kernel_rfl) (by kernel_rfl) (by kernel_rfl) (by intro p hp c q e; subst e; simp at hp) ((eY61 gl l why t at0 why0 e0 out).trans ?_) lq_
    revert hc
    generalize ((why != 0)) = b_
    cases b_
    · intro hc
      revert hc
      generalize ((decide ((out.length + 1) * 64 ≤ 140737488355328))) = b_
      cases b_
      · intro hc
        exact Bool.noConfusion (show false = true from hc)
      · intro hc
        rfl
    · intro hc
      rfl
  · simp at h
structure S123_1 where
  route : List Way
  n : Int
  i : Int
  trip : Trip
  at_ : Int
  why : Int
  e : Int
  lb : LB
  out : List Leg
def S123_1.enc (s : S123_1) : List PV := [.yld 5, .ptr [.ref 0 0] 0, .sl .way s.route, .i .i64 s.n, .i .i64 s.i]
def S123_1.encH (s : S123_1) : Heap := [some (.cells 103 [.s s.trip.u.name, .i .i64 s.trip.u.speed, .i .i64 s.trip.u.fuel, .i .i64 s.trip.u.burn, .i .i64 s.trip.u.reserve, .i .i64 s.trip.u.hours, .i .i64 s.trip.u.sea, .i .i64 s.trip.u.wind, .i .i64 s.trip.u.base.x, .i .i64 s.trip.u.base.y, .i .i64 s.trip.u.margin, .i .i64 s.trip.u.level, .sl .front s.trip.sky, .i .i64 s.trip.pos.x, .i .i64 s.trip.pos.y, .i .i64 s.trip.since, .i .i64 s.trip.time, .i .i64 s.trip.fuel]), some (.cells 39 [.own 6]), some (.cells 3 [.i .i64 s.at_]), some (.cells 3 [.i .i64 s.why]), some (.cells 30 [.i .i64 s.e]), some (.loop s.lb), some (.row .leg 49 s.out)]
def dec123_1 : List PV → Heap → Option S123_1
  | [.yld 5, .ptr [.ref 0 0] 0, .sl .way route_, .i .i64 n_, .i .i64 i_], [some (.cells 103 tripL), some (.cells 39 [.own 6]), some (.cells 3 [.i .i64 at__]), some (.cells 3 [.i .i64 why_]), some (.cells 30 [.i .i64 e_]), some (.loop lb_), some (.row .leg 49 out_)] => (Trip.dec tripL).bind fun trip_ => some ⟨route_, n_, i_, trip_, at__, why_, e_, lb_, out_⟩
  | _, _ => none
theorem dec_enc123_1 (vs : List PV) (hs : Heap) (s : S123_1) (h : dec123_1 vs hs = some s) : vs = s.enc ∧ hs = s.encH := by
  unfold dec123_1 at h
  split at h
  · obtain ⟨trip_, htrip, h_trip⟩ := Option.bind_eq_some_iff.1 h
    obtain rfl := Trip.dec_is htrip
    obtain rfl := Option.some.inj h_trip
    exact ⟨rfl, rfl⟩
  · simp at h
def st123_1 {ρ : Type} (s : S123_1) (next : S123_1 → Option ρ) (out : S123_1 × Bool → Option ρ) : Option ρ := (match (decide (s.i < s.n)) with | true => (match (inB s.i s.route.length) with | true => (match (c84 s.trip.u && c126 s.trip) with | true => (match ((LB.rdy s.lb) && (bif ((tryW s.trip (atD .way s.route s.i)) != 0) then true else (decide ((s.out.length + 1) * 64 ≤ 140737488355328)))) with | true => (match (bif (!(bif ((tryW s.trip (atD .way s.route s.i)) != 0) then false else true)) then true else ((tryW s.trip (atD .way s.route s.i)) != 0)) with | true => out (⟨s.route, s.n, s.i, s.trip, (bif ((tryW s.trip (atD .way s.route s.i)) != 0) then (s.out.length : Int) else s.at_), (bif ((tryW s.trip (atD .way s.route s.i)) != 0) then (tryW s.trip (atD .way s.route s.i)) else s.why), (bif ((tryW s.trip (atD .way s.route s.i)) != 0) then 9 else s.e), (bif ((tryW s.trip (atD .way s.route s.i)) != 0) then LB.ret else LB.ready), (bif ((tryW s.trip (atD .way s.route s.i)) != 0) then ([]) else (s.out ++ ([(tryL s.trip (atD .way s.route s.i))] : List Leg)))⟩, true) | false => next ⟨s.route, s.n, (wr (s.i + 1)), ⟨s.trip.u, s.trip.sky, (tryL s.trip (atD .way s.route s.i)).to_, s.trip.since, ((tryL s.trip (atD .way s.route s.i)).leave), ((tryL s.trip (atD .way s.route s.i)).fuel)⟩, (bif ((tryW s.trip (atD .way s.route s.i)) != 0) then (s.out.length : Int) else s.at_), (bif ((tryW s.trip (atD .way s.route s.i)) != 0) then (tryW s.trip (atD .way s.route s.i)) else s.why), (bif ((tryW s.trip (atD .way s.route s.i)) != 0) then 9 else s.e), (bif ((tryW s.trip (atD .way s.route s.i)) != 0) then LB.ret else LB.ready), (bif ((tryW s.trip (atD .way s.route s.i)) != 0) then ([]) else (s.out ++ ([(tryL s.trip (atD .way s.route s.i))] : List Leg)))⟩) | false => none) | false => none) | false => none) | false => out (s, false))
def out123_1 (k : Ex → List PV → Heap → Option R) (o : S123_1 × Bool) : Option R := match o.2 with
  | true => k .ret o.1.enc o.1.encH
  | false => k (.exit 0) o.1.enc o.1.encH
def fuel123_1 (s : S123_1) : Nat := s.route.length + 1
def K123 : Keep := fun _ => ([0, 2, 8, 9, 10], [0, 1, 2, 3, 4, 5, 6])
def L123 : Lam := loopL dec123_1 st123_1 fuel123_1 out123_1
noncomputable def b123_1 : Code := (loopsOf (bodyOf Tryd.f123)).getD 0 .skip
theorem step123_1 (j : Nat) (s : S123_1) (k : Ex → List PV → Heap → Option R) : unroll (cxo glU (mkG [(77, F77)]) (mkO [(124, 1, FO124)]) (some FY61) [(4, 1), (5, 2), (6, 3), (7, 4)] (rlOf [15, 16] (rcA Tryd.f61) (rcB Tryd.f61) Tryd.f61.ntmps) [] []) K123 L123 Tryd.f123.ntmps (Tryd.f123.ntmps + 16) b123_1 (j + 1) s.enc s.encH k = st123_1 s (fun s' => unroll (cxo glU (mkG [(77, F77)]) (mkO [(124, 1, FO124)]) (some FY61) [(4, 1), (5, 2), (6, 3), (7, 4)] (rlOf [15, 16] (rcA Tryd.f61) (rcB Tryd.f61) Tryd.f61.ntmps) [] []) K123 L123 Tryd.f123.ntmps (Tryd.f123.ntmps + 16) b123_1 j s'.enc s'.encH k) (out123_1 k) := by kernel_rfl
theorem l123 : LoopsOk (cxo glU (mkG [(77, F77)]) (mkO [(124, 1, FO124)]) (some FY61) [(4, 1), (5, 2), (6, 3), (7, 4)] (rlOf [15, 16] (rcA Tryd.f61) (rcB Tryd.f61) Tryd.f61.ntmps) [] []) K123 L123 Tryd.f123.ntmps (Tryd.f123.ntmps + 16) (loopsOf (bodyOf Tryd.f123)) := by
  refine loopsOk_list (l := [b123_1]) (by kernel_rfl) ?_
  exact List.forall_mem_cons.2 ⟨loopOk1 (fuel := fuel123_1) (enc := S123_1.enc) (encH := S123_1.encH) (fun vs hs k => by kernel_rfl) dec_enc123_1 (step123_1 ), (fun _ h => by simp at h)⟩
/-- The code's plan under way. -/
def tSt (t : Trip) (route : List Way) : Nat → Trip
  | 0 => t
  | k + 1 => ⟨(tSt t route k).u, (tSt t route k).sky, (tryL (tSt t route k) (atN .way route k)).to_, (tSt t route k).since, (tryL (tSt t route k) (atN .way route k)).leave, (tryL (tSt t route k) (atN .way route k)).fuel⟩
def tOut (t : Trip) (route : List Way) (out : List Leg) : Nat → List Leg
  | 0 => out
  | k + 1 => tOut t route out k ++ [tryL (tSt t route k) (atN .way route k)]
def tWhy (t : Trip) (route : List Way) (k : Nat) : Int := tryW (tSt t route k) (atN .way route k)
def tStop (t : Trip) (route : List Way) : Option Nat := (List.range' 0 route.length).find? fun k => tWhy t route k != 0
def tEnd (t : Trip) (route : List Way) : Trip := match tStop t route with
  | some j => tSt t route j
  | none => tSt t route route.length
def tAt (t : Trip) (route : List Way) (out : List Leg) (d : Int) : Int := match tStop t route with
  | some j => (tOut t route out j).length
  | none => d
def tWh (t : Trip) (route : List Way) (d : Int) : Int := match tStop t route with
  | some j => tWhy t route j
  | none => d
def tE (t : Trip) (route : List Way) (d : Int) : Int := match tStop t route with
  | some _ => 9
  | none => d
def tLb (t : Trip) (route : List Way) : LB := match tStop t route with
  | some _ => .ret
  | none => .ready
def tRow (t : Trip) (route : List Way) (out : List Leg) : List Leg := match tStop t route with
  | some _ => []
  | none => tOut t route out route.length
theorem tSt_u (t : Trip) (route : List Way) : ∀ k, (tSt t route k).u = t.u ∧ (tSt t route k).sky = t.sky ∧ (tSt t route k).since = t.since
  | 0 => ⟨rfl, rfl, rfl⟩
  | k + 1 => tSt_u t route k
theorem tOut_len (t : Trip) (route : List Way) (out : List Leg) : ∀ k, (tOut t route out k).length = out.length + k
  | 0 => rfl
  | k + 1 => by rw [tOut, List.length_append, tOut_len t route out k]; rfl
theorem loop123 (t : Trip) (route : List Way) (at0 why0 e0 : Int) (out : List Leg) (h1 : (c84 t.u && c126 t) = true) (h2 : route.length ≤ 1000000) (h3 : out.length ≤ 1000000) :
    (iter st123_1 (fuel123_1 (⟨route, (route.length : Int), 0, t, at0, why0, e0, LB.ready, out⟩ : S123_1)) (⟨route, (route.length : Int), 0, t, at0, why0, e0, LB.ready, out⟩ : S123_1) fun o1 => (match o1.2 with | true => ao (.tup []) [some (.cells 103 [.s o1.1.trip.u.name, .i .i64 o1.1.trip.u.speed, .i .i64 o1.1.trip.u.fuel, .i .i64 o1.1.trip.u.burn, .i .i64 o1.1.trip.u.reserve, .i .i64 o1.1.trip.u.hours, .i .i64 o1.1.trip.u.sea, .i .i64 o1.1.trip.u.wind, .i .i64 o1.1.trip.u.base.x, .i .i64 o1.1.trip.u.base.y, .i .i64 o1.1.trip.u.margin, .i .i64 o1.1.trip.u.level, .sl .front o1.1.trip.sky, .i .i64 o1.1.trip.pos.x, .i .i64 o1.1.trip.pos.y, .i .i64 o1.1.trip.since, .i .i64 o1.1.trip.time, .i .i64 o1.1.trip.fuel]), some (.cells 39 [.own 6]), some (.cells 3 [.i .i64 o1.1.at_]), some (.cells 3 [.i .i64 o1.1.why]), some (.cells 30 [.i .i64 o1.1.e]), some (.loop o1.1.lb), some (.row .leg 49 o1.1.out), none] | false => ao (.tup []) [some (.cells 103 [.s o1.1.trip.u.name, .i .i64 o1.1.trip.u.speed, .i .i64 o1.1.trip.u.fuel, .i .i64 o1.1.trip.u.burn, .i .i64 o1.1.trip.u.reserve, .i .i64 o1.1.trip.u.hours, .i .i64 o1.1.trip.u.sea, .i .i64 o1.1.trip.u.wind, .i .i64 o1.1.trip.u.base.x, .i .i64 o1.1.trip.u.base.y, .i .i64 o1.1.trip.u.margin, .i .i64 o1.1.trip.u.level, .sl .front o1.1.trip.sky, .i .i64 o1.1.trip.pos.x, .i .i64 o1.1.trip.pos.y, .i .i64 o1.1.trip.since, .i .i64 o1.1.trip.time, .i .i64 o1.1.trip.fuel]), some (.cells 39 [.own 6]), some (.cells 3 [.i .i64 o1.1.at_]), some (.cells 3 [.i .i64 o1.1.why]), some (.cells 30 [.i .i64 o1.1.e]), some (.loop o1.1.lb), some (.row .leg 49 o1.1.out), none])) = ao (.tup []) [some (.cells 103 [.s ((tEnd t route).u.name), .i .i64 ((tEnd t route).u.speed), .i .i64 ((tEnd t route).u.fuel), .i .i64 ((tEnd t route).u.burn), .i .i64 ((tEnd t route).u.reserve), .i .i64 ((tEnd t route).u.hours), .i .i64 ((tEnd t route).u.sea), .i .i64 ((tEnd t route).u.wind), .i .i64 ((tEnd t route).u.base.x), .i .i64 ((tEnd t route).u.base.y), .i .i64 ((tEnd t route).u.margin), .i .i64 ((tEnd t route).u.level), .sl .front ((tEnd t route).sky), .i .i64 ((tEnd t route).pos.x), .i .i64 ((tEnd t route).pos.y), .i .i64 ((tEnd t route).since), .i .i64 ((tEnd t route).time), .i .i64 ((tEnd t route).fuel)]), some (.cells 39 [.own 6]), some (.cells 3 [.i .i64 (tAt t route out at0)]), some (.cells 3 [.i .i64 (tWh t route why0)]), some (.cells 30 [.i .i64 (tE t route e0)]), some (.loop (tLb t route)), some (.row .leg 49 (tRow t route out)), none] := by
  refine (iter_all (step := st123_1) (F := fun k => (⟨route, (route.length : Int), (k : Int), tSt t route k, at0, why0, e0, .ready, tOut t route out k⟩ : S123_1)) (stop := fun k => bif tWhy t route k != 0 then some ((⟨route, (route.length : Int), (k : Int), tSt t route k, ((tOut t route out k).length : Int), tWhy t route k, 9, .ret, []⟩ : S123_1), true) else none) (last := ((⟨route, (route.length : Int), (route.length : Int), tSt t route route.length, at0, why0, e0, .ready, tOut t route out route.length⟩ : S123_1), false)) route.length _ (fun k next hk => ?_) (fun next => ?_) _ (Nat.le_refl _) _ rfl).trans ?_
  · have h4 : decide (((tOut t route out k).length + 1) * 64 ≤ 140737488355328) = true := by rw [tOut_len]; exact decide_eq_true (by omega)
    have h5 : (c84 (tSt t route k).u && c126 (tSt t route k)) = true := by
      obtain ⟨e1, e2, _⟩ := tSt_u t route k
      unfold c126 at h1 ⊢
      rw [e1, e2]
      exact h1
    simp only [st123_1, decLt_nat hk, inB_nat hk, wr_succ (show k ≤ 1000000 by omega), atD, Int.toNat_natCast, h4, h5]
    rw [show tWhy t route k = tryW (tSt t route k) (atN .way route k) from rfl]
    generalize hb : (tryW (tSt t route k) (atN .way route k) != 0) = b_
    cases b_ with
    | true =>
      simp only [cond_true, LB.rdy, Bool.and_self, Bool.not_false]
      try rfl
    | false =>
      simp only [cond_false, LB.rdy, Bool.and_self, Bool.not_true]
      try rfl
  · simp only [st123_1, decLt_self]
  · rw [runTo_first (fun k => tWhy t route k != 0) (fun k => ((⟨route, (route.length : Int), (k : Int), tSt t route k, ((tOut t route out k).length : Int), tWhy t route k, 9, .ret, []⟩ : S123_1), true)) route.length 0 (fun j _ _ => rfl)]
    unfold tEnd tAt tWh tE tLb tRow
    rw [show (List.range' 0 route.length).find? (fun k => tWhy t route k != 0) = tStop t route from rfl]
    cases tStop t route with
    | some k => rfl
    | none => rfl
theorem fn123 : FnOk 123 Tryd.f123 := ⟨by kernel_rfl, by kernel_rfl, by kernel_rfl, by kernel_rfl⟩
theorem eo123 (route : List Way) (t : Trip) (at0 : Int) (why0 : Int) (e0 : Int) (out : List Leg) : evO (cxo glU (mkG [(77, F77)]) (mkO [(124, 1, FO124)]) (some FY61) [(4, 1), (5, 2), (6, 3), (7, 4)] (rlOf [15, 16] (rcA Tryd.f61) (rcB Tryd.f61) Tryd.f61.ntmps) [] []) K123 L123 7 Tryd.f123 [.yld 5, .ptr [.sl .way route] 0, .ptr [.ref 0 0] 0] [some (.cells 103 [.s t.u.name, .i .i64 t.u.speed, .i .i64 t.u.fuel, .i .i64 t.u.burn, .i .i64 t.u.reserve, .i .i64 t.u.hours, .i .i64 t.u.sea, .i .i64 t.u.wind, .i .i64 t.u.base.x, .i .i64 t.u.base.y, .i .i64 t.u.margin, .i .i64 t.u.level, .sl .front t.sky, .i .i64 t.pos.x, .i .i64 t.pos.y, .i .i64 t.since, .i .i64 t.time, .i .i64 t.fuel]), some (.cells 39 [.own 6]), some (.cells 3 [.i .i64 at0]), some (.cells 3 [.i .i64 why0]), some (.cells 30 [.i .i64 e0]), some (.loop LB.ready), some (.row .leg 49 out), none] = (iter st123_1 (fuel123_1 (⟨route, (route.length : Int), 0, t, at0, why0, e0, LB.ready, out⟩ : S123_1)) (⟨route, (route.length : Int), 0, t, at0, why0, e0, LB.ready, out⟩ : S123_1) fun o1 => (match o1.2 with | true => ao (.tup []) [some (.cells 103 [.s o1.1.trip.u.name, .i .i64 o1.1.trip.u.speed, .i .i64 o1.1.trip.u.fuel, .i .i64 o1.1.trip.u.burn, .i .i64 o1.1.trip.u.reserve, .i .i64 o1.1.trip.u.hours, .i .i64 o1.1.trip.u.sea, .i .i64 o1.1.trip.u.wind, .i .i64 o1.1.trip.u.base.x, .i .i64 o1.1.trip.u.base.y, .i .i64 o1.1.trip.u.margin, .i .i64 o1.1.trip.u.level, .sl .front o1.1.trip.sky, .i .i64 o1.1.trip.pos.x, .i .i64 o1.1.trip.pos.y, .i .i64 o1.1.trip.since, .i .i64 o1.1.trip.time, .i .i64 o1.1.trip.fuel]), some (.cells 39 [.own 6]), some (.cells 3 [.i .i64 o1.1.at_]), some (.cells 3 [.i .i64 o1.1.why]), some (.cells 30 [.i .i64 o1.1.e]), some (.loop o1.1.lb), some (.row .leg 49 o1.1.out), none] | false => ao (.tup []) [some (.cells 103 [.s o1.1.trip.u.name, .i .i64 o1.1.trip.u.speed, .i .i64 o1.1.trip.u.fuel, .i .i64 o1.1.trip.u.burn, .i .i64 o1.1.trip.u.reserve, .i .i64 o1.1.trip.u.hours, .i .i64 o1.1.trip.u.sea, .i .i64 o1.1.trip.u.wind, .i .i64 o1.1.trip.u.base.x, .i .i64 o1.1.trip.u.base.y, .i .i64 o1.1.trip.u.margin, .i .i64 o1.1.trip.u.level, .sl .front o1.1.trip.sky, .i .i64 o1.1.trip.pos.x, .i .i64 o1.1.trip.pos.y, .i .i64 o1.1.trip.since, .i .i64 o1.1.trip.time, .i .i64 o1.1.trip.fuel]), some (.cells 39 [.own 6]), some (.cells 3 [.i .i64 o1.1.at_]), some (.cells 3 [.i .i64 o1.1.why]), some (.cells 30 [.i .i64 o1.1.e]), some (.loop o1.1.lb), some (.row .leg 49 o1.1.out), none])) := by kernel_rfl
def FO123 : ObjF
  | [.yld 5, .ptr [.sl .way route] 0, .ptr [.ref 0 0] 0], [some (.cells 103 tL), some (.cells 39 [.own 6]), some (.cells 3 [.i .i64 at0]), some (.cells 3 [.i .i64 why0]), some (.cells 30 [.i .i64 e0]), some (.loop LB.ready), some (.row .leg 49 out), none] => (Trip.dec tL).bind fun t => some (((c84 t.u && c126 t) && (decide (route.length ≤ 1000000) && decide (out.length ≤ 1000000))), .tup [], [some (.cells 103 [.s ((tEnd t route).u.name), .i .i64 ((tEnd t route).u.speed), .i .i64 ((tEnd t route).u.fuel), .i .i64 ((tEnd t route).u.burn), .i .i64 ((tEnd t route).u.reserve), .i .i64 ((tEnd t route).u.hours), .i .i64 ((tEnd t route).u.sea), .i .i64 ((tEnd t route).u.wind), .i .i64 ((tEnd t route).u.base.x), .i .i64 ((tEnd t route).u.base.y), .i .i64 ((tEnd t route).u.margin), .i .i64 ((tEnd t route).u.level), .sl .front ((tEnd t route).sky), .i .i64 ((tEnd t route).pos.x), .i .i64 ((tEnd t route).pos.y), .i .i64 ((tEnd t route).since), .i .i64 ((tEnd t route).time), .i .i64 ((tEnd t route).fuel)]), some (.cells 39 [.own 6]), some (.cells 3 [.i .i64 (tAt t route out at0)]), some (.cells 3 [.i .i64 (tWh t route why0)]), some (.cells 30 [.i .i64 (tE t route e0)]), some (.loop (tLb t route)), some (.row .leg 49 (tRow t route out)), none])
  | _, _ => none
theorem so123 : TSum glU [(4, 1), (5, 2), (6, 3), (7, 4)] (rlOf [15, 16] (rcA Tryd.f61) (rcB Tryd.f61) Tryd.f61.ntmps) 123 FO123 := by
  intro ps os r os2 h
  unfold FO123 at h
  split at h
  · rename_i route tL at0 why0 e0 out
    obtain ⟨t, ht, h_t⟩ := Option.bind_eq_some_iff.1 h
    obtain rfl := Trip.dec_is ht
    obtain ⟨hc, h2_⟩ := Prod.mk.inj (Option.some.inj h_t)
    obtain ⟨rfl, rfl⟩ := Prod.mk.inj h2_
    refine objT_by (K := K123) (L := L123) (bxs := []) (ows := []) (n0 := 7) (GOk.cons s77 (GOk.nil)) (OOk.cons so124 (OOk.nil)) (YOk.of sY61) fn123 (l123 ) (by kernel_rfl) ((eo123 route t at0 why0 e0 out).trans ?_)
    simp only [Bool.and_eq_true] at hc
    exact loop123 t route at0 why0 e0 out (by rw [Bool.and_eq_true]; exact hc.1) (of_decide_eq_true hc.2.1) (of_decide_eq_true hc.2.2)
  · simp at h
end Go.Proofs.YtnbcmgdogohenaaDoor.Ev
/- Summaries of functions, printed by a program out of a list, and what is made of them. -/
namespace Go.Proofs.YtnbcmgdogohenaaDoor.Ev
open Go Go.RowKit Go.Proofs
def homeT (t : Trip) : Leg := ⟨t.pos, t.u.base, t.time, wr (t.time + takeS t.u t.pos t.u.base), wr (t.time + takeS t.u t.pos t.u.base), wr (t.fuel - burnS t.u (takeS t.u t.pos t.u.base))⟩
def tPL (t : Trip) (route : List Way) : List Leg := match tStop t route with
  | some _ => []
  | none => tOut t route [] route.length ++ [homeT (tEnd t route)]
noncomputable def L61 : Lam := fun b T H k => match b with
  | .rangeFunc _ _ _ _ => rangeL (cxo glU (mkG [(84, F84), (95, F95)]) (mkO [(94, 1, FO94)]) none [] rlT [] []) FO123 [(4, 1), (5, 2), (6, 3), (7, 4)] [(12, 33)] 34 123 [0, 12, 13, 14, 15, 34, 33] (T.getD 14 .junk) T H k
  | _ => none
theorem eo61 (route : List Way) (t : Trip) : evO (cxo glU (mkG [(84, F84), (95, F95)]) (mkO [(94, 1, FO94)]) none [] rlT [] []) noK (L61) 1 Tryd.f61 [.ref 0 0, .sl .way route] [some (.cells 103 [.s t.u.name, .i .i64 t.u.speed, .i .i64 t.u.fuel, .i .i64 t.u.burn, .i .i64 t.u.reserve, .i .i64 t.u.hours, .i .i64 t.u.sea, .i .i64 t.u.wind, .i .i64 t.u.base.x, .i .i64 t.u.base.y, .i .i64 t.u.margin, .i .i64 t.u.level, .sl .front t.sky, .i .i64 t.pos.x, .i .i64 t.pos.y, .i .i64 t.since, .i .i64 t.time, .i .i64 t.fuel]), none, none, none, none, none, none, none] = (match ((c84 t.u && c126 t) && (decide (route.length ≤ 1000000) && decide (([] : List Leg).length ≤ 1000000))) with | true => (lbEx (tLb t route) (match (c84 ((tEnd t route).u)) with | true => (match c95 with | true => (match (decide ((((tRow t route ([] : List Leg)).length) + 1) * 64 ≤ 140737488355328)) with | true => ao (.tup [.own 1, .i .i64 (-1), .i .i64 0, .i .i64 0]) [some (.cells 103 [.s ((tEnd t route).u.name), .i .i64 ((tEnd t route).u.speed), .i .i64 ((tEnd t route).u.fuel), .i .i64 ((tEnd t route).u.burn), .i .i64 ((tEnd t route).u.reserve), .i .i64 ((tEnd t route).u.hours), .i .i64 ((tEnd t route).u.sea), .i .i64 ((tEnd t route).u.wind), .i .i64 ((tEnd t route).u.base.x), .i .i64 ((tEnd t route).u.base.y), .i .i64 ((tEnd t route).u.margin), .i .i64 ((tEnd t route).u.level), .sl .front ((tEnd t route).sky), .i .i64 ((tEnd t route).pos.x), .i .i64 ((tEnd t route).pos.y), .i .i64 ((tEnd t route).since), .i .i64 ((tEnd t route).time), .i .i64 ((tEnd t route).fuel)]), some (.row .leg 49 ((tRow t route ([] : List Leg)) ++ ([⟨(tEnd t route).pos, (tEnd t route).u.base, ((tEnd t route).time), (wr (((tEnd t route).time) + (takeS ((tEnd t route).u) ((tEnd t route).pos) ((tEnd t route).u.base)))), (wr (((tEnd t route).time) + (takeS ((tEnd t route).u) ((tEnd t route).pos) ((tEnd t route).u.base)))), (wr (((tEnd t route).fuel) - (burnS ((tEnd t route).u) (takeS ((tEnd t route).u) ((tEnd t route).pos) ((tEnd t route).u.base)))))⟩] : List Leg))), none, none, none, none, none, none] | false => none) | false => none) | false => none) (ao (.tup [.own 1, .i .i64 (tAt t route ([] : List Leg) 0), .i .i64 (tWh t route 0), .i .i64 (tE t route 0)]) [some (.cells 103 [.s ((tEnd t route).u.name), .i .i64 ((tEnd t route).u.speed), .i .i64 ((tEnd t route).u.fuel), .i .i64 ((tEnd t route).u.burn), .i .i64 ((tEnd t route).u.reserve), .i .i64 ((tEnd t route).u.hours), .i .i64 ((tEnd t route).u.sea), .i .i64 ((tEnd t route).u.wind), .i .i64 ((tEnd t route).u.base.x), .i .i64 ((tEnd t route).u.base.y), .i .i64 ((tEnd t route).u.margin), .i .i64 ((tEnd t route).u.level), .sl .front ((tEnd t route).sky), .i .i64 ((tEnd t route).pos.x), .i .i64 ((tEnd t route).pos.y), .i .i64 ((tEnd t route).since), .i .i64 ((tEnd t route).time), .i .i64 ((tEnd t route).fuel)]), some (.row .leg 49 (tRow t route ([] : List Leg))), none, none, none, none, none, none])) | false => none) := by kernel_rfl
def FO61 : ObjF
  | [.ref 0 0, .sl .way route], [some (.cells 103 tL), none, none, none, none, none, none, none] => (Trip.dec tL).bind fun t => some (((c84 t.u && c126 t) && decide (route.length ≤ 1000000)), .tup [.own 1, .i .i64 (tAt t route [] (-1)), .i .i64 (tWh t route 0), .i .i64 (tE t route 0)], [some (.cells 103 [.s ((tEnd t route).u.name), .i .i64 ((tEnd t route).u.speed), .i .i64 ((tEnd t route).u.fuel), .i .i64 ((tEnd t route).u.burn), .i .i64 ((tEnd t route).u.reserve), .i .i64 ((tEnd t route).u.hours), .i .i64 ((tEnd t route).u.sea), .i .i64 ((tEnd t route).u.wind), .i .i64 ((tEnd t route).u.base.x), .i .i64 ((tEnd t route).u.base.y), .i .i64 ((tEnd t route).u.margin), .i .i64 ((tEnd t route).u.level), .sl .front ((tEnd t route).sky), .i .i64 ((tEnd t route).pos.x), .i .i64 ((tEnd t route).pos.y), .i .i64 ((tEnd t route).since), .i .i64 ((tEnd t route).time), .i .i64 ((tEnd t route).fuel)]), some (.row .leg 49 (tPL t route)), none, none, none, none, none, none])
  | _, _ => none
theorem so61 : OSum glU 61 FO61 := by
  intro ps os r os2 h
  unfold FO61 at h
  split at h
  · rename_i route tL
    obtain ⟨t, ht, h_t⟩ := Option.bind_eq_some_iff.1 h
    obtain rfl := Trip.dec_is ht
    obtain ⟨hc, h2_⟩ := Prod.mk.inj (Option.some.inj h_t)
    obtain ⟨rfl, rfl⟩ := Prod.mk.inj h2_
    refine obj_byR (K := noK) (L := (L61)) (bxs := []) (ows := []) (n0 := 1) (GOk.cons s84 (GOk.cons s95 (GOk.nil))) (OOk.cons so94 (OOk.nil)) fnR61 (noLoops (by kernel_rfl)) (rf_by (lp := 34) (f := 123) (x := 14) (params := [15, 16]) (GOk.cons s84 (GOk.cons s95 (GOk.nil))) (OOk.cons so94 (OOk.nil)) so123 (by kernel_rfl) (fun T H k => rfl)) (by kernel_rfl) ((eo61 route t).trans ?_)
    rw [Bool.and_eq_true] at hc
    have hA : ((c84 t.u && c126 t) && (decide (route.length ≤ 1000000) && decide (([] : List Leg).length ≤ 1000000))) = true := by rw [hc.1, hc.2]; rfl
    rw [hA]
    have hu : (tEnd t route).u = t.u := by unfold tEnd; cases tStop t route <;> exact (tSt_u t route _).1
    have h84 : c84 (tEnd t route).u = true := by rw [hu]; exact (Bool.and_eq_true _ _ ▸ hc.1).1
    show lbEx (tLb t route) _ _ = _
    rw [h84]
    cases hS : tStop t route with
    | some j =>
      have e : tLb t route = .ret := by unfold tLb; rw [hS]
      rw [e]
      unfold tAt tWh tE tRow tPL
      rw [hS]
      rfl
    | none =>
      have e : tLb t route = .ready := by unfold tLb; rw [hS]
      have h4 : decide (((tRow t route []).length + 1) * 64 ≤ 140737488355328) = true := by
        have := of_decide_eq_true hc.2
        unfold tRow
        rw [hS]
        simp only [tOut_len]
        exact decide_eq_true (by simp; omega)
      rw [e]
      show (match decide (((tRow t route []).length + 1) * 64 ≤ 140737488355328) with | true => _ | false => _) = _
      rw [h4]
      unfold tAt tWh tE tRow tPL
      rw [hS]
      rfl
  · simp at h
end Go.Proofs.YtnbcmgdogohenaaDoor.Ev
/- The code's plan and the document's: they are the same. -/
namespace Go.Proofs.YtnbcmgdogohenaaDoor.Ev
open Go Go.RowKit Go.Proofs

/-- What a valid unit has. -/
structure UnitP (u : Unit') : Prop where
  s1 : 1 ≤ u.speed
  s2 : u.speed ≤ 1000000
  b0 : 0 ≤ u.burn
  b1 : u.burn ≤ 1048576
  f0 : 0 ≤ u.fuel
  f1 : u.fuel ≤ 1073741824
  r0 : 0 ≤ u.reserve
  r1 : u.reserve ≤ u.fuel
  m0 : 0 ≤ u.margin
  m1 : u.margin ≤ 100000
  h0 : 0 ≤ u.hours
  h1 : u.hours ≤ 1073741824
  base : placed u.base = true
  name : nameS u.name = true
theorem unitOk_P {u : Unit'} (h : unitOk u = true) : UnitP u := by
  unfold unitOk at h
  simp only [bif_f, Bool.and_eq_true, In_eq, within_iff, Time_eq, Place_eq, timed_iff] at h
  obtain ⟨⟨⟨⟨⟨hn, hs, hb⟩, hf, hr⟩, ⟨⟨hse, hw⟩, hm⟩, hl⟩, ht⟩, hp⟩ := h
  exact ⟨hs.1, hs.2, hb.1, hb.2, hf.1, hf.2, hr.1, hr.2, hm.1, hm.2, ht.1, ht.2, hp, hn⟩
theorem sq_le {a A : Int} (h : -A ≤ a ∧ a ≤ A) : 0 ≤ a * a ∧ a * a ≤ A * A := by
  constructor
  · rcases Int.le_total 0 a with h0 | h0
    · exact Int.mul_nonneg h0 h0
    · have := Int.mul_nonneg (show 0 ≤ -a by omega) (show 0 ≤ -a by omega)
      rwa [Int.neg_mul_neg] at this
  · rcases Int.le_total 0 a with h0 | h0
    · exact Int.mul_le_mul h.2 h.2 h0 (by omega)
    · have := Int.mul_le_mul (show -a ≤ A by omega) (show -a ≤ A by omega) (by omega) (by omega)
      rwa [Int.neg_mul_neg] at this
theorem sq_eq {a b : Spot} (ha : placed a = true) (hb : placed b = true) : sq a b = (a.x - b.x) * (a.x - b.x) + (a.y - b.y) * (a.y - b.y) ∧ 0 ≤ sq a b ∧ sq a b ≤ 2 ^ 52 := by
  have h1 := (placed_iff a).1 ha
  have h2 := (placed_iff b).1 hb
  have hx := sq_le (a := a.x - b.x) (A := 33554432) (by omega)
  have hy := sq_le (a := a.y - b.y) (A := 33554432) (by omega)
  have e : sq a b = (a.x - b.x) * (a.x - b.x) + (a.y - b.y) * (a.y - b.y) := by
    unfold sq
    rw [wr_small (x := a.x - b.x) (by omega) (by omega), wr_small (x := a.y - b.y) (by omega) (by omega), wr_small (x := (a.x - b.x) * (a.x - b.x)) (by omega) (by omega), wr_small (x := (a.y - b.y) * (a.y - b.y)) (by omega) (by omega), wr_small (by omega) (by omega)]
  refine ⟨e, ?_, ?_⟩ <;> rw [e] <;> omega
theorem way_bound {a b : Spot} (ha : placed a = true) (hb : placed b = true) : wayP (sq a b) = wayR (sq a b) ∧ 0 ≤ wayR (sq a b) ∧ wayR (sq a b) ≤ 67108864 := by
  obtain ⟨_, h0, h1⟩ := sq_eq ha hb
  obtain ⟨hw, hu⟩ := wayR_root h1
  refine ⟨way_same h0 h1, hw.1, by have : (2 : Int) ^ 26 = 67108864 := by decide
                                   omega⟩
theorem ceil_eq {n b : Int} (hn : 0 ≤ n ∧ n ≤ 2 ^ 60) (hb : 1 ≤ b ∧ b ≤ 1000000) : v72 n b = (n + b - 1) / b ∧ 0 ≤ v72 n b ∧ v72 n b ≤ n := by
  have e : v72 n b = (n + b - 1) / b := by
    unfold v72
    have h60 : (2 : Int) ^ 60 = 1152921504606846976 := by decide
    rw [wr_small (x := n + b) (by omega) (by omega), wr_small (x := n + b - 1) (by omega) (by omega), Int.tdiv_eq_ediv_of_nonneg (by omega)]
    have h1 : 0 ≤ (n + b - 1) / b := Int.ediv_nonneg (by omega) (by omega)
    have h2 : (n + b - 1) / b ≤ n + b - 1 := Int.ediv_le_self _ (by omega)
    rw [wr_small (by omega) (by omega)]
  refine ⟨e, ?_, ?_⟩ <;> rw [e]
  · exact Int.ediv_nonneg (by omega) (by omega)
  · have : n + b - 1 < (n + 1) * b := by
      have : (n + 1) * b = n * b + b := by rw [Int.add_mul, Int.one_mul]
      have h3 : n * 1 ≤ n * b := Int.mul_le_mul_of_nonneg_left hb.1 hn.1
      omega
    have := Int.ediv_lt_of_lt_mul (by omega) this
    omega
theorem takes_eq {u : Unit'} (hu : UnitP u) {a b : Spot} (ha : placed a = true) (hb : placed b = true) : takeS u a b = takeR u a b ∧ 0 ≤ takeR u a b ∧ takeR u a b ≤ 274877906944 ∧ takeR u a b = (wayR (sq a b) * 3600 + u.speed - 1) / u.speed := by
  obtain ⟨h1, h2, h3⟩ := way_bound ha hb
  have hw : wr (wayR (sq a b) * 3600) = wayR (sq a b) * 3600 := wr_small (by omega) (by omega)
  have e : takeS u a b = takeR u a b := by
    unfold takeS takeR
    rw [h1]
    rfl
  have h60 : (2 : Int) ^ 60 = 1152921504606846976 := by decide
  have hc := ceil_eq (n := wayR (sq a b) * 3600) (b := u.speed) (by omega) ⟨hu.s1, hu.s2⟩
  refine ⟨e, ?_, ?_, ?_⟩ <;> unfold takeR <;> rw [hw]
  · exact hc.2.1
  · omega
  · exact hc.1
theorem burn_same (u : Unit') (t : Int) : burnS u t = burnR u t := rfl
theorem find_first (p q : Nat → Bool) : ∀ (d k : Nat), (∀ i, k ≤ i → i < k + d → (∀ j, k ≤ j → j < i → q j = false) → p i = q i) → (List.range' k d).find? p = (List.range' k d).find? q
  | 0, k, h => rfl
  | d + 1, k, h => by
    rw [List.range'_succ, List.find?_cons, List.find?_cons, h k (Nat.le_refl _) (by omega) (fun j h1 h2 => by omega)]
    cases hq : q k with
    | true => rfl
    | false =>
      refine find_first p q d (k + 1) fun i h1 h2 h3 => h i (by omega) (by omega) fun j h4 h5 => ?_
      rcases Nat.lt_or_ge k j with h6 | h6
      · exact h3 j (by omega) h5
      · have : j = k := by omega
        subst this; exact hq

/-- The code's state is the document's. -/
structure SameAt (t : Trip) (g : GoSt) (out : List Leg) : Prop where
  pos : t.pos = g.pos
  time : t.time = g.time
  fuel : t.fuel = g.fuel
  out : out = g.out
  placed : placed g.pos = true
  t0 : 0 ≤ g.time
  t1 : g.time ≤ 1073741824
section
variable {t : Trip} {route : List Way}
theorem step_same (hu : UnitP t.u) (hs : skyOk t.sky = true) (hr : ∀ w ∈ route, wayOk w = true) {k : Nat} (hk : k < route.length)
    (h : SameAt (tSt t route k) (goSt t.u route t.pos t.time t.fuel k) (tOut t route [] k)) :
    tryL (tSt t route k) (atN .way route k) = goLeg t.u route t.pos t.time t.fuel k ∧ tWhy t route k = goWhy t.u t.since t.sky route t.pos t.time t.fuel k ∧
    (goWhy t.u t.since t.sky route t.pos t.time t.fuel k = 0 → SameAt (tSt t route (k + 1)) (goSt t.u route t.pos t.time t.fuel (k + 1)) (tOut t route [] (k + 1))) := by
  obtain ⟨e1, e2, e3⟩ := tSt_u t route k
  have hw := hr _ (atN_nat (T := .way) hk ▸ List.getElem_mem hk)
  unfold wayOk at hw
  rw [bif_f, Bool.and_eq_true, timed_iff] at hw
  obtain ⟨hp, hst0, hst1⟩ := hw
  have htk := takes_eq hu h.placed hp
  have hbk := takes_eq hu hp hu.base
  have eL : tryL (tSt t route k) (atN .way route k) = goLeg t.u route t.pos t.time t.fuel k := by
    unfold tryL goLeg legR
    rw [e1, h.pos, h.time, h.fuel, htk.1]
    rfl
  have t0 := h.t0
  have t1 := h.t1
  have ha : (goLeg t.u route t.pos t.time t.fuel k).arrive = (goSt t.u route t.pos t.time t.fuel k).time + takeR t.u (goSt t.u route t.pos t.time t.fuel k).pos (atN .way route k).to_ := wr_small (by omega) (by omega)
  have hl : (goLeg t.u route t.pos t.time t.fuel k).leave = (goLeg t.u route t.pos t.time t.fuel k).arrive + (atN .way route k).stay := by
    show wr (wr _ + _) = wr _ + _
    rw [show wr ((goSt t.u route t.pos t.time t.fuel k).time + takeR t.u (goSt t.u route t.pos t.time t.fuel k).pos (atN .way route k).to_) = (goLeg t.u route t.pos t.time t.fuel k).arrive from rfl, ha]
    exact wr_small (by omega) (by omega)
  have hwr : wr ((goLeg t.u route t.pos t.time t.fuel k).leave + takeR t.u (atN .way route k).to_ t.u.base) = (goLeg t.u route t.pos t.time t.fuel k).leave + takeR t.u (atN .way route k).to_ t.u.base := wr_small (by omega) (by omega)
  have eW : tWhy t route k = goWhy t.u t.since t.sky route t.pos t.time t.fuel k := by
    unfold tWhy tryW goWhy whyR
    rw [eL, e1, hbk.1]
    have r1 : lateV (goLeg t.u route t.pos t.time t.fuel k) (takeR t.u (atN .way route k).to_ t.u.base) = lateR (goLeg t.u route t.pos t.time t.fuel k) (takeR t.u (atN .way route k).to_ t.u.base) := rfl
    have r2 : dryV (tSt t route k) (goLeg t.u route t.pos t.time t.fuel k) (takeR t.u (atN .way route k).to_ t.u.base) = dryR t.u (goLeg t.u route t.pos t.time t.fuel k) (takeR t.u (atN .way route k).to_ t.u.base) := by unfold dryV dryR; rw [e1]; rfl
    have r3 : tiredV (tSt t route k) (goLeg t.u route t.pos t.time t.fuel k) (takeR t.u (atN .way route k).to_ t.u.base) = tiredR t.u t.since (goLeg t.u route t.pos t.time t.fuel k) (takeR t.u (atN .way route k).to_ t.u.base) := by unfold tiredV tiredR homeV; rw [e1, e3]
    have r4 : roughV (tSt t route k) (goLeg t.u route t.pos t.time t.fuel k) (takeR t.u (atN .way route k).to_ t.u.base) = roughR t.u t.sky (goLeg t.u route t.pos t.time t.fuel k) (takeR t.u (atN .way route k).to_ t.u.base) := by
      unfold roughV roughR homeV
      rw [bad_eq (t := tSt t route k) (by rw [e2]; exact hs) (show (goLeg t.u route t.pos t.time t.fuel k).start ≤ (goLeg t.u route t.pos t.time t.fuel k).leave by
          rw [hl, ha]; show (goSt t.u route t.pos t.time t.fuel k).time ≤ _; omega),
        bad_eq (t := tSt t route k) (by rw [e2]; exact hs) (show (goLeg t.u route t.pos t.time t.fuel k).leave ≤ wr ((goLeg t.u route t.pos t.time t.fuel k).leave + takeR t.u (atN .way route k).to_ t.u.base) by rw [hwr]; omega), e1, e2]
    rw [r1, r2, r3, r4]
  refine ⟨eL, eW, fun h0 => ?_⟩
  have hlate : lateR (goLeg t.u route t.pos t.time t.fuel k) (takeR t.u (atN .way route k).to_ t.u.base) = false := by
    cases hL : lateR (goLeg t.u route t.pos t.time t.fuel k) (takeR t.u (atN .way route k).to_ t.u.base) with
    | false => rfl
    | true => unfold goWhy whyR at h0; rw [hL] at h0; exact absurd (show (4 : Int) = 0 from h0) (by decide)
  have hle : (goLeg t.u route t.pos t.time t.fuel k).leave ≤ 1073741824 := by
    unfold lateR at hlate
    have := of_decide_eq_false hlate
    rw [hwr] at this
    omega
  refine ⟨?_, ?_, ?_, ?_, ?_, ?_, ?_⟩
  · show (tryL (tSt t route k) (atN .way route k)).to_ = _; rw [eL]; rfl
  · show (tryL (tSt t route k) (atN .way route k)).leave = _; rw [eL]; rfl
  · show (tryL (tSt t route k) (atN .way route k)).fuel = _; rw [eL]; rfl
  · show tOut t route [] k ++ [tryL (tSt t route k) (atN .way route k)] = _; rw [eL, h.out]; rfl
  · exact hp
  · show 0 ≤ (goLeg t.u route t.pos t.time t.fuel k).leave; rw [hl, ha]; omega
  · exact hle
theorem at_same (hu : UnitP t.u) (hs : skyOk t.sky = true) (hr : ∀ w ∈ route, wayOk w = true) (hp : placed t.pos = true) (h0 : 0 ≤ t.time) (h1 : t.time ≤ 1073741824) :
    ∀ k, k ≤ route.length → (∀ j, j < k → goWhy t.u t.since t.sky route t.pos t.time t.fuel j = 0) → SameAt (tSt t route k) (goSt t.u route t.pos t.time t.fuel k) (tOut t route [] k)
  | 0, _, _ => ⟨rfl, rfl, rfl, rfl, hp, h0, h1⟩
  | k + 1, hk, hz => (step_same hu hs hr (by omega) (at_same hu hs hr hp h0 h1 k (by omega) fun j hj => hz j (by omega))).2.2 (hz k (by omega))
theorem stop_same (hu : UnitP t.u) (hs : skyOk t.sky = true) (hr : ∀ w ∈ route, wayOk w = true) (hp : placed t.pos = true) (h0 : 0 ≤ t.time) (h1 : t.time ≤ 1073741824) :
    tStop t route = goStop t.u t.since t.sky route t.pos t.time t.fuel := by
  unfold tStop goStop
  refine find_first _ _ route.length 0 fun i _ hi hz => ?_
  rw [(step_same hu hs hr (by omega) (at_same hu hs hr hp h0 h1 i (by omega) fun j hj => by simpa using hz j (Nat.zero_le _) hj)).2.1]
theorem plan_same (hu : UnitP t.u) (hs : skyOk t.sky = true) (hr : ∀ w ∈ route, wayOk w = true) (hp : placed t.pos = true) (h0 : 0 ≤ t.time) (h1 : t.time ≤ 1073741824) :
    tPL t route = plL t.u t.since t.sky route t.pos t.time t.fuel ∧ tAt t route [] (-1) = plA t.u t.since t.sky route t.pos t.time t.fuel ∧
    tWh t route 0 = plW t.u t.since t.sky route t.pos t.time t.fuel ∧ tE t route 0 = plE t.u t.since t.sky route t.pos t.time t.fuel := by
  have hst := stop_same hu hs hr hp h0 h1
  unfold tPL tAt tWh tE plL plA plW plE
  rw [hst]
  cases hg : goStop t.u t.since t.sky route t.pos t.time t.fuel with
  | some j =>
    have hg' := hg
    unfold goStop at hg'
    have hj := List.find?_eq_some_iff_getElem.1 hg'
    obtain ⟨hpj, i, hi, he, hall⟩ := hj
    have hi' : i = j := by simpa using he
    subst hi'
    have hlt : i < route.length := by simpa using hi
    have hz : ∀ j, j < i → goWhy t.u t.since t.sky route t.pos t.time t.fuel j = 0 := fun j hj => by simpa using hall j hj
    have hat := at_same hu hs hr hp h0 h1 i (by omega) hz
    refine ⟨rfl, ?_, (step_same hu hs hr hlt hat).2.1, rfl⟩
    show ((tOut t route [] i).length : Int) = (i : Int)
    rw [tOut_len]; simp
  | none =>
    have hz : ∀ j, j < route.length → goWhy t.u t.since t.sky route t.pos t.time t.fuel j = 0 := fun j hj => by
      unfold goStop at hg
      have := List.find?_eq_none.1 hg j (by simpa using hj)
      simpa using this
    have hat := at_same hu hs hr hp h0 h1 route.length (Nat.le_refl _) hz
    refine ⟨?_, rfl, rfl, rfl⟩
    show tOut t route [] route.length ++ [homeT (tEnd t route)] = _
    have hend : tEnd t route = tSt t route route.length := by unfold tEnd; rw [hst, hg]
    rw [hend, hat.out]
    congr 2
    unfold homeT homeL
    rw [(tSt_u t route _).1, hat.pos, hat.time, hat.fuel, (takes_eq hu hat.placed hu.base).1]
    rfl
end
end Go.Proofs.YtnbcmgdogohenaaDoor.Ev
/- Summaries of functions, printed by a program out of a list, and what is made of them. -/
namespace Go.Proofs.YtnbcmgdogohenaaDoor.Ev
open Go Go.RowKit Go.Proofs
theorem fn24 : FnOk 24 Tryd.f24 := ⟨by kernel_rfl, by kernel_rfl, by kernel_rfl, by kernel_rfl⟩
theorem e24 (u : Unit') (start : Int) (route : List Way) (sky : List Front) : evFn (cxo glU (mkG [(19, F19), (21, F21), (60, F60), (52, F52)]) (mkO [(61, 1, FO61)]) none [] rlT [53] []) noK noL Tryd.f24 [.agg [.s u.name, .i .i64 u.speed, .i .i64 u.fuel, .i .i64 u.burn, .i .i64 u.reserve, .i .i64 u.hours, .i .i64 u.sea, .i .i64 u.wind, .i .i64 u.base.x, .i .i64 u.base.y, .i .i64 u.margin, .i .i64 u.level], .i .i64 start, .sl .way route, .sl .front sky] noObjs = (match ((decide (route.length ≤ 1000000)) || ((bif (!(unitOk u)) then true else (!(skyOk sky))) || false)) with | true => (match (bif (bif (bif (!(unitOk u)) then true else (!(skyOk sky))) then true else (!(List.all route wayOk))) then true else (!(timed start))) with | true => an (.tup [.sl .leg ([] : List Leg), .i .i64 (-1), .i .i64 0, .i .i64 2]) | false => (match (decide ((route.length : Int) > 30)) with | true => an (.tup [.sl .leg ([] : List Leg), .i .i64 (-1), .i .i64 0, .i .i64 3]) | false => (match ((c84 (⟨u, sky, u.base, start, start, u.fuel⟩ : Trip).u && c126 (⟨u, sky, u.base, start, start, u.fuel⟩ : Trip)) && decide (route.length ≤ 1000000)) with | true => an (.tup [.sl .leg (tPL (⟨u, sky, u.base, start, start, u.fuel⟩ : Trip) route), .i .i64 (tAt (⟨u, sky, u.base, start, start, u.fuel⟩ : Trip) route [] (-1)), .i .i64 (tWh (⟨u, sky, u.base, start, start, u.fuel⟩ : Trip) route 0), .i .i64 (tE (⟨u, sky, u.base, start, start, u.fuel⟩ : Trip) route 0)]) | false => none))) | false => none) := by kernel_rfl
def F24 : List PV → Option (Bool × PV)
  | [.agg uL, .i .i64 start, .sl .way route, .sl .front sky] => (ETy.dec .unit uL).bind fun u => some ((decide (route.length ≤ 1000000) && decide (sky.length ≤ 1000000)), .tup [.sl .leg (PlL u start route sky), .i .i64 (PlA u start route sky), .i .i64 (PlW u start route sky), .i .i64 (PlE u start route sky)])
  | _ => none
theorem s24 : Sum glU 24 F24 := by
  intro ps r h
  unfold F24 at h
  split at h
  · rename_i uL start route sky
    obtain ⟨u, hu, h_u⟩ := Option.bind_eq_some_iff.1 h
    obtain rfl := dec_is (by simp) hu
    obtain ⟨hc, rfl⟩ := Prod.mk.inj (Option.some.inj h_u)
    refine call_byO (K := noK) (L := noL) (bxs := [53]) (ows := []) (GOk.cons s19 (GOk.cons s21 (GOk.cons s60 (GOk.cons s52 (GOk.nil))))) (OOk.cons so61 (OOk.nil)) fn24 (noLoops (by kernel_rfl)) (by kernel_rfl) (evF_some ((e24 u start route sky).trans ?_))
    rw [Bool.and_eq_true] at hc
    rw [hc.1]
    unfold PlL PlA PlW PlE
    show (match pArg u start route sky with | true => _ | false => (match pLong route with | true => _ | false => _)) = _
    cases hA : pArg u start route sky with
    | true => rfl
    | false =>
      obtain ⟨hU, hS, hR, hT⟩ := pArg_ok hA
      cases pLong route with
      | true => rfl
      | false =>
        have hT := (timed_iff start).1 hT
        obtain ⟨e1, e2, e3, e4⟩ := plan_same (t := ⟨u, sky, u.base, start, start, u.fuel⟩) (route := route) (unitOk_P hU) hS (List.all_eq_true.1 hR) (unitOk_P hU).base hT.1 hT.2
        have h1 : ((c84 (⟨u, sky, u.base, start, start, u.fuel⟩ : Trip).u && c126 (⟨u, sky, u.base, start, start, u.fuel⟩ : Trip)) && true) = true := by
          rw [show c84 u = true from c96_ok hU, show c126 (⟨u, sky, u.base, start, start, u.fuel⟩ : Trip) = true from hc.2]
          rfl
        show (match ((c84 (⟨u, sky, u.base, start, start, u.fuel⟩ : Trip).u && c126 (⟨u, sky, u.base, start, start, u.fuel⟩ : Trip)) && true) with | true => _ | false => none) = _
        rw [h1, e1, e2, e3, e4]
        rfl
  · simp at h
theorem eo24o (u : Unit') (start : Int) (route : List Way) (sky : List Front) : evO (cxo glU (mkG [(19, F19), (21, F21), (60, F60), (52, F52)]) (mkO [(61, 1, FO61)]) none [] rlT [53] []) noK noL 0 Tryd.f24 [.agg [.s u.name, .i .i64 u.speed, .i .i64 u.fuel, .i .i64 u.burn, .i .i64 u.reserve, .i .i64 u.hours, .i .i64 u.sea, .i .i64 u.wind, .i .i64 u.base.x, .i .i64 u.base.y, .i .i64 u.margin, .i .i64 u.level], .i .i64 start, .sl .way route, .sl .front sky] [none, none, none, none, none, none, none, none] = (match ((decide (route.length ≤ 1000000)) || ((bif (!(unitOk u)) then true else (!(skyOk sky))) || false)) with | true => (match (bif (bif (bif (!(unitOk u)) then true else (!(skyOk sky))) then true else (!(List.all route wayOk))) then true else (!(timed start))) with | true => ao (.tup [.own 0, .i .i64 (-1), .i .i64 0, .i .i64 2]) [some (.row .leg 49 ([])), none, none, none, none, none, none, none] | false => (match (decide ((route.length : Int) > 30)) with | true => ao (.tup [.own 0, .i .i64 (-1), .i .i64 0, .i .i64 3]) [some (.row .leg 49 ([])), none, none, none, none, none, none, none] | false => (match ((c84 (⟨u, sky, u.base, start, start, u.fuel⟩ : Trip).u && c126 (⟨u, sky, u.base, start, start, u.fuel⟩ : Trip)) && decide (route.length ≤ 1000000)) with | true => ao (.tup [.own 0, .i .i64 (tAt (⟨u, sky, u.base, start, start, u.fuel⟩ : Trip) route [] (-1)), .i .i64 (tWh (⟨u, sky, u.base, start, start, u.fuel⟩ : Trip) route 0), .i .i64 (tE (⟨u, sky, u.base, start, start, u.fuel⟩ : Trip) route 0)]) [some (.row .leg 49 (tPL (⟨u, sky, u.base, start, start, u.fuel⟩ : Trip) route)), none, none, none, none, none, none, none] | false => none))) | false => none) := by kernel_rfl
def FO24o : ObjF
  | [.agg uL, .i .i64 start, .sl .way route, .sl .front sky], [none, none, none, none, none, none, none, none] => (ETy.dec .unit uL).bind fun u => some ((decide (route.length ≤ 1000000) && decide (sky.length ≤ 1000000)), .tup [.own 0, .i .i64 (PlA u start route sky), .i .i64 (PlW u start route sky), .i .i64 (PlE u start route sky)], [some (.row .leg 49 (PlL u start route sky)), none, none, none, none, none, none, none])
  | _, _ => none
theorem so24o : OSum glU 24 FO24o := by
  intro ps os r os2 h
  unfold FO24o at h
  split at h
  · rename_i uL start route sky
    obtain ⟨u, hu, h_u⟩ := Option.bind_eq_some_iff.1 h
    obtain rfl := dec_is (by simp) hu
    obtain ⟨hc, h2_⟩ := Prod.mk.inj (Option.some.inj h_u)
    obtain ⟨rfl, rfl⟩ := Prod.mk.inj h2_
    refine obj_by (K := noK) (L := noL) (bxs := [53]) (ows := []) (n0 := 0) (GOk.cons s19 (GOk.cons s21 (GOk.cons s60 (GOk.cons s52 (GOk.nil))))) (OOk.cons so61 (OOk.nil)) fn24 (noLoops (by kernel_rfl)) (by kernel_rfl) ((eo24o u start route sky).trans ?_)
    rw [Bool.and_eq_true] at hc
    rw [hc.1]
    unfold PlL PlA PlW PlE
    show (match pArg u start route sky with | true => _ | false => (match pLong route with | true => _ | false => _)) = _
    cases hA : pArg u start route sky with
    | true => rfl
    | false =>
      obtain ⟨hU, hS, hR, hT⟩ := pArg_ok hA
      cases pLong route with
      | true => rfl
      | false =>
        have hT := (timed_iff start).1 hT
        obtain ⟨e1, e2, e3, e4⟩ := plan_same (t := ⟨u, sky, u.base, start, start, u.fuel⟩) (route := route) (unitOk_P hU) hS (List.all_eq_true.1 hR) (unitOk_P hU).base hT.1 hT.2
        have h1 : ((c84 (⟨u, sky, u.base, start, start, u.fuel⟩ : Trip).u && c126 (⟨u, sky, u.base, start, start, u.fuel⟩ : Trip)) && true) = true := by
          rw [show c84 u = true from c96_ok hU, show c126 (⟨u, sky, u.base, start, start, u.fuel⟩ : Trip) = true from hc.2]
          rfl
        show (match ((c84 (⟨u, sky, u.base, start, start, u.fuel⟩ : Trip).u && c126 (⟨u, sky, u.base, start, start, u.fuel⟩ : Trip)) && true) with | true => _ | false => none) = _
        rw [h1, e1, e2, e3, e4]
        rfl
  · simp at h
end Go.Proofs.YtnbcmgdogohenaaDoor.Ev
/- Places on a leg. -/
namespace Go.Proofs.YtnbcmgdogohenaaDoor.Ev
open Go Go.RowKit Go.Proofs

theorem floor_ediv {x b : Int} (hb : 0 < b) : (if x.tmod b < 0 then x.tdiv b - 1 else x.tdiv b) = x / b := by
  have h := Int.mul_tdiv_add_tmod x b
  have h1 := Int.tmod_lt_of_pos x hb
  have h2 : -b < x.tmod b := by
    rcases Int.le_total 0 x with hx | hx
    · have := Int.tmod_nonneg b hx; omega
    · have h3 := Int.tmod_lt_of_pos (-x) hb
      rw [Int.neg_tmod] at h3
      omega
  have h4 : 0 ≤ x.tmod b ∨ x.tmod b < 0 := by omega
  have key : ∀ q : Int, q * b ≤ x → x < (q + 1) * b → q = x / b := fun q h5 h6 => by
    have := Int.le_ediv_of_mul_le hb h5
    have := Int.ediv_lt_of_lt_mul hb h6
    omega
  split
  · refine key _ ?_ ?_
    · rw [Int.sub_mul, Int.one_mul, Int.mul_comm]; omega
    · rw [Int.sub_add_cancel, Int.mul_comm]; omega
  · refine key _ ?_ ?_
    · rw [Int.mul_comm]; omega
    · rw [Int.add_mul, Int.one_mul, Int.mul_comm]; omega
theorem partL_eq {a b n o : Int} (ha : -16777216 ≤ a ∧ a ≤ 16777216) (hb : -16777216 ≤ b ∧ b ≤ 16777216) (hn : 0 ≤ n ∧ n ≤ 1073741824) (ho : 0 < o) (ho1 : o ≤ 1073741824) :
    partL a b n o = a + (b - a) * n / o ∧ partH a b n o = a - (-((b - a) * n)) / o := by
  obtain ⟨h1, h2⟩ := part_eq ha hb hn ho ho1
  have hd : wr (b - a) = b - a := wr_small (by omega) (by omega)
  have hm := mul_bound (a := b - a) (b := n) (A := 33554432) (B := 1073741824) (by omega) hn (by omega)
  have hp : wr ((b - a) * n) = (b - a) * n := wr_small (by omega) (by omega)
  rw [← h1, ← h2, hd, hp]
  generalize (b - a) * n = x at *
  have hx : wr (0 - x) = -x := by rw [wr_small (by omega) (by omega)]; omega
  have hq := tdiv_bound (n := x) ho
  have hq' := tdiv_bound (n := -x) ho
  have f1 := floor_ediv (x := x) ho
  have f2 := floor_ediv (x := -x) ho
  rw [hx, floorS_eq (by omega) ho, floorS_eq (by omega) ho, f1, f2]
  have g1 : -2 ^ 58 ≤ x / o ∧ x / o ≤ 2 ^ 58 := by rw [← f1]; split <;> omega
  have g2 : -2 ^ 58 ≤ -x / o ∧ -x / o ≤ 2 ^ 58 := by rw [← f2]; split <;> omega
  exact ⟨wr_small (by omega) (by omega), wr_small (by omega) (by omega)⟩
/-- A part lies between the ends. -/
theorem part_mem {a b n o : Int} (hn : 0 ≤ n ∧ n ≤ o) (ho : 0 < o) : imin a b ≤ a + (b - a) * n / o ∧ a + (b - a) * n / o ≤ imax a b := by
  have key : ∀ c : Int, 0 ≤ c → 0 ≤ c * n / o ∧ c * n / o ≤ c := fun c hc => by
    refine ⟨Int.ediv_nonneg (Int.mul_nonneg hc hn.1) (by omega), ?_⟩
    have : c * n ≤ c * o := Int.mul_le_mul_of_nonneg_left hn.2 hc
    have := Int.ediv_le_ediv ho this
    rwa [Int.mul_ediv_cancel _ (by omega)] at this
  have key2 : ∀ c : Int, 0 ≤ c → -c ≤ (-c) * n / o ∧ (-c) * n / o ≤ 0 := fun c hc => by
    have h1 : -c * o ≤ -c * n := by
      have : c * n ≤ c * o := Int.mul_le_mul_of_nonneg_left hn.2 hc
      rw [Int.neg_mul, Int.neg_mul]; omega
    have h2 := Int.ediv_le_ediv ho h1
    rw [Int.mul_ediv_cancel _ (by omega)] at h2
    refine ⟨h2, ?_⟩
    have h3 : -c * n ≤ 0 := by
      have := Int.mul_nonneg hc hn.1
      rw [Int.neg_mul]; omega
    have := Int.ediv_le_ediv ho h3
    rwa [Int.zero_ediv] at this
  unfold imin imax
  rcases Int.le_total a b with h | h
  · have := key (b - a) (by omega)
    split <;> split <;> omega
  · have := key2 (a - b) (by omega)
    rw [show -(a - b) = b - a by omega] at this
    split <;> split <;> omega
theorem part_memH {a b n o : Int} (hn : 0 ≤ n ∧ n ≤ o) (ho : 0 < o) : imin a b ≤ a - (-((b - a) * n)) / o ∧ a - (-((b - a) * n)) / o ≤ imax a b := by
  have := part_mem (a := -a) (b := -b) hn ho
  have e : (-b - -a) * n = -((b - a) * n) := by rw [← Int.neg_mul]; congr 1; omega
  rw [e] at this
  unfold imin imax at this ⊢
  revert this
  split <;> split <;> split <;> split <;> intro this <;> omega
theorem placed_mk {x y : Int} : placed ⟨x, y⟩ = true ↔ (-16777216 ≤ x ∧ x ≤ 16777216) ∧ -16777216 ≤ y ∧ y ≤ 16777216 := placed_iff _
theorem imin_le {a b A : Int} (ha : -A ≤ a ∧ a ≤ A) (hb : -A ≤ b ∧ b ≤ A) : -A ≤ imin a b ∧ imax a b ≤ A := by
  unfold imin imax
  split <;> split <;> omega
/-- Where a unit is on a leg is a place. -/
theorem place_placed {x : Leg} (h : LegP x) {t : Int} (ht : x.start ≤ t) : placed ⟨prX x t, prY x t⟩ = true := by
  have hf := (placed_iff _).1 h.fr
  have hto := (placed_iff _).1 h.to_
  have h1 := h.s0
  have h2 := h.sa
  have h3 := h.al
  have h4 := h.l1
  rw [placed_mk]
  unfold prX prY
  by_cases hta : t ≥ x.arrive
  · rw [decide_eq_true hta]
    exact hto
  · rw [decide_eq_false hta]
    have hn : wr (t - x.start) = t - x.start := wr_small (by omega) (by omega)
    have ho : wr (x.arrive - x.start) = x.arrive - x.start := wr_small (by omega) (by omega)
    rw [hn, ho]
    show (-16777216 ≤ partL _ _ _ _ ∧ partL _ _ _ _ ≤ 16777216) ∧ -16777216 ≤ partL _ _ _ _ ∧ partL _ _ _ _ ≤ 16777216
    rw [(partL_eq hf.1 hto.1 (by omega) (by omega) (by omega)).1, (partL_eq hf.2 hto.2 (by omega) (by omega) (by omega)).1]
    have p1 := part_mem (a := x.fr.x) (b := x.to_.x) (n := t - x.start) (o := x.arrive - x.start) (by omega) (by omega)
    have p2 := part_mem (a := x.fr.y) (b := x.to_.y) (n := t - x.start) (o := x.arrive - x.start) (by omega) (by omega)
    have q1 := imin_le hf.1 hto.1
    have q2 := imin_le hf.2 hto.2
    omega
end Go.Proofs.YtnbcmgdogohenaaDoor.Ev
/- Summaries of functions, printed by a program out of a list, and what is made of them. -/
namespace Go.Proofs.YtnbcmgdogohenaaDoor.Ev
open Go Go.RowKit Go.Proofs
/-- The unit that is under way, when it is planned anew. -/
def agT (u : Unit') (l : List Leg) (t : Int) (sky : List Front) : Trip := ⟨u, sky, agPos l t, agSince l, t, leftV u l t⟩
theorem agT_eq {u : Unit'} {l : List Leg} {t : Int} {sky : List Front} (hU : unitOk u = true) (hL : legsOk l = true) (hB : atB l t = true) :
    (⟨u, sky, ⟨plX (atV l t) t, plY (atV l t) t⟩, (atD .leg l 0).start, t, wr ((atV l t).fuel + wr (Int.tdiv (wr (u.burn * wr ((atV l t).leave - t))) 3600))⟩ : Trip) = agT u l t sky := by
  obtain ⟨h1, h2, _⟩ := at_ok hL hB
  obtain ⟨e1, e2, _⟩ := place_eq h1 h2
  have : leftV u l t = wr ((atV l t).fuel + wr (Int.tdiv (wr (u.burn * wr ((atV l t).leave - t))) 3600)) := by
    unfold leftV
    rw [hU, hL, hB]
    rfl
  unfold agT agPos
  rw [this, e1, e2]
  rfl
theorem ag_placed {l : List Leg} {t : Int} (hL : legsOk l = true) (hB : atB l t = true) : placed (agPos l t) = true ∧ 0 ≤ t ∧ t ≤ 1073741824 := by
  obtain ⟨h1, h2, h3, _⟩ := at_ok hL hB
  have := h1.s0
  have := h1.l1
  exact ⟨place_placed h1 h2, by omega, by omega⟩
theorem try_one {t : Trip} {w : Way} (hu : UnitP t.u) (hs : skyOk t.sky = true) (hw : wayOk w = true) (hp : placed t.pos = true) (h0 : 0 ≤ t.time) (h1 : t.time ≤ 1073741824) :
    tryW t w = whyR t.u t.since t.sky (legR t.u t.pos t.time t.fuel w) (takeR t.u w.to_ t.u.base) := by
  have hr : ∀ x ∈ [w], wayOk x = true := fun x hx => by
    obtain rfl := List.mem_singleton.1 hx
    exact hw
  have h := (step_same (t := t) (route := [w]) hu hs hr (k := 0) (by simp) (at_same hu hs hr hp h0 h1 0 (Nat.zero_le _) fun j hj => absurd hj (Nat.not_lt_zero _))).2.1
  have l1 : tWhy t [w] 0 = tryW t w := rfl
  have l2 : goWhy t.u t.since t.sky [w] t.pos t.time t.fuel 0 = whyR t.u t.since t.sky (legR t.u t.pos t.time t.fuel w) (takeR t.u w.to_ t.u.base) := rfl
  rw [← l1, ← l2]
  exact h
theorem ag_try {u : Unit'} {l : List Leg} {t : Int} {sky : List Front} (hU : unitOk u = true) (hL : legsOk l = true) (hS : skyOk sky = true) (hB : atB l t = true) : tryW (agT u l t sky) ⟨agPos l t, 0⟩ = agWhy u l t sky := by
  obtain ⟨hp, h0, h1⟩ := ag_placed hL hB
  have hw : wayOk ⟨agPos l t, 0⟩ = true := by
    unfold wayOk
    rw [show placed (⟨agPos l t, 0⟩ : Way).to_ = true from hp]
    have : timed 0 = true := (timed_iff 0).2 (by omega)
    exact this
  have h := try_one (t := agT u l t sky) (w := ⟨agPos l t, 0⟩) (unitOk_P hU) hS hw hp h0 h1
  rw [h]
  unfold agWhy
  rfl
theorem fn39 : FnOk 39 Tryd.f39 := ⟨by kernel_rfl, by kernel_rfl, by kernel_rfl, by kernel_rfl⟩
theorem e39 (u : Unit') (legs : List Leg) (t : Int) (route : List Way) (sky : List Front) : evFn (cxo glU (mkG [(19, F19), (64, F64), (21, F21), (60, F60), (65, F65), (66, F66), (77, F77)]) (mkO [(61, 1, FO61)]) none [] rlT [86] []) noK noL Tryd.f39 [.agg [.s u.name, .i .i64 u.speed, .i .i64 u.fuel, .i .i64 u.burn, .i .i64 u.reserve, .i .i64 u.hours, .i .i64 u.sea, .i .i64 u.wind, .i .i64 u.base.x, .i .i64 u.base.y, .i .i64 u.margin, .i .i64 u.level], .sl .leg legs, .i .i64 t, .sl .way route, .sl .front sky] noObjs = (match ((decide (legs.length ≤ 1000000)) || ((!(unitOk u)) || false)) with | true => (match ((decide (route.length ≤ 1000000)) || ((bif (bif (!(unitOk u)) then true else (!(legsOk legs))) then true else (!(skyOk sky))) || false)) with | true => (match (bif (bif (bif (!(unitOk u)) then true else (!(legsOk legs))) then true else (!(skyOk sky))) then true else (!(List.all route wayOk))) with | true => an (.tup [.sl .leg ([] : List Leg), .i .i64 (-1), .i .i64 0, .i .i64 2]) | false => (match (decide (legs.length ≤ 1000000)) with | true => (match (!(atB legs t)) with | true => an (.tup [.sl .leg ([] : List Leg), .i .i64 (-1), .i .i64 0, .i .i64 7]) | false => (match (decide ((route.length : Int) > 30)) with | true => an (.tup [.sl .leg ([] : List Leg), .i .i64 (-1), .i .i64 0, .i .i64 3]) | false => (match (c66 (atV legs t) t) with | true => (match (inB 0 legs.length) with | true => (match ((route.length : Int) == 0) with | true => (match (c84 (⟨u, sky, ⟨(plX (atV legs t) t), (plY (atV legs t) t)⟩, ((atD .leg legs 0).start), t, (wr (((atV legs t).fuel) + (wr (Int.tdiv (wr (u.burn * (wr (((atV legs t).leave) - t)))) 3600))))⟩ : Trip).u && c126 (⟨u, sky, ⟨(plX (atV legs t) t), (plY (atV legs t) t)⟩, ((atD .leg legs 0).start), t, (wr (((atV legs t).fuel) + (wr (Int.tdiv (wr (u.burn * (wr (((atV legs t).leave) - t)))) 3600))))⟩ : Trip)) with | true => (match ((tryW (⟨u, sky, ⟨(plX (atV legs t) t), (plY (atV legs t) t)⟩, ((atD .leg legs 0).start), t, (wr (((atV legs t).fuel) + (wr (Int.tdiv (wr (u.burn * (wr (((atV legs t).leave) - t)))) 3600))))⟩ : Trip) (⟨⟨(plX (atV legs t) t), (plY (atV legs t) t)⟩, 0⟩ : Way)) != 0) with | true => an (.tup [.sl .leg ([] : List Leg), .i .i64 0, .i .i64 (tryW (⟨u, sky, ⟨(plX (atV legs t) t), (plY (atV legs t) t)⟩, ((atD .leg legs 0).start), t, (wr (((atV legs t).fuel) + (wr (Int.tdiv (wr (u.burn * (wr (((atV legs t).leave) - t)))) 3600))))⟩ : Trip) (⟨⟨(plX (atV legs t) t), (plY (atV legs t) t)⟩, 0⟩ : Way)), .i .i64 9]) | false => (match ((c84 (⟨u, sky, ⟨(plX (atV legs t) t), (plY (atV legs t) t)⟩, ((atD .leg legs 0).start), t, (wr (((atV legs t).fuel) + (wr (Int.tdiv (wr (u.burn * (wr (((atV legs t).leave) - t)))) 3600))))⟩ : Trip).u && c126 (⟨u, sky, ⟨(plX (atV legs t) t), (plY (atV legs t) t)⟩, ((atD .leg legs 0).start), t, (wr (((atV legs t).fuel) + (wr (Int.tdiv (wr (u.burn * (wr (((atV legs t).leave) - t)))) 3600))))⟩ : Trip)) && decide (route.length ≤ 1000000)) with | true => an (.tup [.sl .leg (tPL (⟨u, sky, ⟨(plX (atV legs t) t), (plY (atV legs t) t)⟩, ((atD .leg legs 0).start), t, (wr (((atV legs t).fuel) + (wr (Int.tdiv (wr (u.burn * (wr (((atV legs t).leave) - t)))) 3600))))⟩ : Trip) route), .i .i64 (tAt (⟨u, sky, ⟨(plX (atV legs t) t), (plY (atV legs t) t)⟩, ((atD .leg legs 0).start), t, (wr (((atV legs t).fuel) + (wr (Int.tdiv (wr (u.burn * (wr (((atV legs t).leave) - t)))) 3600))))⟩ : Trip) route [] (-1)), .i .i64 (tWh (⟨u, sky, ⟨(plX (atV legs t) t), (plY (atV legs t) t)⟩, ((atD .leg legs 0).start), t, (wr (((atV legs t).fuel) + (wr (Int.tdiv (wr (u.burn * (wr (((atV legs t).leave) - t)))) 3600))))⟩ : Trip) route 0), .i .i64 (tE (⟨u, sky, ⟨(plX (atV legs t) t), (plY (atV legs t) t)⟩, ((atD .leg legs 0).start), t, (wr (((atV legs t).fuel) + (wr (Int.tdiv (wr (u.burn * (wr (((atV legs t).leave) - t)))) 3600))))⟩ : Trip) route 0)]) | false => none)) | false => none) | false => (match ((c84 (⟨u, sky, ⟨(plX (atV legs t) t), (plY (atV legs t) t)⟩, ((atD .leg legs 0).start), t, (wr (((atV legs t).fuel) + (wr (Int.tdiv (wr (u.burn * (wr (((atV legs t).leave) - t)))) 3600))))⟩ : Trip).u && c126 (⟨u, sky, ⟨(plX (atV legs t) t), (plY (atV legs t) t)⟩, ((atD .leg legs 0).start), t, (wr (((atV legs t).fuel) + (wr (Int.tdiv (wr (u.burn * (wr (((atV legs t).leave) - t)))) 3600))))⟩ : Trip)) && decide (route.length ≤ 1000000)) with | true => an (.tup [.sl .leg (tPL (⟨u, sky, ⟨(plX (atV legs t) t), (plY (atV legs t) t)⟩, ((atD .leg legs 0).start), t, (wr (((atV legs t).fuel) + (wr (Int.tdiv (wr (u.burn * (wr (((atV legs t).leave) - t)))) 3600))))⟩ : Trip) route), .i .i64 (tAt (⟨u, sky, ⟨(plX (atV legs t) t), (plY (atV legs t) t)⟩, ((atD .leg legs 0).start), t, (wr (((atV legs t).fuel) + (wr (Int.tdiv (wr (u.burn * (wr (((atV legs t).leave) - t)))) 3600))))⟩ : Trip) route [] (-1)), .i .i64 (tWh (⟨u, sky, ⟨(plX (atV legs t) t), (plY (atV legs t) t)⟩, ((atD .leg legs 0).start), t, (wr (((atV legs t).fuel) + (wr (Int.tdiv (wr (u.burn * (wr (((atV legs t).leave) - t)))) 3600))))⟩ : Trip) route 0), .i .i64 (tE (⟨u, sky, ⟨(plX (atV legs t) t), (plY (atV legs t) t)⟩, ((atD .leg legs 0).start), t, (wr (((atV legs t).fuel) + (wr (Int.tdiv (wr (u.burn * (wr (((atV legs t).leave) - t)))) 3600))))⟩ : Trip) route 0)]) | false => none)) | false => none) | false => none))) | false => none)) | false => none) | false => none) := by kernel_rfl
def F39 : List PV → Option (Bool × PV)
  | [.agg uL, .sl .leg legs, .i .i64 t, .sl .way route, .sl .front sky] => (ETy.dec .unit uL).bind fun u => some ((decide (legs.length ≤ 1000000) && (decide (route.length ≤ 1000000) && decide (sky.length ≤ 1000000))), .tup [.sl .leg (AgL u legs t route sky), .i .i64 (AgA u legs t route sky), .i .i64 (AgW u legs t route sky), .i .i64 (AgE u legs t route sky)])
  | _ => none
theorem s39 : Sum glU 39 F39 := by
  intro ps r h
  unfold F39 at h
  split at h
  · rename_i uL legs t route sky
    obtain ⟨u, hu, h_u⟩ := Option.bind_eq_some_iff.1 h
    obtain rfl := dec_is (by simp) hu
    obtain ⟨hc, rfl⟩ := Prod.mk.inj (Option.some.inj h_u)
    refine call_byO (K := noK) (L := noL) (bxs := [86]) (ows := []) (GOk.cons s19 (GOk.cons s64 (GOk.cons s21 (GOk.cons s60 (GOk.cons s65 (GOk.cons s66 (GOk.cons s77 (GOk.nil)))))))) (OOk.cons so61 (OOk.nil)) fn39 (noLoops (by kernel_rfl)) (by kernel_rfl) (evF_some ((e39 u legs t route sky).trans ?_))
    simp only [Bool.and_eq_true] at hc
    rw [hc.1, hc.2.1]
    unfold AgL AgA AgW AgE
    show (match gArg u legs route sky with | true => _ | false => _) = _
    cases hA : gArg u legs route sky with
    | true => rfl
    | false =>
      obtain ⟨hU, hL, hS, hR⟩ := gArg_ok hA
      cases hB : atB legs t with
      | false => rfl
      | true =>
        obtain ⟨h1, h2, _, h3, h4, h5, _⟩ := at_ok hL hB
        obtain ⟨e1, e2, e3, e4, e5, e6⟩ := place_eq h1 h2
        have h0 : inB 0 legs.length = true := inB_nat (k := 0) (by have := of_decide_eq_true (legsOk_pos hL); omega)
        obtain ⟨hp, t0, t1⟩ := ag_placed hL hB
        obtain ⟨p1, p2, p3, p4⟩ := plan_same (t := agT u legs t sky) (route := route) (unitOk_P hU) hS (List.all_eq_true.1 hR) hp t0 t1
        have hcc : (c84 (agT u legs t sky).u && c126 (agT u legs t sky)) = true := by
          rw [show c84 (agT u legs t sky).u = true from c96_ok hU, show c126 (agT u legs t sky) = true from hc.2.2]
          rfl
        have hcc2 : ((c84 (agT u legs t sky).u && c126 (agT u legs t sky)) && true) = true := by rw [hcc]; rfl
        rw [agT_eq hU hL hB, h0, e5]
        have hw : tryW (agT u legs t sky) (⟨⟨plX (atV legs t) t, plY (atV legs t) t⟩, 0⟩ : Way) = agWhy u legs t sky := by
          rw [e1, e2]
          exact ag_try hU hL hS hB
        rw [hw, hcc, p1, p2, p3, p4]
        show (match pLong route with | true => _ | false => (match ((route.length : Int) == 0) with | true => (match (agWhy u legs t sky != 0) with | true => _ | false => _) | false => _)) = _
        unfold agStop
        cases pLong route with
        | true => rfl
        | false =>
          cases ((route.length : Int) == 0) with
          | false => rfl
          | true => cases (agWhy u legs t sky != 0) <;> rfl
  · simp at h
end Go.Proofs.YtnbcmgdogohenaaDoor.Ev
