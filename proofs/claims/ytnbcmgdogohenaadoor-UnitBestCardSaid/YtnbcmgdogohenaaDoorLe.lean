/- Summaries of functions, printed by a program out of a list, and what is made of them. -/
import Derived.Test.YtnbcmgdogohenaaDoorLd
set_option linter.unusedVariables false
set_option linter.unusedSimpArgs false
set_option maxRecDepth 100000
namespace Go.Proofs.YtnbcmgdogohenaaDoor.Ev
open Go Go.RowKit Go.Proofs
structure S33_11 where
  pieces : Int
  u : Unit'
  t : Int
  j : Int
  legs : List Leg
  n : Int
  i : Int
  out : List Box
  l : Leg
def S33_11.enc (s : S33_11) : List PV := [.i .i64 s.pieces, .ptr [.s s.u.name, .i .i64 s.u.speed, .i .i64 s.u.fuel, .i .i64 s.u.burn, .i .i64 s.u.reserve, .i .i64 s.u.hours, .i .i64 s.u.sea, .i .i64 s.u.wind, .i .i64 s.u.base.x, .i .i64 s.u.base.y, .i .i64 s.u.margin, .i .i64 s.u.level] 0, .own 16, .ref 18 0, .i .i64 s.t, .i .i64 s.j, .sl .leg s.legs, .i .i64 s.n, .i .i64 s.i]
def S33_11.encH (s : S33_11) : Heap := [some (.row .box 87 s.out), some (.cells 49 [.i .i64 s.l.fr.x, .i .i64 s.l.fr.y, .i .i64 s.l.to_.x, .i .i64 s.l.to_.y, .i .i64 s.l.start, .i .i64 s.l.arrive, .i .i64 s.l.leave, .i .i64 s.l.fuel])]
def dec33_11 : List PV → Heap → Option S33_11
  | [.i .i64 pieces_, .ptr uL 0, .own 16, .ref 18 0, .i .i64 t_, .i .i64 j_, .sl .leg legs_, .i .i64 n_, .i .i64 i_], [some (.row .box 87 out_), some (.cells 49 lL)] => (ETy.dec .unit uL).bind fun u_ => (ETy.dec .leg lL).bind fun l_ => some ⟨pieces_, u_, t_, j_, legs_, n_, i_, out_, l_⟩
  | _, _ => none
theorem dec_enc33_11 (vs : List PV) (hs : Heap) (s : S33_11) (h : dec33_11 vs hs = some s) : vs = s.enc ∧ hs = s.encH := by
  unfold dec33_11 at h
  split at h
  · obtain ⟨u_, hu, h_u⟩ := Option.bind_eq_some_iff.1 h
    obtain rfl := dec_is (by simp) hu
    obtain ⟨l_, hl, h_l⟩ := Option.bind_eq_some_iff.1 h_u
    obtain rfl := dec_is (by simp) hl
    obtain rfl := Option.some.inj h_l
    exact ⟨rfl, rfl⟩
  · simp at h
def st33_11 {ρ : Type} (s : S33_11) (next : S33_11 → Option ρ) (out : S33_11 → Option ρ) : Option ρ := (match (bif (decide (s.t > 0)) then (decide (s.j < s.pieces)) else false) with | true => (match (!(s.pieces == 0)) with | true => (match (c70 s.pieces) with | true => (match (c66 s.l (wr (s.l.start + (wr (Int.tdiv (wr (s.t * s.j)) s.pieces))))) with | true => (match (c66 s.l (wr (s.l.start + (ceilS (wr (s.t * (wr (s.j + 1)))) s.pieces)))) with | true => (match (decide ((s.out.length + 1) * 56 ≤ 140737488355328)) with | true => next ⟨s.pieces, s.u, s.t, (wr (s.j + 1)), s.legs, s.n, s.i, (s.out ++ ([⟨⟨(v71 s.u (⟨(imin (plX s.l (wr (s.l.start + (wr (Int.tdiv (wr (s.t * s.j)) s.pieces))))) (plX s.l (wr (s.l.start + (ceilS (wr (s.t * (wr (s.j + 1)))) s.pieces))))), (imin (plY s.l (wr (s.l.start + (wr (Int.tdiv (wr (s.t * s.j)) s.pieces))))) (plY s.l (wr (s.l.start + (ceilS (wr (s.t * (wr (s.j + 1)))) s.pieces)))))⟩ : Spot)), (v71_1 s.u (⟨(imin (plX s.l (wr (s.l.start + (wr (Int.tdiv (wr (s.t * s.j)) s.pieces))))) (plX s.l (wr (s.l.start + (ceilS (wr (s.t * (wr (s.j + 1)))) s.pieces))))), (imin (plY s.l (wr (s.l.start + (wr (Int.tdiv (wr (s.t * s.j)) s.pieces))))) (plY s.l (wr (s.l.start + (ceilS (wr (s.t * (wr (s.j + 1)))) s.pieces)))))⟩ : Spot))⟩, ⟨(v71_2 s.u (⟨(imax (plHX s.l (wr (s.l.start + (wr (Int.tdiv (wr (s.t * s.j)) s.pieces))))) (plHX s.l (wr (s.l.start + (ceilS (wr (s.t * (wr (s.j + 1)))) s.pieces))))), (imax (plHY s.l (wr (s.l.start + (wr (Int.tdiv (wr (s.t * s.j)) s.pieces))))) (plHY s.l (wr (s.l.start + (ceilS (wr (s.t * (wr (s.j + 1)))) s.pieces)))))⟩ : Spot)), (v71_3 s.u (⟨(imax (plHX s.l (wr (s.l.start + (wr (Int.tdiv (wr (s.t * s.j)) s.pieces))))) (plHX s.l (wr (s.l.start + (ceilS (wr (s.t * (wr (s.j + 1)))) s.pieces))))), (imax (plHY s.l (wr (s.l.start + (wr (Int.tdiv (wr (s.t * s.j)) s.pieces))))) (plHY s.l (wr (s.l.start + (ceilS (wr (s.t * (wr (s.j + 1)))) s.pieces)))))⟩ : Spot))⟩, (wr (s.l.start + (wr (Int.tdiv (wr (s.t * s.j)) s.pieces)))), (wr (s.l.start + (ceilS (wr (s.t * (wr (s.j + 1)))) s.pieces))), s.u.level⟩] : List Box)), s.l⟩ | false => none) | false => none) | false => none) | false => none) | false => none) | false => out s)
def out33_11 (k : Ex → List PV → Heap → Option R) (o : S33_11) : Option R := k (.exit 2) o.enc o.encH
def fuel33_11 (s : S33_11) : Nat := s.pieces.toNat + 1
structure S33_7 where
  pieces : Int
  u : Unit'
  legs : List Leg
  n : Int
  i : Int
  out : List Box
def S33_7.enc (s : S33_7) : List PV := [.i .i64 s.pieces, .ptr [.s s.u.name, .i .i64 s.u.speed, .i .i64 s.u.fuel, .i .i64 s.u.burn, .i .i64 s.u.reserve, .i .i64 s.u.hours, .i .i64 s.u.sea, .i .i64 s.u.wind, .i .i64 s.u.base.x, .i .i64 s.u.base.y, .i .i64 s.u.margin, .i .i64 s.u.level] 0, .own 16, .sl .leg s.legs, .i .i64 s.n, .i .i64 s.i]
def S33_7.encH (s : S33_7) : Heap := [some (.row .box 87 s.out)]
def dec33_7 : List PV → Heap → Option S33_7
  | [.i .i64 pieces_, .ptr uL 0, .own 16, .sl .leg legs_, .i .i64 n_, .i .i64 i_], [some (.row .box 87 out_)] => (ETy.dec .unit uL).bind fun u_ => some ⟨pieces_, u_, legs_, n_, i_, out_⟩
  | _, _ => none
theorem dec_enc33_7 (vs : List PV) (hs : Heap) (s : S33_7) (h : dec33_7 vs hs = some s) : vs = s.enc ∧ hs = s.encH := by
  unfold dec33_7 at h
  split at h
  · obtain ⟨u_, hu, h_u⟩ := Option.bind_eq_some_iff.1 h
    obtain rfl := dec_is (by simp) hu
    obtain rfl := Option.some.inj h_u
    exact ⟨rfl, rfl⟩
  · simp at h
def st33_7 {ρ : Type} (s : S33_7) (next : S33_7 → Option ρ) (out : S33_7 → Option ρ) : Option ρ := (match (decide (s.i < s.n)) with | true => (match (inB s.i s.legs.length) with | true => (iter st33_11 (fuel33_11 (⟨s.pieces, s.u, (wr (((atD .leg s.legs s.i).arrive) - ((atD .leg s.legs s.i).start))), 0, s.legs, s.n, s.i, s.out, (atD .leg s.legs s.i)⟩ : S33_11)) (⟨s.pieces, s.u, (wr (((atD .leg s.legs s.i).arrive) - ((atD .leg s.legs s.i).start))), 0, s.legs, s.n, s.i, s.out, (atD .leg s.legs s.i)⟩ : S33_11) fun o11 => (match (bif (decide (o11.l.arrive < o11.l.leave)) then true else (o11.l.start == o11.l.leave)) with | true => (match (decide ((o11.out.length + 1) * 56 ≤ 140737488355328)) with | true => next ⟨o11.pieces, o11.u, o11.legs, o11.n, (wr (o11.i + 1)), (o11.out ++ ([⟨⟨(v71 o11.u o11.l.to_), (v71_1 o11.u o11.l.to_)⟩, ⟨(v71_2 o11.u o11.l.to_), (v71_3 o11.u o11.l.to_)⟩, o11.l.arrive, o11.l.leave, o11.u.level⟩] : List Box))⟩ | false => none) | false => next ⟨o11.pieces, o11.u, o11.legs, o11.n, (wr (o11.i + 1)), o11.out⟩)) | false => none) | false => out s)
def out33_7 (k : Ex → List PV → Heap → Option R) (o : S33_7) : Option R := k (.exit 0) o.enc o.encH
def fuel33_7 (s : S33_7) : Nat := s.legs.length + 1
def K33 : Keep := fun i => match i with
  | 7 => ([2, 3, 8, 30, 31, 32], [16])
  | 11 => ([2, 3, 8, 10, 11, 12, 30, 31, 32], [16, 18])
  | _ => ([], [])
def L33 : Lam := fun b vs hs k => match loopId b with
  | 7 => loopL dec33_7 st33_7 fuel33_7 out33_7 b vs hs k
  | 11 => loopL dec33_11 st33_11 fuel33_11 out33_11 b vs hs k
  | _ => none
noncomputable def b33_11 : Code := (loopsOf (bodyOf Tryd.f33)).getD 1 .skip
noncomputable def b33_7 : Code := (loopsOf (bodyOf Tryd.f33)).getD 0 .skip
theorem step33_11 (gl : Gl) (j : Nat) (s : S33_11) (k : Ex → List PV → Heap → Option R) : unroll (cx gl (mkG [(70, F70), (66, F66), (71, F71), (19, F19), (64, F64), (55, F55)]) [] [16]) K33 L33 Tryd.f33.ntmps (Tryd.f33.ntmps + 16) b33_11 (j + 1) s.enc s.encH k = st33_11 s (fun s' => unroll (cx gl (mkG [(70, F70), (66, F66), (71, F71), (19, F19), (64, F64), (55, F55)]) [] [16]) K33 L33 Tryd.f33.ntmps (Tryd.f33.ntmps + 16) b33_11 j s'.enc s'.encH k) (out33_11 k) := by kernel_rfl
theorem step33_7 (gl : Gl) (j : Nat) (s : S33_7) (k : Ex → List PV → Heap → Option R) : unroll (cx gl (mkG [(70, F70), (66, F66), (71, F71), (19, F19), (64, F64), (55, F55)]) [] [16]) K33 L33 Tryd.f33.ntmps (Tryd.f33.ntmps + 16) b33_7 (j + 1) s.enc s.encH k = st33_7 s (fun s' => unroll (cx gl (mkG [(70, F70), (66, F66), (71, F71), (19, F19), (64, F64), (55, F55)]) [] [16]) K33 L33 Tryd.f33.ntmps (Tryd.f33.ntmps + 16) b33_7 j s'.enc s'.encH k) (out33_7 k) := by kernel_rfl
theorem l33 (gl : Gl) : LoopsOk (cx gl (mkG [(70, F70), (66, F66), (71, F71), (19, F19), (64, F64), (55, F55)]) [] [16]) K33 L33 Tryd.f33.ntmps (Tryd.f33.ntmps + 16) (loopsOf (bodyOf Tryd.f33)) := by
  refine loopsOk_list (l := [b33_7, b33_11]) (by kernel_rfl) ?_
  exact List.forall_mem_cons.2 ⟨loopOk1 (fuel := fuel33_7) (enc := S33_7.enc) (encH := S33_7.encH) (fun vs hs k => by kernel_rfl) dec_enc33_7 (step33_7 gl ), List.forall_mem_cons.2 ⟨loopOk1 (fuel := fuel33_11) (enc := S33_11.enc) (encH := S33_11.encH) (fun vs hs k => by kernel_rfl) dec_enc33_11 (step33_11 gl ), (fun _ h => by simp at h)⟩⟩
structure S34_12 where
  legs : List Leg
  pieces : Int
  u : Unit'
  i : Int
  t : Int
  j : Int
  out : List Box
  x : Leg
def S34_12.enc (s : S34_12) : List PV := [.sl .leg s.legs, .i .i64 s.pieces, .ptr [.s s.u.name, .i .i64 s.u.speed, .i .i64 s.u.fuel, .i .i64 s.u.burn, .i .i64 s.u.reserve, .i .i64 s.u.hours, .i .i64 s.u.sea, .i .i64 s.u.wind, .i .i64 s.u.base.x, .i .i64 s.u.base.y, .i .i64 s.u.margin, .i .i64 s.u.level] 0, .own 16, .i .i64 s.i, .ref 18 0, .i .i64 s.t, .i .i64 s.j]
def S34_12.encH (s : S34_12) : Heap := [some (.row .box 87 s.out), some (.cells 49 [.i .i64 s.x.fr.x, .i .i64 s.x.fr.y, .i .i64 s.x.to_.x, .i .i64 s.x.to_.y, .i .i64 s.x.start, .i .i64 s.x.arrive, .i .i64 s.x.leave, .i .i64 s.x.fuel])]
def dec34_12 : List PV → Heap → Option S34_12
  | [.sl .leg legs_, .i .i64 pieces_, .ptr uL 0, .own 16, .i .i64 i_, .ref 18 0, .i .i64 t_, .i .i64 j_], [some (.row .box 87 out_), some (.cells 49 xL)] => (ETy.dec .unit uL).bind fun u_ => (ETy.dec .leg xL).bind fun x_ => some ⟨legs_, pieces_, u_, i_, t_, j_, out_, x_⟩
  | _, _ => none
theorem dec_enc34_12 (vs : List PV) (hs : Heap) (s : S34_12) (h : dec34_12 vs hs = some s) : vs = s.enc ∧ hs = s.encH := by
  unfold dec34_12 at h
  split at h
  · obtain ⟨u_, hu, h_u⟩ := Option.bind_eq_some_iff.1 h
    obtain rfl := dec_is (by simp) hu
    obtain ⟨x_, hx, h_x⟩ := Option.bind_eq_some_iff.1 h_u
    obtain rfl := dec_is (by simp) hx
    obtain rfl := Option.some.inj h_x
    exact ⟨rfl, rfl⟩
  · simp at h
def st34_12 {ρ : Type} (s : S34_12) (next : S34_12 → Option ρ) (out : S34_12 → Option ρ) : Option ρ := (match (bif (decide (s.j < s.pieces)) then (decide (s.t > 0)) else false) with | true => (match (!(s.pieces == 0)) with | true => (match (c72 s.pieces) with | true => (match (c68 s.x (wr (s.x.start + (wr (Int.tdiv (wr (s.t * s.j)) s.pieces))))) with | true => (match (c68 s.x (wr (s.x.start + (v72 (wr (s.t * (wr (s.j + 1)))) s.pieces)))) with | true => (match (decide ((s.out.length + 1) * 56 ≤ 140737488355328)) with | true => next ⟨s.legs, s.pieces, s.u, s.i, s.t, (wr (s.j + 1)), (s.out ++ ([⟨⟨(v73 s.u (⟨(imin (prX s.x (wr (s.x.start + (wr (Int.tdiv (wr (s.t * s.j)) s.pieces))))) (prX s.x (wr (s.x.start + (v72 (wr (s.t * (wr (s.j + 1)))) s.pieces))))), (imin (prY s.x (wr (s.x.start + (wr (Int.tdiv (wr (s.t * s.j)) s.pieces))))) (prY s.x (wr (s.x.start + (v72 (wr (s.t * (wr (s.j + 1)))) s.pieces)))))⟩ : Spot)), (v73_1 s.u (⟨(imin (prX s.x (wr (s.x.start + (wr (Int.tdiv (wr (s.t * s.j)) s.pieces))))) (prX s.x (wr (s.x.start + (v72 (wr (s.t * (wr (s.j + 1)))) s.pieces))))), (imin (prY s.x (wr (s.x.start + (wr (Int.tdiv (wr (s.t * s.j)) s.pieces))))) (prY s.x (wr (s.x.start + (v72 (wr (s.t * (wr (s.j + 1)))) s.pieces)))))⟩ : Spot))⟩, ⟨(v73_2 s.u (⟨(imax (prHX s.x (wr (s.x.start + (wr (Int.tdiv (wr (s.t * s.j)) s.pieces))))) (prHX s.x (wr (s.x.start + (v72 (wr (s.t * (wr (s.j + 1)))) s.pieces))))), (imax (prHY s.x (wr (s.x.start + (wr (Int.tdiv (wr (s.t * s.j)) s.pieces))))) (prHY s.x (wr (s.x.start + (v72 (wr (s.t * (wr (s.j + 1)))) s.pieces)))))⟩ : Spot)), (v73_3 s.u (⟨(imax (prHX s.x (wr (s.x.start + (wr (Int.tdiv (wr (s.t * s.j)) s.pieces))))) (prHX s.x (wr (s.x.start + (v72 (wr (s.t * (wr (s.j + 1)))) s.pieces))))), (imax (prHY s.x (wr (s.x.start + (wr (Int.tdiv (wr (s.t * s.j)) s.pieces))))) (prHY s.x (wr (s.x.start + (v72 (wr (s.t * (wr (s.j + 1)))) s.pieces)))))⟩ : Spot))⟩, (wr (s.x.start + (wr (Int.tdiv (wr (s.t * s.j)) s.pieces)))), (wr (s.x.start + (v72 (wr (s.t * (wr (s.j + 1)))) s.pieces))), s.u.level⟩] : List Box)), s.x⟩ | false => none) | false => none) | false => none) | false => none) | false => none) | false => out s)
def out34_12 (k : Ex → List PV → Heap → Option R) (o : S34_12) : Option R := k (.exit 2) o.enc o.encH
def fuel34_12 (s : S34_12) : Nat := s.pieces.toNat + 1
structure S34_7 where
  legs : List Leg
  pieces : Int
  u : Unit'
  i : Int
  out : List Box
def S34_7.enc (s : S34_7) : List PV := [.sl .leg s.legs, .i .i64 s.pieces, .ptr [.s s.u.name, .i .i64 s.u.speed, .i .i64 s.u.fuel, .i .i64 s.u.burn, .i .i64 s.u.reserve, .i .i64 s.u.hours, .i .i64 s.u.sea, .i .i64 s.u.wind, .i .i64 s.u.base.x, .i .i64 s.u.base.y, .i .i64 s.u.margin, .i .i64 s.u.level] 0, .own 16, .i .i64 s.i]
def S34_7.encH (s : S34_7) : Heap := [some (.row .box 87 s.out)]
def dec34_7 : List PV → Heap → Option S34_7
  | [.sl .leg legs_, .i .i64 pieces_, .ptr uL 0, .own 16, .i .i64 i_], [some (.row .box 87 out_)] => (ETy.dec .unit uL).bind fun u_ => some ⟨legs_, pieces_, u_, i_, out_⟩
  | _, _ => none
theorem dec_enc34_7 (vs : List PV) (hs : Heap) (s : S34_7) (h : dec34_7 vs hs = some s) : vs = s.enc ∧ hs = s.encH := by
  unfold dec34_7 at h
  split at h
  · obtain ⟨u_, hu, h_u⟩ := Option.bind_eq_some_iff.1 h
    obtain rfl := dec_is (by simp) hu
    obtain rfl := Option.some.inj h_u
    exact ⟨rfl, rfl⟩
  · simp at h
def st34_7 {ρ : Type} (s : S34_7) (next : S34_7 → Option ρ) (out : S34_7 → Option ρ) : Option ρ := (match (decide (s.i < (s.legs.length : Int))) with | true => (match (inB s.i s.legs.length) with | true => (iter st34_12 (fuel34_12 (⟨s.legs, s.pieces, s.u, s.i, (wr (((atD .leg s.legs s.i).arrive) - ((atD .leg s.legs s.i).start))), 0, s.out, (atD .leg s.legs s.i)⟩ : S34_12)) (⟨s.legs, s.pieces, s.u, s.i, (wr (((atD .leg s.legs s.i).arrive) - ((atD .leg s.legs s.i).start))), 0, s.out, (atD .leg s.legs s.i)⟩ : S34_12) fun o12 => (match (bif (decide (o12.x.arrive < o12.x.leave)) then true else (o12.x.start == o12.x.leave)) with | true => (match (decide ((o12.out.length + 1) * 56 ≤ 140737488355328)) with | true => next ⟨o12.legs, o12.pieces, o12.u, (wr (o12.i + 1)), (o12.out ++ ([⟨⟨(v73 o12.u o12.x.to_), (v73_1 o12.u o12.x.to_)⟩, ⟨(v73_2 o12.u o12.x.to_), (v73_3 o12.u o12.x.to_)⟩, o12.x.arrive, o12.x.leave, o12.u.level⟩] : List Box))⟩ | false => none) | false => next ⟨o12.legs, o12.pieces, o12.u, (wr (o12.i + 1)), o12.out⟩)) | false => none) | false => out s)
def out34_7 (k : Ex → List PV → Heap → Option R) (o : S34_7) : Option R := k (.exit 0) o.enc o.encH
def fuel34_7 (s : S34_7) : Nat := s.legs.length + 1
def K34 : Keep := fun i => match i with
  | 7 => ([1, 2, 3, 8, 9], [16])
  | 12 => ([1, 2, 3, 8, 9, 10, 11, 12], [16, 18])
  | _ => ([], [])
def L34 : Lam := fun b vs hs k => match loopId b with
  | 7 => loopL dec34_7 st34_7 fuel34_7 out34_7 b vs hs k
  | 12 => loopL dec34_12 st34_12 fuel34_12 out34_12 b vs hs k
  | _ => none
noncomputable def b34_12 : Code := (loopsOf (bodyOf Tryd.f34)).getD 1 .skip
noncomputable def b34_7 : Code := (loopsOf (bodyOf Tryd.f34)).getD 0 .skip
theorem step34_12 (gl : Gl) (j : Nat) (s : S34_12) (k : Ex → List PV → Heap → Option R) : unroll (cx gl (mkG [(72, F72), (68, F68), (73, F73), (20, F20), (36, F36), (56, F56)]) [] [16]) K34 L34 Tryd.f34.ntmps (Tryd.f34.ntmps + 16) b34_12 (j + 1) s.enc s.encH k = st34_12 s (fun s' => unroll (cx gl (mkG [(72, F72), (68, F68), (73, F73), (20, F20), (36, F36), (56, F56)]) [] [16]) K34 L34 Tryd.f34.ntmps (Tryd.f34.ntmps + 16) b34_12 j s'.enc s'.encH k) (out34_12 k) := by kernel_rfl
theorem step34_7 (gl : Gl) (j : Nat) (s : S34_7) (k : Ex → List PV → Heap → Option R) : unroll (cx gl (mkG [(72, F72), (68, F68), (73, F73), (20, F20), (36, F36), (56, F56)]) [] [16]) K34 L34 Tryd.f34.ntmps (Tryd.f34.ntmps + 16) b34_7 (j + 1) s.enc s.encH k = st34_7 s (fun s' => unroll (cx gl (mkG [(72, F72), (68, F68), (73, F73), (20, F20), (36, F36), (56, F56)]) [] [16]) K34 L34 Tryd.f34.ntmps (Tryd.f34.ntmps + 16) b34_7 j s'.enc s'.encH k) (out34_7 k) := by kernel_rfl
theorem l34 (gl : Gl) : LoopsOk (cx gl (mkG [(72, F72), (68, F68), (73, F73), (20, F20), (36, F36), (56, F56)]) [] [16]) K34 L34 Tryd.f34.ntmps (Tryd.f34.ntmps + 16) (loopsOf (bodyOf Tryd.f34)) := by
  refine loopsOk_list (l := [b34_7, b34_12]) (by kernel_rfl) ?_
  exact List.forall_mem_cons.2 ⟨loopOk1 (fuel := fuel34_7) (enc := S34_7.enc) (encH := S34_7.encH) (fun vs hs k => by kernel_rfl) dec_enc34_7 (step34_7 gl ), List.forall_mem_cons.2 ⟨loopOk1 (fuel := fuel34_12) (enc := S34_12.enc) (encH := S34_12.encH) (fun vs hs k => by kernel_rfl) dec_enc34_12 (step34_12 gl ), (fun _ h => by simp at h)⟩⟩
def pFrom (x : Leg) (p j : Int) : Int := wr (x.start + wr (Int.tdiv (wr (wr (x.arrive - x.start) * j)) p))
def pTo (x : Leg) (p j : Int) : Int := wr (x.start + v72 (wr (wr (x.arrive - x.start) * wr (j + 1))) p)
def boxJ (u : Unit') (x : Leg) (p j : Int) : Box :=
  ⟨⟨v73 u ⟨imin (prX x (pFrom x p j)) (prX x (pTo x p j)), imin (prY x (pFrom x p j)) (prY x (pTo x p j))⟩, v73_1 u ⟨imin (prX x (pFrom x p j)) (prX x (pTo x p j)), imin (prY x (pFrom x p j)) (prY x (pTo x p j))⟩⟩,
    ⟨v73_2 u ⟨imax (prHX x (pFrom x p j)) (prHX x (pTo x p j)), imax (prHY x (pFrom x p j)) (prHY x (pTo x p j))⟩, v73_3 u ⟨imax (prHX x (pFrom x p j)) (prHX x (pTo x p j)), imax (prHY x (pFrom x p j)) (prHY x (pTo x p j))⟩⟩,
    pFrom x p j, pTo x p j, u.level⟩
def boxStay (u : Unit') (x : Leg) : Box := ⟨⟨v73 u x.to_, v73_1 u x.to_⟩, ⟨v73_2 u x.to_, v73_3 u x.to_⟩, x.arrive, x.leave, u.level⟩
def stays (x : Leg) : Bool := bif (decide (x.arrive < x.leave)) then true else (x.start == x.leave)
/-- So many pieces does a leg's way have. -/
def nP (x : Leg) (p : Int) : Nat := bif (decide (wr (x.arrive - x.start) > 0)) then p.toNat else 0
def pcs (u : Unit') (x : Leg) (p : Int) (m : Nat) : List Box := (List.range' 0 m).map fun j : Nat => boxJ u x p (j : Int)
def boxesL (u : Unit') (x : Leg) (p : Int) : List Box := pcs u x p (nP x p) ++ (bif stays x then [boxStay u x] else [])
def boxesOf (u : Unit') (l : List Leg) (p : Int) : List Box := l.flatMap fun x => boxesL u x p
theorem pcs_succ (u : Unit') (x : Leg) (p : Int) (m : Nat) : pcs u x p (m + 1) = pcs u x p m ++ [boxJ u x p (m : Int)] := by
  unfold pcs
  rw [List.range'_1_concat, List.map_append]
  simp
theorem pcs_len (u : Unit') (x : Leg) (p : Int) (m : Nat) : (pcs u x p m).length = m := by simp [pcs]
theorem nP_le {x : Leg} {p : Int} (hp : 1 ≤ p ∧ p ≤ 20) : nP x p ≤ p.toNat ∧ p.toNat ≤ 20 := by
  unfold nP
  cases decide (wr (x.arrive - x.start) > 0) with
  | true => exact ⟨Nat.le_refl _, by omega⟩
  | false => exact ⟨Nat.zero_le _, by omega⟩
theorem p_eq {x : Leg} (hx : LegP x) {p : Int} (hp : 1 ≤ p ∧ p ≤ 20) {j : Int} (hj : 0 ≤ j ∧ j ≤ 20) :
    pFrom x p j = x.start + (x.arrive - x.start) * j / p ∧ pTo x p j = x.start + ((x.arrive - x.start) * (j + 1) + p - 1) / p ∧ x.start ≤ pFrom x p j ∧ x.start ≤ pTo x p j ∧ wr (x.arrive - x.start) = x.arrive - x.start := by
  have h1 := hx.s0
  have h2 := hx.sa
  have h3 := hx.al
  have h4 := hx.l1
  have ht : wr (x.arrive - x.start) = x.arrive - x.start := wr_small (by omega) (by omega)
  have m1 := mul_bound (a := x.arrive - x.start) (b := j) (A := 1073741824) (B := 20) (by omega) hj (by omega)
  have m2 := mul_bound (a := x.arrive - x.start) (b := j + 1) (A := 1073741824) (B := 21) (by omega) (by omega) (by omega)
  have n1 : 0 ≤ (x.arrive - x.start) * j := Int.mul_nonneg (by omega) hj.1
  have n2 : 0 ≤ (x.arrive - x.start) * (j + 1) := Int.mul_nonneg (by omega) (by omega)
  have hj1 : wr (j + 1) = j + 1 := wr_small (by omega) (by omega)
  have d1 := Int.ediv_nonneg n1 (show 0 ≤ p by omega)
  have d2 := Int.ediv_le_self p n1
  have h60 : (2 : Int) ^ 60 = 1152921504606846976 := by decide
  have hc := ceil_eq (n := (x.arrive - x.start) * (j + 1)) (b := p) (by omega) (by omega)
  have e1 : pFrom x p j = x.start + (x.arrive - x.start) * j / p := by
    unfold pFrom
    rw [ht, wr_small (x := (x.arrive - x.start) * j) (by omega) (by omega), Int.tdiv_eq_ediv_of_nonneg n1, wr_small (x := (x.arrive - x.start) * j / p) (by omega) (by omega), wr_small (by omega) (by omega)]
  have e2 : pTo x p j = x.start + ((x.arrive - x.start) * (j + 1) + p - 1) / p := by
    unfold pTo
    rw [ht, hj1, wr_small (x := (x.arrive - x.start) * (j + 1)) (by omega) (by omega), ← hc.1, wr_small (by omega) (by omega)]
  refine ⟨e1, e2, by omega, ?_, ht⟩
  rw [e2, ← hc.1]
  omega
theorem boxesL_len (u : Unit') (x : Leg) {p : Int} (hp : 1 ≤ p ∧ p ≤ 20) : (boxesL u x p).length ≤ 21 := by
  unfold boxesL
  rw [List.length_append, pcs_len]
  have := nP_le (x := x) hp
  cases stays x <;> simp <;> omega
theorem boxesOf_len (u : Unit') {p : Int} (hp : 1 ≤ p ∧ p ≤ 20) : ∀ l : List Leg, (boxesOf u l p).length ≤ 21 * l.length
  | [] => by simp [boxesOf]
  | x :: l => by
    have h1 := boxesOf_len u hp l
    have h2 := boxesL_len u x hp
    unfold boxesOf at h1 ⊢
    rw [List.flatMap_cons, List.length_append, List.length_cons]
    omega
theorem boxesOf_take (u : Unit') (l : List Leg) (p : Int) (k : Nat) (hk : k < l.length) : boxesOf u (l.take (k + 1)) p = boxesOf u (l.take k) p ++ boxesL u (atN .leg l k) p := by
  rw [List.take_add_one, atN_nat (T := .leg) hk, List.getElem?_eq_getElem hk]
  unfold boxesOf
  rw [List.flatMap_append]
  simp
theorem inner33 {ρ : Type} (u : Unit') (legs : List Leg) (x : Leg) (pieces n i : Int) (out : List Box) (K : S33_11 → Option ρ) (hx : LegP x) (hp : 1 ≤ pieces ∧ pieces ≤ 20) (ho : out.length ≤ 30000000) :
    iter st33_11 (fuel33_11 (⟨pieces, u, wr (x.arrive - x.start), 0, legs, n, i, out, x⟩ : S33_11)) (⟨pieces, u, wr (x.arrive - x.start), 0, legs, n, i, out, x⟩ : S33_11) K = K (⟨pieces, u, wr (x.arrive - x.start), (nP x pieces : Int), legs, n, i, out ++ pcs u x pieces (nP x pieces), x⟩ : S33_11) := by
  have hn := nP_le (x := x) hp
  have c1 : (!(pieces == 0)) = true := bnz hp.1
  refine iter_each (step := st33_11) (F := fun j => (⟨pieces, u, wr (x.arrive - x.start), (j : Int), legs, n, i, out ++ pcs u x pieces j, x⟩ : S33_11)) (⟨pieces, u, wr (x.arrive - x.start), (nP x pieces : Int), legs, n, i, out ++ pcs u x pieces (nP x pieces), x⟩ : S33_11) (nP x pieces) K (fun j next hj => ?_) (fun next => ?_) _ (show nP x pieces + 1 ≤ pieces.toNat + 1 by omega) _ (by simp [pcs])
  · have hT : decide (wr (x.arrive - x.start) > 0) = true := by
      cases h : decide (wr (x.arrive - x.start) > 0) with
      | true => rfl
      | false => unfold nP at hj; rw [h] at hj; exact absurd hj (Nat.not_lt_zero _)
    have hjp : decide ((j : Int) < pieces) = true := decide_eq_true (by omega)
    obtain ⟨_, _, g1, g2, _⟩ := p_eq hx hp (j := (j : Int)) (by omega)
    obtain ⟨a1, a2, a3, a4, a5, a6⟩ := place_eq hx g1
    obtain ⟨b1, b2, b3, b4, b5, b6⟩ := place_eq hx g2
    have h4 : decide (((out ++ pcs u x pieces j).length + 1) * 56 ≤ 140737488355328) = true := by rw [List.length_append, pcs_len]; exact decide_eq_true (by omega)
    have hwr : wr ((j : Int) + 1) = ((j + 1 : Nat) : Int) := wr_succ (by omega)
    simp only [st33_11]
    rw [show (bif (decide (wr (x.arrive - x.start) > 0)) then (decide ((j : Int) < pieces)) else false) = true by rw [hT, hjp]; rfl, c1, show c70 pieces = true from c1]
    show (match c66 x (pFrom x pieces j) with | true => (match c66 x (pTo x pieces j) with | true => (match decide (((out ++ pcs u x pieces j).length + 1) * 56 ≤ 140737488355328) with | true => _ | false => none) | false => none) | false => none) = _
    rw [a5, b5, h4]
    show next (⟨pieces, u, wr (x.arrive - x.start), wr ((j : Int) + 1), legs, n, i, (out ++ pcs u x pieces j) ++ [⟨⟨v73 u ⟨imin (plX x (pFrom x pieces j)) (plX x (pTo x pieces j)), imin (plY x (pFrom x pieces j)) (plY x (pTo x pieces j))⟩, v73_1 u ⟨imin (plX x (pFrom x pieces j)) (plX x (pTo x pieces j)), imin (plY x (pFrom x pieces j)) (plY x (pTo x pieces j))⟩⟩, ⟨v73_2 u ⟨imax (plHX x (pFrom x pieces j)) (plHX x (pTo x pieces j)), imax (plHY x (pFrom x pieces j)) (plHY x (pTo x pieces j))⟩, v73_3 u ⟨imax (plHX x (pFrom x pieces j)) (plHX x (pTo x pieces j)), imax (plHY x (pFrom x pieces j)) (plHY x (pTo x pieces j))⟩⟩, pFrom x pieces j, pTo x pieces j, u.level⟩], x⟩ : S33_11) = _
    rw [pcs_succ, ← List.append_assoc, hwr]
    congr 4
    unfold boxJ
    rw [← a1, ← a2, ← a3, ← a4, ← b1, ← b2, ← b3, ← b4]
    try rfl
  · have hend : ((bif (decide (wr (x.arrive - x.start) > 0)) then (decide ((nP x pieces : Int) < pieces)) else false)) = false := by
      unfold nP
      cases h : decide (wr (x.arrive - x.start) > 0) with
      | true =>
        have : decide (((bif true then pieces.toNat else 0 : Nat) : Int) < pieces) = false := decide_eq_false (by show ¬ ((pieces.toNat : Int) < pieces); omega)
        rw [this]
        first | rfl | (cases decide (wr (x.arrive - x.start) > 0) <;> rfl)
      | false => first | rfl | (cases decide (((bif false then pieces.toNat else 0 : Nat) : Int) < pieces) <;> rfl)
    simp only [st33_11]
    rw [hend]
theorem inner34 {ρ : Type} (u : Unit') (legs : List Leg) (x : Leg) (pieces n i : Int) (out : List Box) (K : S34_12 → Option ρ) (hx : LegP x) (hp : 1 ≤ pieces ∧ pieces ≤ 20) (ho : out.length ≤ 30000000) :
    iter st34_12 (fuel34_12 (⟨legs, pieces, u, i, wr (x.arrive - x.start), 0, out, x⟩ : S34_12)) (⟨legs, pieces, u, i, wr (x.arrive - x.start), 0, out, x⟩ : S34_12) K = K (⟨legs, pieces, u, i, wr (x.arrive - x.start), (nP x pieces : Int), out ++ pcs u x pieces (nP x pieces), x⟩ : S34_12) := by
  have hn := nP_le (x := x) hp
  have c1 : (!(pieces == 0)) = true := bnz hp.1
  refine iter_each (step := st34_12) (F := fun j => (⟨legs, pieces, u, i, wr (x.arrive - x.start), (j : Int), out ++ pcs u x pieces j, x⟩ : S34_12)) (⟨legs, pieces, u, i, wr (x.arrive - x.start), (nP x pieces : Int), out ++ pcs u x pieces (nP x pieces), x⟩ : S34_12) (nP x pieces) K (fun j next hj => ?_) (fun next => ?_) _ (show nP x pieces + 1 ≤ pieces.toNat + 1 by omega) _ (by simp [pcs])
  · have hT : decide (wr (x.arrive - x.start) > 0) = true := by
      cases h : decide (wr (x.arrive - x.start) > 0) with
      | true => rfl
      | false => unfold nP at hj; rw [h] at hj; exact absurd hj (Nat.not_lt_zero _)
    have hjp : decide ((j : Int) < pieces) = true := decide_eq_true (by omega)
    obtain ⟨_, _, g1, g2, _⟩ := p_eq hx hp (j := (j : Int)) (by omega)
    obtain ⟨a1, a2, a3, a4, a5, a6⟩ := place_eq hx g1
    obtain ⟨b1, b2, b3, b4, b5, b6⟩ := place_eq hx g2
    have h4 : decide (((out ++ pcs u x pieces j).length + 1) * 56 ≤ 140737488355328) = true := by rw [List.length_append, pcs_len]; exact decide_eq_true (by omega)
    have hwr : wr ((j : Int) + 1) = ((j + 1 : Nat) : Int) := wr_succ (by omega)
    simp only [st34_12]
    rw [show (bif (decide ((j : Int) < pieces)) then (decide (wr (x.arrive - x.start) > 0)) else false) = true by rw [hT, hjp]; rfl, c1, show c72 pieces = true from c1]
    show (match c68 x (pFrom x pieces j) with | true => (match c68 x (pTo x pieces j) with | true => (match decide (((out ++ pcs u x pieces j).length + 1) * 56 ≤ 140737488355328) with | true => _ | false => none) | false => none) | false => none) = _
    rw [a6, b6, h4]
    show next (⟨legs, pieces, u, i, wr (x.arrive - x.start), wr ((j : Int) + 1), (out ++ pcs u x pieces j) ++ [⟨⟨v73 u ⟨imin (prX x (pFrom x pieces j)) (prX x (pTo x pieces j)), imin (prY x (pFrom x pieces j)) (prY x (pTo x pieces j))⟩, v73_1 u ⟨imin (prX x (pFrom x pieces j)) (prX x (pTo x pieces j)), imin (prY x (pFrom x pieces j)) (prY x (pTo x pieces j))⟩⟩, ⟨v73_2 u ⟨imax (prHX x (pFrom x pieces j)) (prHX x (pTo x pieces j)), imax (prHY x (pFrom x pieces j)) (prHY x (pTo x pieces j))⟩, v73_3 u ⟨imax (prHX x (pFrom x pieces j)) (prHX x (pTo x pieces j)), imax (prHY x (pFrom x pieces j)) (prHY x (pTo x pieces j))⟩⟩, pFrom x pieces j, pTo x pieces j, u.level⟩], x⟩ : S34_12) = _
    rw [pcs_succ, ← List.append_assoc, hwr]
    congr 4
  · have hend : ((bif (decide ((nP x pieces : Int) < pieces)) then (decide (wr (x.arrive - x.start) > 0)) else false)) = false := by
      unfold nP
      cases h : decide (wr (x.arrive - x.start) > 0) with
      | true =>
        have : decide (((bif true then pieces.toNat else 0 : Nat) : Int) < pieces) = false := decide_eq_false (by show ¬ ((pieces.toNat : Int) < pieces); omega)
        rw [this]
        first | rfl | (cases decide (wr (x.arrive - x.start) > 0) <;> rfl)
      | false => first | rfl | (cases decide (((bif false then pieces.toNat else 0 : Nat) : Int) < pieces) <;> rfl)
    simp only [st34_12]
    rw [hend]
theorem outer33 {ρ : Type} (u : Unit') (legs : List Leg) (pieces : Int) (K : S33_7 → Option ρ) (hL : LegsP legs) (hp : 1 ≤ pieces ∧ pieces ≤ 20) (hl : legs.length ≤ 1000000) :
    iter st33_7 (fuel33_7 (⟨pieces, u, legs, (legs.length : Int), 0, ([])⟩ : S33_7)) (⟨pieces, u, legs, (legs.length : Int), 0, ([])⟩ : S33_7) K = K (⟨pieces, u, legs, (legs.length : Int), (legs.length : Int), boxesOf u legs pieces⟩ : S33_7) := by
  refine iter_each (step := st33_7) (F := fun k => (⟨pieces, u, legs, (legs.length : Int), (k : Int), boxesOf u (legs.take k) pieces⟩ : S33_7)) (⟨pieces, u, legs, (legs.length : Int), (legs.length : Int), boxesOf u legs pieces⟩ : S33_7) legs.length K (fun k next hk => ?_) (fun next => ?_) _ (show legs.length + 1 ≤ legs.length + 1 from Nat.le_refl _) _ (by simp [boxesOf])
  · have hx : LegP (atN .leg legs k) := by rw [atN_nat (T := .leg) hk]; exact hL.leg k hk
    have hb := boxesOf_len u hp (legs.take k)
    have hb2 : (legs.take k).length = k := by rw [List.length_take]; omega
    have ho : (boxesOf u (legs.take k) pieces).length ≤ 30000000 := by omega
    have hn := nP_le (x := atN .leg legs k) hp
    have h4 : decide (((boxesOf u (legs.take k) pieces ++ pcs u (atN .leg legs k) pieces (nP (atN .leg legs k) pieces)).length + 1) * 56 ≤ 140737488355328) = true := by
      rw [List.length_append, pcs_len]; exact decide_eq_true (by omega)
    have hwr : wr ((k : Int) + 1) = ((k + 1 : Nat) : Int) := wr_succ (by omega)
    simp only [st33_7, decLt_nat hk, inB_nat hk, atD, Int.toNat_natCast]
    rw [inner33 u legs (atN .leg legs k) pieces (legs.length : Int) (k : Int) (boxesOf u (legs.take k) pieces) _ hx hp ho]
    show (match stays (atN .leg legs k) with | true => (match decide (((boxesOf u (legs.take k) pieces ++ pcs u (atN .leg legs k) pieces (nP (atN .leg legs k) pieces)).length + 1) * 56 ≤ 140737488355328) with
      | true => next (⟨pieces, u, legs, (legs.length : Int), wr ((k : Int) + 1), (boxesOf u (legs.take k) pieces ++ pcs u (atN .leg legs k) pieces (nP (atN .leg legs k) pieces)) ++ [boxStay u (atN .leg legs k)]⟩ : S33_7) | false => none) | false => next (⟨pieces, u, legs, (legs.length : Int), wr ((k : Int) + 1), boxesOf u (legs.take k) pieces ++ pcs u (atN .leg legs k) pieces (nP (atN .leg legs k) pieces)⟩ : S33_7)) = _
    rw [h4, hwr, boxesOf_take u legs pieces k hk]
    unfold boxesL
    cases stays (atN .leg legs k) with
    | true => rw [List.append_assoc]; rfl
    | false => simp only [cond_false, List.append_nil]
  · simp only [st33_7, decLt_self]
    rw [List.take_length]
theorem outer34 {ρ : Type} (u : Unit') (legs : List Leg) (pieces : Int) (K : S34_7 → Option ρ) (hL : LegsP legs) (hp : 1 ≤ pieces ∧ pieces ≤ 20) (hl : legs.length ≤ 1000000) :
    iter st34_7 (fuel34_7 (⟨legs, pieces, u, 0, ([])⟩ : S34_7)) (⟨legs, pieces, u, 0, ([])⟩ : S34_7) K = K (⟨legs, pieces, u, (legs.length : Int), boxesOf u legs pieces⟩ : S34_7) := by
  refine iter_each (step := st34_7) (F := fun k => (⟨legs, pieces, u, (k : Int), boxesOf u (legs.take k) pieces⟩ : S34_7)) (⟨legs, pieces, u, (legs.length : Int), boxesOf u legs pieces⟩ : S34_7) legs.length K (fun k next hk => ?_) (fun next => ?_) _ (show legs.length + 1 ≤ legs.length + 1 from Nat.le_refl _) _ (by simp [boxesOf])
  · have hx : LegP (atN .leg legs k) := by rw [atN_nat (T := .leg) hk]; exact hL.leg k hk
    have hb := boxesOf_len u hp (legs.take k)
    have hb2 : (legs.take k).length = k := by rw [List.length_take]; omega
    have ho : (boxesOf u (legs.take k) pieces).length ≤ 30000000 := by omega
    have hn := nP_le (x := atN .leg legs k) hp
    have h4 : decide (((boxesOf u (legs.take k) pieces ++ pcs u (atN .leg legs k) pieces (nP (atN .leg legs k) pieces)).length + 1) * 56 ≤ 140737488355328) = true := by
      rw [List.length_append, pcs_len]; exact decide_eq_true (by omega)
    have hwr : wr ((k : Int) + 1) = ((k + 1 : Nat) : Int) := wr_succ (by omega)
    simp only [st34_7, decLt_nat hk, inB_nat hk, atD, Int.toNat_natCast]
    rw [inner34 u legs (atN .leg legs k) pieces 0 (k : Int) (boxesOf u (legs.take k) pieces) _ hx hp ho]
    show (match stays (atN .leg legs k) with | true => (match decide (((boxesOf u (legs.take k) pieces ++ pcs u (atN .leg legs k) pieces (nP (atN .leg legs k) pieces)).length + 1) * 56 ≤ 140737488355328) with
      | true => next (⟨legs, pieces, u, wr ((k : Int) + 1), (boxesOf u (legs.take k) pieces ++ pcs u (atN .leg legs k) pieces (nP (atN .leg legs k) pieces)) ++ [boxStay u (atN .leg legs k)]⟩ : S34_7) | false => none) | false => next (⟨legs, pieces, u, wr ((k : Int) + 1), boxesOf u (legs.take k) pieces ++ pcs u (atN .leg legs k) pieces (nP (atN .leg legs k) pieces)⟩ : S34_7)) = _
    rw [h4, hwr, boxesOf_take u legs pieces k hk]
    unfold boxesL
    cases stays (atN .leg legs k) with
    | true => rw [List.append_assoc]; rfl
    | false => simp only [cond_false, List.append_nil]
  · simp only [st34_7, decLt_self]
    rw [List.take_length]
/-- What Boxes asks first. -/
def bArg (u : Unit') (l : List Leg) : Bool := bif (!(unitOk u)) then true else (!(legsOk l))
def BxL (u : Unit') (l : List Leg) (p : Int) : List Box := bif bArg u l then [] else bif (!(within p 1 20)) then [] else boxesOf u l p
def BxE (u : Unit') (l : List Leg) (p : Int) : Int := bif bArg u l then 2 else bif (!(within p 1 20)) then 4 else 0
theorem bArg_ok {u : Unit'} {l : List Leg} (h : bArg u l = false) : unitOk u = true ∧ legsOk l = true := by
  unfold bArg at h
  revert h
  cases unitOk u <;> cases legsOk l <;> simp
theorem fn33 : FnOk 33 Tryd.f33 := ⟨by kernel_rfl, by kernel_rfl, by kernel_rfl, by kernel_rfl⟩
theorem e33 (gl : Gl) (u : Unit') (legs : List Leg) (pieces : Int) : evFn (cx gl (mkG [(70, F70), (66, F66), (71, F71), (19, F19), (64, F64), (55, F55)]) [] [16]) K33 L33 Tryd.f33 [.agg [.s u.name, .i .i64 u.speed, .i .i64 u.fuel, .i .i64 u.burn, .i .i64 u.reserve, .i .i64 u.hours, .i .i64 u.sea, .i .i64 u.wind, .i .i64 u.base.x, .i .i64 u.base.y, .i .i64 u.margin, .i .i64 u.level], .sl .leg legs, .i .i64 pieces] noObjs = (match ((decide (legs.length ≤ 1000000)) || ((!(unitOk u)) || false)) with | true => (match (bif (!(unitOk u)) then true else (!(legsOk legs))) with | true => an (.tup [.sl .box ([] : List Box), .i .i64 2]) | false => (match (!(within pieces 1 20)) with | true => an (.tup [.sl .box ([] : List Box), .i .i64 4]) | false => (iter st33_7 (fuel33_7 (⟨pieces, u, legs, (legs.length : Int), 0, ([])⟩ : S33_7)) (⟨pieces, u, legs, (legs.length : Int), 0, ([])⟩ : S33_7) fun o7 => an (.tup [.sl .box o7.out, .i .i64 0])))) | false => none) := by kernel_rfl
def F33 : List PV → Option (Bool × PV)
  | [.agg uL, .sl .leg legs, .i .i64 pieces] => (ETy.dec .unit uL).bind fun u => some ((decide (legs.length ≤ 1000000)), .tup [.sl .box (BxL u legs pieces), .i .i64 (BxE u legs pieces)])
  | _ => none
theorem s33 {gl : Gl} : Sum gl 33 F33 := by
  intro ps r h
  unfold F33 at h
  split at h
  · rename_i uL legs pieces
    obtain ⟨u, hu, h_u⟩ := Option.bind_eq_some_iff.1 h
    obtain rfl := dec_is (by simp) hu
    obtain ⟨hc, rfl⟩ := Prod.mk.inj (Option.some.inj h_u)
    refine call_by (K := K33) (L := L33) (bxs := []) (ows := [16]) (GOk.cons s70 (GOk.cons s66 (GOk.cons s71 (GOk.cons s19 (GOk.cons s64 (GOk.cons s55 (GOk.nil))))))) fn33 (l33 gl) (by kernel_rfl) (evF_some ((e33 gl u legs pieces).trans ?_))
    rw [hc]
    unfold BxL BxE
    show (match bArg u legs with | true => _ | false => (match (!(within pieces 1 20)) with | true => _ | false => _)) = _
    cases hA : bArg u legs with
    | true => rfl
    | false =>
      cases hP : within pieces 1 20 with
      | false => rfl
      | true => exact outer33 u legs pieces _ (legsOk_P (bArg_ok hA).2) ((within_iff _ _ _).1 hP) (of_decide_eq_true hc)
  · simp at h
theorem fn34 : FnOk 34 Tryd.f34 := ⟨by kernel_rfl, by kernel_rfl, by kernel_rfl, by kernel_rfl⟩
theorem e34 (gl : Gl) (u : Unit') (l : List Leg) (pieces : Int) : evFn (cx gl (mkG [(72, F72), (68, F68), (73, F73), (20, F20), (36, F36), (56, F56)]) [] [16]) K34 L34 Tryd.f34 [.agg [.s u.name, .i .i64 u.speed, .i .i64 u.fuel, .i .i64 u.burn, .i .i64 u.reserve, .i .i64 u.hours, .i .i64 u.sea, .i .i64 u.wind, .i .i64 u.base.x, .i .i64 u.base.y, .i .i64 u.margin, .i .i64 u.level], .sl .leg l, .i .i64 pieces] noObjs = (match ((decide (l.length ≤ 1000000)) || ((!(unitOk u)) || false)) with | true => (match (bif (!(unitOk u)) then true else (!(legsOk l))) with | true => an (.tup [.sl .box ([] : List Box), .i .i64 2]) | false => (match (!(In pieces 1 20)) with | true => an (.tup [.sl .box ([] : List Box), .i .i64 4]) | false => (iter st34_7 (fuel34_7 (⟨l, pieces, u, 0, ([])⟩ : S34_7)) (⟨l, pieces, u, 0, ([])⟩ : S34_7) fun o7 => an (.tup [.sl .box o7.out, .i .i64 0])))) | false => none) := by kernel_rfl
def F34 : List PV → Option (Bool × PV)
  | [.agg uL, .sl .leg l, .i .i64 pieces] => (ETy.dec .unit uL).bind fun u => some ((decide (l.length ≤ 1000000)), .tup [.sl .box (BxL u l pieces), .i .i64 (BxE u l pieces)])
  | _ => none
theorem s34 {gl : Gl} : Sum gl 34 F34 := by
  intro ps r h
  unfold F34 at h
  split at h
  · rename_i uL l pieces
    obtain ⟨u, hu, h_u⟩ := Option.bind_eq_some_iff.1 h
    obtain rfl := dec_is (by simp) hu
    obtain ⟨hc, rfl⟩ := Prod.mk.inj (Option.some.inj h_u)
    refine call_by (K := K34) (L := L34) (bxs := []) (ows := [16]) (GOk.cons s72 (GOk.cons s68 (GOk.cons s73 (GOk.cons s20 (GOk.cons s36 (GOk.cons s56 (GOk.nil))))))) fn34 (l34 gl) (by kernel_rfl) (evF_some ((e34 gl u l pieces).trans ?_))
    rw [hc]
    unfold BxL BxE
    show (match bArg u l with | true => _ | false => (match (!(within pieces 1 20)) with | true => _ | false => _)) = _
    cases hA : bArg u l with
    | true => rfl
    | false =>
      cases hP : within pieces 1 20 with
      | false => rfl
      | true => exact outer34 u l pieces _ (legsOk_P (bArg_ok hA).2) ((within_iff _ _ _).1 hP) (of_decide_eq_true hc)
  · simp at h
theorem eo33o (gl : Gl) (u : Unit') (legs : List Leg) (pieces : Int) : evO (cxo gl (mkG [(70, F70), (66, F66), (71, F71), (19, F19), (64, F64), (55, F55)]) (mkO []) none [] rlT [] [16]) K33 L33 0 Tryd.f33 [.agg [.s u.name, .i .i64 u.speed, .i .i64 u.fuel, .i .i64 u.burn, .i .i64 u.reserve, .i .i64 u.hours, .i .i64 u.sea, .i .i64 u.wind, .i .i64 u.base.x, .i .i64 u.base.y, .i .i64 u.margin, .i .i64 u.level], .sl .leg legs, .i .i64 pieces] [none, none, none, none, none, none, none, none] = (match ((decide (legs.length ≤ 1000000)) || ((!(unitOk u)) || false)) with | true => (match (bif (!(unitOk u)) then true else (!(legsOk legs))) with | true => ao (.tup [.own 0, .i .i64 2]) [some (.row .box 87 ([])), none, none, none, none, none, none, none] | false => (match (!(within pieces 1 20)) with | true => ao (.tup [.own 0, .i .i64 4]) [some (.row .box 87 ([])), none, none, none, none, none, none, none] | false => (iter st33_7 (fuel33_7 (⟨pieces, u, legs, (legs.length : Int), 0, ([])⟩ : S33_7)) (⟨pieces, u, legs, (legs.length : Int), 0, ([])⟩ : S33_7) fun o7 => ao (.tup [.own 0, .i .i64 0]) [some (.row .box 87 o7.out), none, none, none, none, none, none, none]))) | false => none) := by kernel_rfl
def FO33o : ObjF
  | [.agg uL, .sl .leg legs, .i .i64 pieces], [none, none, none, none, none, none, none, none] => (ETy.dec .unit uL).bind fun u => some ((decide (legs.length ≤ 1000000)), .tup [.own 0, .i .i64 (BxE u legs pieces)], [some (.row .box 87 (BxL u legs pieces)), none, none, none, none, none, none, none])
  | _, _ => none
theorem so33o {gl : Gl} : OSum gl 33 FO33o := by
  intro ps os r os2 h
  unfold FO33o at h
  split at h
  · rename_i uL legs pieces
    obtain ⟨u, hu, h_u⟩ := Option.bind_eq_some_iff.1 h
    obtain rfl := dec_is (by simp) hu
    obtain ⟨hc, h2_⟩ := Prod.mk.inj (Option.some.inj h_u)
    obtain ⟨rfl, rfl⟩ := Prod.mk.inj h2_
    refine obj_by (K := K33) (L := L33) (bxs := []) (ows := [16]) (n0 := 0) (GOk.cons s70 (GOk.cons s66 (GOk.cons s71 (GOk.cons s19 (GOk.cons s64 (GOk.cons s55 (GOk.nil))))))) (OOk.nil) fn33 (l33 gl) (by kernel_rfl) ((eo33o gl u legs pieces).trans ?_)
    rw [hc]
    unfold BxL BxE
    show (match bArg u legs with | true => _ | false => (match (!(within pieces 1 20)) with | true => _ | false => _)) = _
    cases hA : bArg u legs with
    | true => rfl
    | false =>
      cases hP : within pieces 1 20 with
      | false => rfl
      | true => exact outer33 u legs pieces _ (legsOk_P (bArg_ok hA).2) ((within_iff _ _ _).1 hP) (of_decide_eq_true hc)
  · simp at h
end Go.Proofs.YtnbcmgdogohenaaDoor.Ev
/- Summaries of functions, printed by a program out of a list, and what is made of them. -/
namespace Go.Proofs.YtnbcmgdogohenaaDoor.Ev
open Go Go.RowKit Go.Proofs
theorem fn75 : FnOk 75 Tryd.f75 := ⟨by kernel_rfl, by kernel_rfl, by kernel_rfl, by kernel_rfl⟩
theorem e75 (gl : Gl) (y : Box) (x : Box) : evFn (cx gl (mkG [(76, F76)]) [] []) noK noL Tryd.f75 [.agg [.i .i64 y.low.x, .i .i64 y.low.y, .i .i64 y.high.x, .i .i64 y.high.y, .i .i64 y.fr, .i .i64 y.to_, .i .i64 y.level], .ptr [.i .i64 x.low.x, .i .i64 x.low.y, .i .i64 x.high.x, .i .i64 x.high.y, .i .i64 x.fr, .i .i64 x.to_, .i .i64 x.level] 0] noObjs = an (.b (meet x y)) := by kernel_rfl
def F75 : List PV → Option (Bool × PV)
  | [.agg yL, .ptr xL 0] => (ETy.dec .box yL).bind fun y => (ETy.dec .box xL).bind fun x => some (true, .b (meet x y))
  | _ => none
theorem s75 {gl : Gl} : Sum gl 75 F75 := by
  intro ps r h
  unfold F75 at h
  split at h
  · rename_i yL xL
    obtain ⟨y, hy, h_y⟩ := Option.bind_eq_some_iff.1 h
    obtain rfl := dec_is (by simp) hy
    obtain ⟨x, hx, h_x⟩ := Option.bind_eq_some_iff.1 h_y
    obtain rfl := dec_is (by simp) hx
    obtain ⟨hc, rfl⟩ := Prod.mk.inj (Option.some.inj h_x)
    refine call_by (K := noK) (L := noL) (bxs := []) (ows := []) (GOk.cons s76 (GOk.nil)) fn75 (noLoops (by kernel_rfl)) (by kernel_rfl) (evF_some ((e75 gl y x).trans ?_))
    rfl
  · simp at h
structure S74_2 where
  xs : List Box
  x : Box
  r : Int
  n : Int
  i : Int
def S74_2.enc (s : S74_2) : List PV := [.sl .box s.xs, .fn (.func 75) [] [.ptr [.i .i64 s.x.low.x, .i .i64 s.x.low.y, .i .i64 s.x.high.x, .i .i64 s.x.high.y, .i .i64 s.x.fr, .i .i64 s.x.to_, .i .i64 s.x.level] 0], .i .i64 s.r, .i .i64 s.n, .i .i64 s.i]
def S74_2.encH (s : S74_2) : Heap := []
def dec74_2 : List PV → Heap → Option S74_2
  | [.sl .box xs_, .fn (.func 75) [] [.ptr xL 0], .i .i64 r_, .i .i64 n_, .i .i64 i_], [] => (ETy.dec .box xL).bind fun x_ => some ⟨xs_, x_, r_, n_, i_⟩
  | _, _ => none
theorem dec_enc74_2 (vs : List PV) (hs : Heap) (s : S74_2) (h : dec74_2 vs hs = some s) : vs = s.enc ∧ hs = s.encH := by
  unfold dec74_2 at h
  split at h
  · obtain ⟨x_, hx, h_x⟩ := Option.bind_eq_some_iff.1 h
    obtain rfl := dec_is (by simp) hx
    obtain rfl := Option.some.inj h_x
    exact ⟨rfl, rfl⟩
  · simp at h
def st74_2 {ρ : Type} (s : S74_2) (next : S74_2 → Option ρ) (out : S74_2 × Bool → Option ρ) : Option ρ := (match (decide (s.i < s.n)) with | true => (match (inB s.i s.xs.length) with | true => (match (meet s.x (atD .box s.xs s.i)) with | true => out (⟨s.xs, s.x, s.i, s.n, s.i⟩, true) | false => next ⟨s.xs, s.x, s.r, s.n, (wr (s.i + 1))⟩) | false => none) | false => out (s, false))
def out74_2 (k : Ex → List PV → Heap → Option R) (o : S74_2 × Bool) : Option R := match o.2 with
  | true => k .ret o.1.enc o.1.encH
  | false => k (.exit 0) o.1.enc o.1.encH
def fuel74_2 (s : S74_2) : Nat := s.xs.length + 1
def K74 : Keep := fun _ => ([0, 1, 4, 7, 8], [])
def L74 : Lam := loopL dec74_2 st74_2 fuel74_2 out74_2
noncomputable def b74_2 : Code := (loopsOf (bodyOf Tryd.f74)).getD 0 .skip
theorem step74_2 (gl : Gl) (j : Nat) (s : S74_2) (k : Ex → List PV → Heap → Option R) : unroll (cx gl (mkG [(75, F75)]) [] []) K74 L74 Tryd.f74.ntmps (Tryd.f74.ntmps + 16) b74_2 (j + 1) s.enc s.encH k = st74_2 s (fun s' => unroll (cx gl (mkG [(75, F75)]) [] []) K74 L74 Tryd.f74.ntmps (Tryd.f74.ntmps + 16) b74_2 j s'.enc s'.encH k) (out74_2 k) := by kernel_rfl
theorem l74 (gl : Gl) : LoopsOk (cx gl (mkG [(75, F75)]) [] []) K74 L74 Tryd.f74.ntmps (Tryd.f74.ntmps + 16) (loopsOf (bodyOf Tryd.f74)) := by
  refine loopsOk_list (l := [b74_2]) (by kernel_rfl) ?_
  exact List.forall_mem_cons.2 ⟨loopOk1 (fuel := fuel74_2) (enc := S74_2.enc) (encH := S74_2.encH) (fun vs hs k => by kernel_rfl) dec_enc74_2 (step74_2 gl ), (fun _ h => by simp at h)⟩
theorem fn74 : FnOk 74 Tryd.f74 := ⟨by kernel_rfl, by kernel_rfl, by kernel_rfl, by kernel_rfl⟩
theorem e74 (gl : Gl) (xs : List Box) (x : Box) : evFn (cx gl (mkG [(75, F75)]) [] []) K74 L74 Tryd.f74 [.sl .box xs, .fn (.func 75) [] [.ptr [.i .i64 x.low.x, .i .i64 x.low.y, .i .i64 x.high.x, .i .i64 x.high.y, .i .i64 x.fr, .i .i64 x.to_, .i .i64 x.level] 0]] noObjs = (iter st74_2 (fuel74_2 (⟨xs, x, 0, (xs.length : Int), 0⟩ : S74_2)) (⟨xs, x, 0, (xs.length : Int), 0⟩ : S74_2) fun o2 => (match o2.2 with | true => an (.i .i64 o2.1.r) | false => an (.i .i64 (-1)))) := by kernel_rfl
def F74 : List PV → Option (Bool × PV)
  | [.sl .box xs, .fn (.func 75) [] [.ptr xL 0]] => (ETy.dec .box xL).bind fun x => some ((decide (xs.length ≤ 1000000)), .i .i64 (idxI (fun y => meet x y) xs))
  | _ => none
theorem s74 {gl : Gl} : Sum gl 74 F74 := by
  intro ps r h
  unfold F74 at h
  split at h
  · rename_i xs xL
    obtain ⟨x, hx, h_x⟩ := Option.bind_eq_some_iff.1 h
    obtain rfl := dec_is (by simp) hx
    obtain ⟨hc, rfl⟩ := Prod.mk.inj (Option.some.inj h_x)
    refine call_by (K := K74) (L := L74) (bxs := []) (ows := []) (GOk.cons s75 (GOk.nil)) fn74 (l74 gl) (by kernel_rfl) (evF_some ((e74 gl xs x).trans ?_))
    have hx := of_decide_eq_true hc
    refine (iter_all (step := st74_2) (F := fun k => ⟨xs, x, 0, xs.length, (k : Int)⟩) (stop := fun k => bif meet x (atN .box xs k) then some (⟨xs, x, (k : Int), xs.length, (k : Int)⟩, true) else none) (last := (⟨xs, x, 0, xs.length, (xs.length : Int)⟩, false)) xs.length _ (fun k next hk => ?_) (fun next => ?_) _ (Nat.le_refl _) _ rfl).trans ?_
    · simp only [st74_2, decLt_nat hk, inB_nat hk, wr_succ (show k ≤ 1000000 by omega), atD, Int.toNat_natCast]
      generalize (meet x (atN .box xs k)) = b_
      cases b_ <;> rfl
    · simp only [st74_2, decLt_self]
    · rw [runTo_find (fun y => meet x y) (fun k => (⟨xs, x, (k : Int), xs.length, (k : Int)⟩, true)) _ _ xs (fun k hk => by rw [atN_nat hk]) xs.length 0 (by omega), List.drop_zero]
      unfold idxI
      cases xs.findIdx? (fun y => meet x y) with
      | none => rfl
      | some k => simp only [Nat.zero_add]; rfl
  · simp at h
structure S37_2 where
  b : List Box
  i : Int
  k : Int
  a : List Box
  n : Int
  i2 : Int
def S37_2.enc (s : S37_2) : List PV := [.sl .box s.b, .i .i64 s.i, .i .i64 s.k, .sl .box s.a, .i .i64 s.n, .i .i64 s.i2]
def S37_2.encH (s : S37_2) : Heap := []
def dec37_2 : List PV → Heap → Option S37_2
  | [.sl .box b_, .i .i64 i_, .i .i64 k_, .sl .box a_, .i .i64 n_, .i .i64 i2_], [] => some ⟨b_, i_, k_, a_, n_, i2_⟩
  | _, _ => none
theorem dec_enc37_2 (vs : List PV) (hs : Heap) (s : S37_2) (h : dec37_2 vs hs = some s) : vs = s.enc ∧ hs = s.encH := by
  unfold dec37_2 at h
  split at h
  · obtain rfl := Option.some.inj h
    exact ⟨rfl, rfl⟩
  · simp at h
def st37_2 {ρ : Type} (s : S37_2) (next : S37_2 → Option ρ) (out : S37_2 × Bool → Option ρ) : Option ρ := (match (decide (s.i2 < s.n)) with | true => (match (inB s.i2 s.a.length) with | true => (match (decide (s.b.length ≤ 1000000)) with | true => (match (decide ((idxI (fun y => meet (atD .box s.a s.i2) y) s.b) ≥ 0)) with | true => out (⟨s.b, s.i2, (idxI (fun y => meet (atD .box s.a s.i2) y) s.b), s.a, s.n, s.i2⟩, true) | false => next ⟨s.b, s.i, s.k, s.a, s.n, (wr (s.i2 + 1))⟩) | false => none) | false => none) | false => out (s, false))
def out37_2 (k : Ex → List PV → Heap → Option R) (o : S37_2 × Bool) : Option R := match o.2 with
  | true => k .ret o.1.enc o.1.encH
  | false => k (.exit 0) o.1.enc o.1.encH
def fuel37_2 (s : S37_2) : Nat := s.a.length + 1
def K37 : Keep := fun _ => ([1, 4, 5, 9, 10, 11], [])
def L37 : Lam := loopL dec37_2 st37_2 fuel37_2 out37_2
noncomputable def b37_2 : Code := (loopsOf (bodyOf Tryd.f37)).getD 0 .skip
theorem step37_2 (gl : Gl) (j : Nat) (s : S37_2) (k : Ex → List PV → Heap → Option R) : unroll (cx gl (mkG [(74, F74)]) [] []) K37 L37 Tryd.f37.ntmps (Tryd.f37.ntmps + 16) b37_2 (j + 1) s.enc s.encH k = st37_2 s (fun s' => unroll (cx gl (mkG [(74, F74)]) [] []) K37 L37 Tryd.f37.ntmps (Tryd.f37.ntmps + 16) b37_2 j s'.enc s'.encH k) (out37_2 k) := by kernel_rfl
theorem l37 (gl : Gl) : LoopsOk (cx gl (mkG [(74, F74)]) [] []) K37 L37 Tryd.f37.ntmps (Tryd.f37.ntmps + 16) (loopsOf (bodyOf Tryd.f37)) := by
  refine loopsOk_list (l := [b37_2]) (by kernel_rfl) ?_
  exact List.forall_mem_cons.2 ⟨loopOk1 (fuel := fuel37_2) (enc := S37_2.enc) (encH := S37_2.encH) (fun vs hs k => by kernel_rfl) dec_enc37_2 (step37_2 gl ), (fun _ h => by simp at h)⟩
def clS (a b : List Box) : Option Nat := (List.range' 0 a.length).find? fun i => b.any fun y => meet (atN .box a i) y
def clI (a b : List Box) : Int := match clS a b with
  | some i => (i : Int)
  | none => -1
def clK (a b : List Box) : Int := match clS a b with
  | some i => idxI (fun y => meet (atN .box a i) y) b
  | none => -1
theorem loop37 (a b : List Box) (ha : a.length ≤ 1000000) (hb : decide (b.length ≤ 1000000) = true) : (iter st37_2 (fuel37_2 (⟨b, 0, 0, a, (a.length : Int), 0⟩ : S37_2)) (⟨b, 0, 0, a, (a.length : Int), 0⟩ : S37_2) fun o2 => (match o2.2 with | true => an (.tup [.i .i64 o2.1.i, .i .i64 o2.1.k]) | false => an (.tup [.i .i64 (-1), .i .i64 (-1)]))) = an (.tup [.i .i64 (clI a b), .i .i64 (clK a b)]) := by
  refine (iter_all (step := st37_2) (F := fun k => (⟨b, 0, 0, a, (a.length : Int), (k : Int)⟩ : S37_2)) (stop := fun k => bif b.any (fun y => meet (atN .box a k) y) then some ((⟨b, (k : Int), idxI (fun y => meet (atN .box a k) y) b, a, (a.length : Int), (k : Int)⟩ : S37_2), true) else none) (last := ((⟨b, 0, 0, a, (a.length : Int), (a.length : Int)⟩ : S37_2), false)) a.length _ (fun k next hk => ?_) (fun next => ?_) _ (Nat.le_refl _) _ rfl).trans ?_
  · simp only [st37_2, decLt_nat hk, inB_nat hk, hb, wr_succ (show k ≤ 1000000 by omega), atD, Int.toNat_natCast]
    show (match decide (idxI (fun y => meet (atN .box a k) y) b ≥ 0) with | true => _ | false => _) = _
    rw [idxI_any]
    cases b.any (fun y => meet (atN .box a k) y) <;> rfl
  · simp only [st37_2, decLt_self]
  · rw [runTo_first (fun k => b.any (fun y => meet (atN .box a k) y)) (fun k => ((⟨b, (k : Int), idxI (fun y => meet (atN .box a k) y) b, a, (a.length : Int), (k : Int)⟩ : S37_2), true)) a.length 0 (fun j _ _ => rfl)]
    unfold clI clK
    rw [show (List.range' 0 a.length).find? (fun i => b.any fun y => meet (atN .box a i) y) = clS a b from rfl]
    cases clS a b <;> rfl
theorem fn37 : FnOk 37 Tryd.f37 := ⟨by kernel_rfl, by kernel_rfl, by kernel_rfl, by kernel_rfl⟩
theorem e37 (gl : Gl) (a : List Box) (b : List Box) : evFn (cx gl (mkG [(74, F74)]) [] []) K37 L37 Tryd.f37 [.sl .box a, .sl .box b] noObjs = (iter st37_2 (fuel37_2 (⟨b, 0, 0, a, (a.length : Int), 0⟩ : S37_2)) (⟨b, 0, 0, a, (a.length : Int), 0⟩ : S37_2) fun o2 => (match o2.2 with | true => an (.tup [.i .i64 o2.1.i, .i .i64 o2.1.k]) | false => an (.tup [.i .i64 (-1), .i .i64 (-1)]))) := by kernel_rfl
def F37 : List PV → Option (Bool × PV)
  | [.sl .box a, .sl .box b] => some ((decide (a.length ≤ 1000000) && decide (b.length ≤ 1000000)), .tup [.i .i64 (clI a b), .i .i64 (clK a b)])
  | _ => none
theorem s37 {gl : Gl} : Sum gl 37 F37 := by
  intro ps r h
  unfold F37 at h
  split at h
  · rename_i a b
    obtain ⟨hc, rfl⟩ := Prod.mk.inj (Option.some.inj h)
    refine call_by (K := K37) (L := L37) (bxs := []) (ows := []) (GOk.cons s74 (GOk.nil)) fn37 (l37 gl) (by kernel_rfl) (evF_some ((e37 gl a b).trans ?_))
    rw [Bool.and_eq_true] at hc
    exact loop37 a b (of_decide_eq_true hc.1) hc.2
  · simp at h
theorem fn47 : FnOk 47 Tryd.f47 := ⟨by kernel_rfl, by kernel_rfl, by kernel_rfl, by kernel_rfl⟩
def v47  : ByteArray := (⟨#[117]⟩ : ByteArray)
theorem e47 (gl : Gl)  : evFn (cx gl (mkG []) [] []) noK noL Tryd.f47 [] noObjs = an (.agg [.s (⟨#[117]⟩ : ByteArray), .i .i64 3600, .i .i64 1000, .i .i64 3600, .i .i64 100, .i .i64 10000, .i .i64 5, .i .i64 10, .i .i64 0, .i .i64 0, .i .i64 0, .i .i64 0]) := by kernel_rfl
def F47 : List PV → Option (Bool × PV)
  | [] => some (true, .agg [.s v47, .i .i64 3600, .i .i64 1000, .i .i64 3600, .i .i64 100, .i .i64 10000, .i .i64 5, .i .i64 10, .i .i64 0, .i .i64 0, .i .i64 0, .i .i64 0])
  | _ => none
theorem s47 {gl : Gl} : Sum gl 47 F47 := by
  intro ps r h
  unfold F47 at h
  split at h
  · skip
    obtain ⟨hc, rfl⟩ := Prod.mk.inj (Option.some.inj h)
    refine call_by (K := noK) (L := noL) (bxs := []) (ows := []) (GOk.nil) fn47 (noLoops (by kernel_rfl)) (by kernel_rfl) (evF_some ((e47 gl ).trans ?_))
    try unfold v47
    rfl
  · simp at h
theorem fn38 : FnOk 38 Tryd.f38 := ⟨by kernel_rfl, by kernel_rfl, by kernel_rfl, by kernel_rfl⟩
def farS (la : Spot) (ha : Spot) (lb : Spot) (hb : Spot) (n : Int) : Bool := bif (decide ((imax (wr (ha.x - lb.x)) (wr (hb.x - la.x))) > n)) then true else (decide ((imax (wr (ha.y - lb.y)) (wr (hb.y - la.y))) > n))
theorem e38 (gl : Gl) (la : Spot) (ha : Spot) (lb : Spot) (hb : Spot) (n : Int) : evFn (cx gl (mkG []) [] []) noK noL Tryd.f38 [.agg [.i .i64 la.x, .i .i64 la.y], .agg [.i .i64 ha.x, .i .i64 ha.y], .agg [.i .i64 lb.x, .i .i64 lb.y], .agg [.i .i64 hb.x, .i .i64 hb.y], .i .i64 n] noObjs = an (.b (bif (decide ((imax (wr (ha.x - lb.x)) (wr (hb.x - la.x))) > n)) then true else (decide ((imax (wr (ha.y - lb.y)) (wr (hb.y - la.y))) > n)))) := by kernel_rfl
def F38 : List PV → Option (Bool × PV)
  | [.agg [.i .i64 la0, .i .i64 la1], .agg [.i .i64 ha0, .i .i64 ha1], .agg [.i .i64 lb0, .i .i64 lb1], .agg [.i .i64 hb0, .i .i64 hb1], .i .i64 n] => some (true, .b (farS (⟨la0, la1⟩ : Spot) (⟨ha0, ha1⟩ : Spot) (⟨lb0, lb1⟩ : Spot) (⟨hb0, hb1⟩ : Spot) n))
  | _ => none
theorem s38 {gl : Gl} : Sum gl 38 F38 := by
  intro ps r h
  unfold F38 at h
  split at h
  · rename_i la0 la1 ha0 ha1 lb0 lb1 hb0 hb1 n
    obtain ⟨hc, rfl⟩ := Prod.mk.inj (Option.some.inj h)
    refine call_by (K := noK) (L := noL) (bxs := []) (ows := []) (GOk.nil) fn38 (noLoops (by kernel_rfl)) (by kernel_rfl) (evF_some ((e38 gl ⟨la0, la1⟩ ⟨ha0, ha1⟩ ⟨lb0, lb1⟩ ⟨hb0, hb1⟩ n).trans ?_))
    try unfold farS
    rfl
  · simp at h
theorem fn16 : FnOk 16 Tryd.f16 := ⟨by kernel_rfl, by kernel_rfl, by kernel_rfl, by kernel_rfl⟩
theorem e16  : evFn (cxo glU (mkG [(47, F47), (27, F27), (29, F29), (37, F37), (17, F17)]) (mkO [(24, 2, FO24o), (33, 2, FO33o)]) none [] rlT [] [35]) noK noL Tryd.f16 [] noObjs = (match (decide (([⟨⟨300, 0⟩, 10⟩, ⟨⟨300, 100⟩, 0⟩] : List Way).length ≤ 1000000) && decide (([] : List Front).length ≤ 1000000)) with | true => (match (inN 0 2) with | true => (match (decide ((List.set ([⟨⟨300, 0⟩, 10⟩, ⟨⟨300, 100⟩, 0⟩] : List Way) 0 ⟨(atN .way ([⟨⟨300, 0⟩, 10⟩, ⟨⟨300, 100⟩, 0⟩] : List Way) 0).to_, 184⟩).length ≤ 1000000) && decide (([] : List Front).length ≤ 1000000)) with | true => (match (bif (bif (bif (bif ((PlE (⟨v47, 3600, 1000, 3600, 100, 10000, 5, 10, ⟨0, 0⟩, 0, 0⟩ : Unit') 100 ([⟨⟨300, 0⟩, 10⟩, ⟨⟨300, 100⟩, 0⟩] : List Way) ([] : List Front)) != 0) then true else (((PlL (⟨v47, 3600, 1000, 3600, 100, 10000, 5, 10, ⟨0, 0⟩, 0, 0⟩ : Unit') 100 ([⟨⟨300, 0⟩, 10⟩, ⟨⟨300, 100⟩, 0⟩] : List Way) ([] : List Front)).length : Int) != 3)) then true else ((PlA (⟨v47, 3600, 1000, 3600, 100, 10000, 5, 10, ⟨0, 0⟩, 0, 0⟩ : Unit') 100 (List.set ([⟨⟨300, 0⟩, 10⟩, ⟨⟨300, 100⟩, 0⟩] : List Way) 0 ⟨(atN .way ([⟨⟨300, 0⟩, 10⟩, ⟨⟨300, 100⟩, 0⟩] : List Way) 0).to_, 184⟩) ([] : List Front)) != 1)) then true else ((PlW (⟨v47, 3600, 1000, 3600, 100, 10000, 5, 10, ⟨0, 0⟩, 0, 0⟩ : Unit') 100 (List.set ([⟨⟨300, 0⟩, 10⟩, ⟨⟨300, 100⟩, 0⟩] : List Way) 0 ⟨(atN .way ([⟨⟨300, 0⟩, 10⟩, ⟨⟨300, 100⟩, 0⟩] : List Way) 0).to_, 184⟩) ([] : List Front)) != 1)) then true else ((PlE (⟨v47, 3600, 1000, 3600, 100, 10000, 5, 10, ⟨0, 0⟩, 0, 0⟩ : Unit') 100 (List.set ([⟨⟨300, 0⟩, 10⟩, ⟨⟨300, 100⟩, 0⟩] : List Way) 0 ⟨(atN .way ([⟨⟨300, 0⟩, 10⟩, ⟨⟨300, 100⟩, 0⟩] : List Way) 0).to_, 184⟩) ([] : List Front)) != 9)) with | true => an (.b false) | false => (match (decide ((PlL (⟨v47, 3600, 1000, 3600, 100, 10000, 5, 10, ⟨0, 0⟩, 0, 0⟩ : Unit') 100 ([⟨⟨300, 0⟩, 10⟩, ⟨⟨300, 100⟩, 0⟩] : List Way) ([] : List Front)).length ≤ 1000000)) with | true => (match (decide ((PlL (⟨v47, 3600, 1000, 3600, 100, 10000, 5, 10, ⟨0, 0⟩, 0, 0⟩ : Unit') 100 ([⟨⟨300, 0⟩, 10⟩, ⟨⟨300, 100⟩, 0⟩] : List Way) ([] : List Front)).length ≤ 1000000)) with | true => (match (decide ((PlL (⟨v47, 3600, 1000, 3600, 100, 10000, 5, 10, ⟨0, 0⟩, 0, 0⟩ : Unit') 100 ([⟨⟨300, 0⟩, 10⟩, ⟨⟨300, 100⟩, 0⟩] : List Way) ([] : List Front)).length ≤ 1000000)) with | true => (match (decide ((BxL (⟨v47, 3600, 1000, 3600, 100, 10000, 5, 10, ⟨0, 0⟩, 0, 0⟩ : Unit') (PlL (⟨v47, 3600, 1000, 3600, 100, 10000, 5, 10, ⟨0, 0⟩, 0, 0⟩ : Unit') 100 ([⟨⟨300, 0⟩, 10⟩, ⟨⟨300, 100⟩, 0⟩] : List Way) ([] : List Front)) 2).length ≤ 1000000) && decide ((BxL (⟨v47, 3600, 1000, 3600, 100, 10000, 5, 10, ⟨0, 0⟩, 0, 0⟩ : Unit') (PlL (⟨v47, 3600, 1000, 3600, 100, 10000, 5, 10, ⟨0, 0⟩, 0, 0⟩ : Unit') 100 ([⟨⟨300, 0⟩, 10⟩, ⟨⟨300, 100⟩, 0⟩] : List Way) ([] : List Front)) 2).length ≤ 1000000)) with | true => (match (inB 0 ((PlL (⟨v47, 3600, 1000, 3600, 100, 10000, 5, 10, ⟨0, 0⟩, 0, 0⟩ : Unit') 100 ([⟨⟨300, 0⟩, 10⟩, ⟨⟨300, 100⟩, 0⟩] : List Way) ([] : List Front)).length)) with | true => (match (inN 0 ((PlL (⟨v47, 3600, 1000, 3600, 100, 10000, 5, 10, ⟨0, 0⟩, 0, 0⟩ : Unit') 100 ([⟨⟨300, 0⟩, 10⟩, ⟨⟨300, 100⟩, 0⟩] : List Way) ([] : List Front)).length)) with | true => (match ((inB 1 ((PlL (⟨v47, 3600, 1000, 3600, 100, 10000, 5, 10, ⟨0, 0⟩, 0, 0⟩ : Unit') 100 ([⟨⟨300, 0⟩, 10⟩, ⟨⟨300, 100⟩, 0⟩] : List Way) ([] : List Front)).length)) || ((!(((atN .leg (PlL (⟨v47, 3600, 1000, 3600, 100, 10000, 5, 10, ⟨0, 0⟩, 0, 0⟩ : Unit') 100 ([⟨⟨300, 0⟩, 10⟩, ⟨⟨300, 100⟩, 0⟩] : List Way) ([] : List Front)) 0).leave) == 410)) || false)) with | true => (match ((inN 1 ((PlL (⟨v47, 3600, 1000, 3600, 100, 10000, 5, 10, ⟨0, 0⟩, 0, 0⟩ : Unit') 100 ([⟨⟨300, 0⟩, 10⟩, ⟨⟨300, 100⟩, 0⟩] : List Way) ([] : List Front)).length)) || ((!(((atN .leg (PlL (⟨v47, 3600, 1000, 3600, 100, 10000, 5, 10, ⟨0, 0⟩, 0, 0⟩ : Unit') 100 ([⟨⟨300, 0⟩, 10⟩, ⟨⟨300, 100⟩, 0⟩] : List Way) ([] : List Front)) 0).leave) == 410)) || false)) with | true => (match ((inB 2 ((PlL (⟨v47, 3600, 1000, 3600, 100, 10000, 5, 10, ⟨0, 0⟩, 0, 0⟩ : Unit') 100 ([⟨⟨300, 0⟩, 10⟩, ⟨⟨300, 100⟩, 0⟩] : List Way) ([] : List Front)).length)) || ((!(bif (((atN .leg (PlL (⟨v47, 3600, 1000, 3600, 100, 10000, 5, 10, ⟨0, 0⟩, 0, 0⟩ : Unit') 100 ([⟨⟨300, 0⟩, 10⟩, ⟨⟨300, 100⟩, 0⟩] : List Way) ([] : List Front)) 0).leave) == 410) then (((atN .leg (PlL (⟨v47, 3600, 1000, 3600, 100, 10000, 5, 10, ⟨0, 0⟩, 0, 0⟩ : Unit') 100 ([⟨⟨300, 0⟩, 10⟩, ⟨⟨300, 100⟩, 0⟩] : List Way) ([] : List Front)) 1).leave) == 510) else false)) || false)) with | true => (match ((inN 2 ((PlL (⟨v47, 3600, 1000, 3600, 100, 10000, 5, 10, ⟨0, 0⟩, 0, 0⟩ : Unit') 100 ([⟨⟨300, 0⟩, 10⟩, ⟨⟨300, 100⟩, 0⟩] : List Way) ([] : List Front)).length)) || ((!(bif (((atN .leg (PlL (⟨v47, 3600, 1000, 3600, 100, 10000, 5, 10, ⟨0, 0⟩, 0, 0⟩ : Unit') 100 ([⟨⟨300, 0⟩, 10⟩, ⟨⟨300, 100⟩, 0⟩] : List Way) ([] : List Front)) 0).leave) == 410) then (((atN .leg (PlL (⟨v47, 3600, 1000, 3600, 100, 10000, 5, 10, ⟨0, 0⟩, 0, 0⟩ : Unit') 100 ([⟨⟨300, 0⟩, 10⟩, ⟨⟨300, 100⟩, 0⟩] : List Way) ([] : List Front)) 1).leave) == 510) else false)) || false)) with | true => (match ((inB 2 ((PlL (⟨v47, 3600, 1000, 3600, 100, 10000, 5, 10, ⟨0, 0⟩, 0, 0⟩ : Unit') 100 ([⟨⟨300, 0⟩, 10⟩, ⟨⟨300, 100⟩, 0⟩] : List Way) ([] : List Front)).length)) || ((!(bif (bif (((atN .leg (PlL (⟨v47, 3600, 1000, 3600, 100, 10000, 5, 10, ⟨0, 0⟩, 0, 0⟩ : Unit') 100 ([⟨⟨300, 0⟩, 10⟩, ⟨⟨300, 100⟩, 0⟩] : List Way) ([] : List Front)) 0).leave) == 410) then (((atN .leg (PlL (⟨v47, 3600, 1000, 3600, 100, 10000, 5, 10, ⟨0, 0⟩, 0, 0⟩ : Unit') 100 ([⟨⟨300, 0⟩, 10⟩, ⟨⟨300, 100⟩, 0⟩] : List Way) ([] : List Front)) 1).leave) == 510) else false) then (((atN .leg (PlL (⟨v47, 3600, 1000, 3600, 100, 10000, 5, 10, ⟨0, 0⟩, 0, 0⟩ : Unit') 100 ([⟨⟨300, 0⟩, 10⟩, ⟨⟨300, 100⟩, 0⟩] : List Way) ([] : List Front)) 2).leave) == 827) else false)) || false)) with | true => (match ((inN 2 ((PlL (⟨v47, 3600, 1000, 3600, 100, 10000, 5, 10, ⟨0, 0⟩, 0, 0⟩ : Unit') 100 ([⟨⟨300, 0⟩, 10⟩, ⟨⟨300, 100⟩, 0⟩] : List Way) ([] : List Front)).length)) || ((!(bif (bif (((atN .leg (PlL (⟨v47, 3600, 1000, 3600, 100, 10000, 5, 10, ⟨0, 0⟩, 0, 0⟩ : Unit') 100 ([⟨⟨300, 0⟩, 10⟩, ⟨⟨300, 100⟩, 0⟩] : List Way) ([] : List Front)) 0).leave) == 410) then (((atN .leg (PlL (⟨v47, 3600, 1000, 3600, 100, 10000, 5, 10, ⟨0, 0⟩, 0, 0⟩ : Unit') 100 ([⟨⟨300, 0⟩, 10⟩, ⟨⟨300, 100⟩, 0⟩] : List Way) ([] : List Front)) 1).leave) == 510) else false) then (((atN .leg (PlL (⟨v47, 3600, 1000, 3600, 100, 10000, 5, 10, ⟨0, 0⟩, 0, 0⟩ : Unit') 100 ([⟨⟨300, 0⟩, 10⟩, ⟨⟨300, 100⟩, 0⟩] : List Way) ([] : List Front)) 2).leave) == 827) else false)) || false)) with | true => an (.b (bif (bif (bif (bif (bif (bif (bif (bif (bif (bif (bif (bif (((atN .leg (PlL (⟨v47, 3600, 1000, 3600, 100, 10000, 5, 10, ⟨0, 0⟩, 0, 0⟩ : Unit') 100 ([⟨⟨300, 0⟩, 10⟩, ⟨⟨300, 100⟩, 0⟩] : List Way) ([] : List Front)) 0).leave) == 410) then (((atN .leg (PlL (⟨v47, 3600, 1000, 3600, 100, 10000, 5, 10, ⟨0, 0⟩, 0, 0⟩ : Unit') 100 ([⟨⟨300, 0⟩, 10⟩, ⟨⟨300, 100⟩, 0⟩] : List Way) ([] : List Front)) 1).leave) == 510) else false) then (((atN .leg (PlL (⟨v47, 3600, 1000, 3600, 100, 10000, 5, 10, ⟨0, 0⟩, 0, 0⟩ : Unit') 100 ([⟨⟨300, 0⟩, 10⟩, ⟨⟨300, 100⟩, 0⟩] : List Way) ([] : List Front)) 2).leave) == 827) else false) then (((atN .leg (PlL (⟨v47, 3600, 1000, 3600, 100, 10000, 5, 10, ⟨0, 0⟩, 0, 0⟩ : Unit') 100 ([⟨⟨300, 0⟩, 10⟩, ⟨⟨300, 100⟩, 0⟩] : List Way) ([] : List Front)) 2).fuel) == 273) else false) then (((whX (PlL (⟨v47, 3600, 1000, 3600, 100, 10000, 5, 10, ⟨0, 0⟩, 0, 0⟩ : Unit') 100 ([⟨⟨300, 0⟩, 10⟩, ⟨⟨300, 100⟩, 0⟩] : List Way) ([] : List Front)) 250) == 150) && (((whY (PlL (⟨v47, 3600, 1000, 3600, 100, 10000, 5, 10, ⟨0, 0⟩, 0, 0⟩ : Unit') 100 ([⟨⟨300, 0⟩, 10⟩, ⟨⟨300, 100⟩, 0⟩] : List Way) ([] : List Front)) 250) == 0) && true)) else false) then ((whE (PlL (⟨v47, 3600, 1000, 3600, 100, 10000, 5, 10, ⟨0, 0⟩, 0, 0⟩ : Unit') 100 ([⟨⟨300, 0⟩, 10⟩, ⟨⟨300, 100⟩, 0⟩] : List Way) ([] : List Front)) 250) == 0) else false) then ((leftV (⟨v47, 3600, 1000, 3600, 100, 10000, 5, 10, ⟨0, 0⟩, 0, 0⟩ : Unit') (PlL (⟨v47, 3600, 1000, 3600, 100, 10000, 5, 10, ⟨0, 0⟩, 0, 0⟩ : Unit') 100 ([⟨⟨300, 0⟩, 10⟩, ⟨⟨300, 100⟩, 0⟩] : List Way) ([] : List Front)) 250) == 850) else false) then ((leftE (⟨v47, 3600, 1000, 3600, 100, 10000, 5, 10, ⟨0, 0⟩, 0, 0⟩ : Unit') (PlL (⟨v47, 3600, 1000, 3600, 100, 10000, 5, 10, ⟨0, 0⟩, 0, 0⟩ : Unit') 100 ([⟨⟨300, 0⟩, 10⟩, ⟨⟨300, 100⟩, 0⟩] : List Way) ([] : List Front)) 250) == 0) else false) then ((BxE (⟨v47, 3600, 1000, 3600, 100, 10000, 5, 10, ⟨0, 0⟩, 0, 0⟩ : Unit') (PlL (⟨v47, 3600, 1000, 3600, 100, 10000, 5, 10, ⟨0, 0⟩, 0, 0⟩ : Unit') 100 ([⟨⟨300, 0⟩, 10⟩, ⟨⟨300, 100⟩, 0⟩] : List Way) ([] : List Front)) 2) == 0) else false) then ((clI (BxL (⟨v47, 3600, 1000, 3600, 100, 10000, 5, 10, ⟨0, 0⟩, 0, 0⟩ : Unit') (PlL (⟨v47, 3600, 1000, 3600, 100, 10000, 5, 10, ⟨0, 0⟩, 0, 0⟩ : Unit') 100 ([⟨⟨300, 0⟩, 10⟩, ⟨⟨300, 100⟩, 0⟩] : List Way) ([] : List Front)) 2) (BxL (⟨v47, 3600, 1000, 3600, 100, 10000, 5, 10, ⟨0, 0⟩, 0, 0⟩ : Unit') (PlL (⟨v47, 3600, 1000, 3600, 100, 10000, 5, 10, ⟨0, 0⟩, 0, 0⟩ : Unit') 100 ([⟨⟨300, 0⟩, 10⟩, ⟨⟨300, 100⟩, 0⟩] : List Way) ([] : List Front)) 2)) == 0) else false) then ((clK (BxL (⟨v47, 3600, 1000, 3600, 100, 10000, 5, 10, ⟨0, 0⟩, 0, 0⟩ : Unit') (PlL (⟨v47, 3600, 1000, 3600, 100, 10000, 5, 10, ⟨0, 0⟩, 0, 0⟩ : Unit') 100 ([⟨⟨300, 0⟩, 10⟩, ⟨⟨300, 100⟩, 0⟩] : List Way) ([] : List Front)) 2) (BxL (⟨v47, 3600, 1000, 3600, 100, 10000, 5, 10, ⟨0, 0⟩, 0, 0⟩ : Unit') (PlL (⟨v47, 3600, 1000, 3600, 100, 10000, 5, 10, ⟨0, 0⟩, 0, 0⟩ : Unit') 100 ([⟨⟨300, 0⟩, 10⟩, ⟨⟨300, 100⟩, 0⟩] : List Way) ([] : List Front)) 2)) == 0) else false) then ((distS (⟨0, 0⟩ : Spot) (⟨1, 1⟩ : Spot)) == 2) else false) then ((distE (⟨0, 0⟩ : Spot) (⟨1, 1⟩ : Spot)) == 0) else false)) | false => none) | false => none) | false => none) | false => none) | false => none) | false => none) | false => none) | false => none) | false => none) | false => none) | false => none) | false => none)) | false => none) | false => none) | false => none) := by kernel_rfl
def F16 : List PV → Option (Bool × PV)
  | [] => some (true, .b true)
  | _ => none
theorem s16 : Sum glU 16 F16 := by
  intro ps r h
  unfold F16 at h
  split at h
  · skip
    obtain ⟨hc, rfl⟩ := Prod.mk.inj (Option.some.inj h)
    refine call_byO (K := noK) (L := noL) (bxs := []) (ows := [35]) (GOk.cons s47 (GOk.cons s27 (GOk.cons s29 (GOk.cons s37 (GOk.cons s17 (GOk.nil)))))) (OOk.cons so24o (OOk.cons so33o (OOk.nil))) fn16 (noLoops (by kernel_rfl)) (by kernel_rfl) (evF_some ((e16 ).trans ?_))
    kernel_rfl
  · simp at h
end Go.Proofs.YtnbcmgdogohenaaDoor.Ev
/- Summaries of functions, printed by a program out of a list, and what is made of them. -/
namespace Go.Proofs.YtnbcmgdogohenaaDoor.Ev
open Go Go.RowKit Go.Proofs
theorem large_no {u : Unit'} {route : List Way} {sky : List Front} (h : (bif (greatS u) then true else (largeS route sky)) = false) : route.length ≤ 40 ∧ sky.length ≤ 110 := by
  unfold largeS at h
  revert h
  cases greatS u with
  | true => intro h; exact Bool.noConfusion (show true = false from h)
  | false =>
    cases h1 : decide ((route.length : Int) > 40) with
    | true => intro h; exact Bool.noConfusion (show true = false from h)
    | false =>
      intro h
      have h2 : decide ((sky.length : Int) > 110) = false := h
      have := of_decide_eq_false h1
      have := of_decide_eq_false h2
      omega
theorem plL_len (u : Unit') (since : Int) (sky : List Front) (route : List Way) (pos : Spot) (time fuel : Int) : (plL u since sky route pos time fuel).length ≤ route.length + 1 := by
  unfold plL
  cases goStop u since sky route pos time fuel with
  | some k => exact Nat.zero_le _
  | none => show ((goSt u route pos time fuel route.length).out ++ [_]).length ≤ _; rw [List.length_append, goSt_len]; exact Nat.le_refl _
theorem PlL_len (u : Unit') (start : Int) (route : List Way) (sky : List Front) : (PlL u start route sky).length ≤ route.length + 1 := by
  unfold PlL
  cases pArg u start route sky with
  | true => exact Nat.zero_le _
  | false =>
    cases pLong route with
    | true => exact Nat.zero_le _
    | false => exact plL_len _ _ _ _ _ _ _
theorem AgL_len (u : Unit') (l : List Leg) (t : Int) (route : List Way) (sky : List Front) : (AgL u l t route sky).length ≤ route.length + 1 := by
  unfold AgL
  cases gArg u l route sky with
  | true => exact Nat.zero_le _
  | false =>
    cases (!(atB l t)) with
    | true => exact Nat.zero_le _
    | false =>
      cases pLong route with
      | true => exact Nat.zero_le _
      | false =>
        cases agStop u l t route sky with
        | true => exact Nat.zero_le _
        | false => exact plL_len _ _ _ _ _ _ _
theorem BxL_len (u : Unit') (l : List Leg) (p : Int) : (BxL u l p).length ≤ 21 * l.length := by
  unfold BxL
  cases bArg u l with
  | true => exact Nat.zero_le _
  | false =>
    cases h : within p 1 20 with
    | false => exact Nat.zero_le _
    | true => exact boxesOf_len u ((within_iff _ _ _).1 h) l
theorem sameL_self (a : List Leg) : sameS eqL a a = true := (sameS_iff eqL_iff).2 rfl
theorem sameB_self (a : List Box) : sameS eqB a a = true := (sameS_iff eqB_iff).2 rfl
theorem lenI {n m : Nat} (h : decide ((n : Int) > (m : Int)) = false) : n ≤ m := by have := of_decide_eq_false h; omega
theorem bif_no {a b : Bool} (h : (bif a then true else b) = false) : a = false ∧ b = false := by cases a <;> simp_all
theorem dist_same (p q : Spot) : distS p q = distR p q ∧ distE p q = distRE p q := by
  unfold distS distR distE distRE
  cases hp : placed p with
  | false => exact ⟨by rw [show Place p = false from hp]; try rfl, by rw [show Place p = false from hp]; try rfl⟩
  | true =>
    cases hq : placed q with
    | false => exact ⟨by rw [show Place p = true from hp, show Place q = false from hq]; try rfl, by rw [show Place p = true from hp, show Place q = false from hq]; try rfl⟩
    | true => exact ⟨by rw [show Place p = true from hp, show Place q = true from hq]; exact (way_bound hp hq).1, by rw [show Place p = true from hp, show Place q = true from hq]⟩
theorem fn3 : FnOk 3 Tryd.f3 := ⟨by kernel_rfl, by kernel_rfl, by kernel_rfl, by kernel_rfl⟩
theorem e3 (u : Unit') (sky : List Front) (p : Spot) (q : Spot) : evFn (cx glU (mkG [(15, F15), (16, F16), (17, F17), (18, F18), (19, F19), (20, F20), (21, F21), (22, F22)]) [] []) noK noL Tryd.f3 [.agg [.s u.name, .i .i64 u.speed, .i .i64 u.fuel, .i .i64 u.burn, .i .i64 u.reserve, .i .i64 u.hours, .i .i64 u.sea, .i .i64 u.wind, .i .i64 u.base.x, .i .i64 u.base.y, .i .i64 u.margin, .i .i64 u.level], .sl .front sky, .agg [.i .i64 p.x, .i .i64 p.y, .i .i64 q.x, .i .i64 q.y]] noObjs = (match (bif (greatS u) then true else (decide ((sky.length : Int) > 150))) with | true => an (.b true) | false => (match ((decide (sky.length ≤ 1000000)) || ((!((unitOk u) == (unitOk u))) || false)) with | true => an (.b (bif (bif (bif (bif ((unitOk u) == (unitOk u)) then ((skyOk sky) == (skyOk sky)) else false) then ((distS p q) == (distR p q)) else false) then ((distE p q) == (distRE p q)) else false) then true else false)) | false => none)) := by kernel_rfl
def F3 : List PV → Option (Bool × PV)
  | [.agg uL, .sl .front sky, .agg [.i .i64 p0, .i .i64 p1, .i .i64 q0, .i .i64 q1]] => (ETy.dec .unit uL).bind fun u => some (true, .b true)
  | _ => none
theorem s3 : Sum glU 3 F3 := by
  intro ps r h
  unfold F3 at h
  split at h
  · rename_i uL sky p0 p1 q0 q1
    obtain ⟨u, hu, h_u⟩ := Option.bind_eq_some_iff.1 h
    obtain rfl := dec_is (by simp) hu
    obtain ⟨hc, rfl⟩ := Prod.mk.inj (Option.some.inj h_u)
    refine call_by (K := noK) (L := noL) (bxs := []) (ows := []) (GOk.cons s15 (GOk.cons s16 (GOk.cons s17 (GOk.cons s18 (GOk.cons s19 (GOk.cons s20 (GOk.cons s21 (GOk.cons s22 (GOk.nil))))))))) fn3 (noLoops (by kernel_rfl)) (by kernel_rfl) (evF_some ((e3 u sky ⟨p0, p1⟩ ⟨q0, q1⟩).trans ?_))
    cases hg : (bif (greatS u) then true else (decide ((sky.length : Int) > 150))) with
    | true => rfl
    | false =>
      have hl := lenI (m := 150) (bif_no hg).2
      have a1 : decide (sky.length ≤ 1000000) = true := decide_eq_true (by omega)
      simp only [a1, beq_self_eq_true, (dist_same _ _).1, (dist_same _ _).2, cond_true, Bool.true_or]
      rfl
  · simp at h
theorem fn4 : FnOk 4 Tryd.f4 := ⟨by kernel_rfl, by kernel_rfl, by kernel_rfl, by kernel_rfl⟩
theorem e4 (u : Unit') (start : Int) (route : List Way) (sky : List Front) : evFn (cx glU (mkG [(15, F15), (23, F23), (16, F16), (24, F24), (25, F25), (26, F26)]) [] []) noK noL Tryd.f4 [.agg [.s u.name, .i .i64 u.speed, .i .i64 u.fuel, .i .i64 u.burn, .i .i64 u.reserve, .i .i64 u.hours, .i .i64 u.sea, .i .i64 u.wind, .i .i64 u.base.x, .i .i64 u.base.y, .i .i64 u.margin, .i .i64 u.level], .agg [.i .i64 start, .sl .way route, .sl .front sky]] noObjs = (match (bif (greatS u) then true else (largeS route sky)) with | true => an (.b true) | false => (match (decide (route.length ≤ 1000000) && decide (sky.length ≤ 1000000)) with | true => (match (decide (sky.length ≤ 1000000) && decide (route.length ≤ 1000000)) with | true => (match (decide ((PlL u start route sky).length ≤ 1000000)) with | true => an (.b (bif (bif (bif (bif (sameS eqL (PlL u start route sky) (PlL u start route sky)) then ((PlA u start route sky) == (PlA u start route sky)) else false) then ((PlW u start route sky) == (PlW u start route sky)) else false) then ((PlE u start route sky) == (PlE u start route sky)) else false) then true else false)) | false => none) | false => none) | false => none)) := by kernel_rfl
def F4 : List PV → Option (Bool × PV)
  | [.agg uL, .agg [.i .i64 start, .sl .way route, .sl .front sky]] => (ETy.dec .unit uL).bind fun u => some (true, .b true)
  | _ => none
theorem s4 : Sum glU 4 F4 := by
  intro ps r h
  unfold F4 at h
  split at h
  · rename_i uL start route sky
    obtain ⟨u, hu, h_u⟩ := Option.bind_eq_some_iff.1 h
    obtain rfl := dec_is (by simp) hu
    obtain ⟨hc, rfl⟩ := Prod.mk.inj (Option.some.inj h_u)
    refine call_by (K := noK) (L := noL) (bxs := []) (ows := []) (GOk.cons s15 (GOk.cons s23 (GOk.cons s16 (GOk.cons s24 (GOk.cons s25 (GOk.cons s26 (GOk.nil))))))) fn4 (noLoops (by kernel_rfl)) (by kernel_rfl) (evF_some ((e4 u start route sky).trans ?_))
    cases hg : (bif (greatS u) then true else (largeS route sky)) with
    | true => rfl
    | false =>
      obtain ⟨h1, h2⟩ := large_no hg
      have a1 : decide (route.length ≤ 1000000) = true := decide_eq_true (by omega)
      have a2 : decide (sky.length ≤ 1000000) = true := decide_eq_true (by omega)
      have a3 : decide ((PlL u start route sky).length ≤ 1000000) = true := decide_eq_true (by have := PlL_len u start route sky; omega)
      simp only [a1, a2, a3, sameL_self, beq_self_eq_true, cond_true, Bool.and_self]
      rfl
  · simp at h
theorem fn5 : FnOk 5 Tryd.f5 := ⟨by kernel_rfl, by kernel_rfl, by kernel_rfl, by kernel_rfl⟩
theorem e5 (u : Unit') (l : List Leg) (t : Int) : evFn (cx glU (mkG [(15, F15), (16, F16), (27, F27), (28, F28), (29, F29), (30, F30)]) [] []) noK noL Tryd.f5 [.agg [.s u.name, .i .i64 u.speed, .i .i64 u.fuel, .i .i64 u.burn, .i .i64 u.reserve, .i .i64 u.hours, .i .i64 u.sea, .i .i64 u.wind, .i .i64 u.base.x, .i .i64 u.base.y, .i .i64 u.margin, .i .i64 u.level], .sl .leg l, .i .i64 t] noObjs = (match (bif (greatS u) then true else (decide ((l.length : Int) > 60))) with | true => an (.b true) | false => (match (decide (l.length ≤ 1000000)) with | true => (match (decide (l.length ≤ 1000000)) with | true => (match (decide (l.length ≤ 1000000)) with | true => (match (decide (l.length ≤ 1000000)) with | true => an (.b (bif (bif (bif (bif (bif (((whX l t) == (whX l t)) && (((whY l t) == (whY l t)) && true)) then (((whHX l t) == (whHX l t)) && (((whHY l t) == (whHY l t)) && true)) else false) then ((whE l t) == (whE l t)) else false) then ((leftV u l t) == (leftV u l t)) else false) then ((leftE u l t) == (leftE u l t)) else false) then true else false)) | false => none) | false => none) | false => none) | false => none)) := by kernel_rfl
def F5 : List PV → Option (Bool × PV)
  | [.agg uL, .sl .leg l, .i .i64 t] => (ETy.dec .unit uL).bind fun u => some (true, .b true)
  | _ => none
theorem s5 : Sum glU 5 F5 := by
  intro ps r h
  unfold F5 at h
  split at h
  · rename_i uL l t
    obtain ⟨u, hu, h_u⟩ := Option.bind_eq_some_iff.1 h
    obtain rfl := dec_is (by simp) hu
    obtain ⟨hc, rfl⟩ := Prod.mk.inj (Option.some.inj h_u)
    refine call_by (K := noK) (L := noL) (bxs := []) (ows := []) (GOk.cons s15 (GOk.cons s16 (GOk.cons s27 (GOk.cons s28 (GOk.cons s29 (GOk.cons s30 (GOk.nil))))))) fn5 (noLoops (by kernel_rfl)) (by kernel_rfl) (evF_some ((e5 u l t).trans ?_))
    cases hg : (bif (greatS u) then true else (decide ((l.length : Int) > 60))) with
    | true => rfl
    | false =>
      have hl := lenI (m := 60) (bif_no hg).2
      have a1 : decide (l.length ≤ 1000000) = true := decide_eq_true (by omega)
      simp only [a1, beq_self_eq_true, cond_true, Bool.and_self]
      rfl
  · simp at h
theorem fn10 : FnOk 10 Tryd.f10 := ⟨by kernel_rfl, by kernel_rfl, by kernel_rfl, by kernel_rfl⟩
theorem e10 (u : Unit') (l : List Leg) (start : Int) (route : List Way) (sky : List Front) : evFn (cx glU (mkG [(15, F15), (23, F23), (16, F16), (39, F39), (40, F40), (26, F26)]) [] []) noK noL Tryd.f10 [.agg [.s u.name, .i .i64 u.speed, .i .i64 u.fuel, .i .i64 u.burn, .i .i64 u.reserve, .i .i64 u.hours, .i .i64 u.sea, .i .i64 u.wind, .i .i64 u.base.x, .i .i64 u.base.y, .i .i64 u.margin, .i .i64 u.level], .sl .leg l, .agg [.i .i64 start, .sl .way route, .sl .front sky]] noObjs = (match (bif (bif (greatS u) then true else (largeS route sky)) then true else (decide ((l.length : Int) > 60))) with | true => an (.b true) | false => (match (decide (l.length ≤ 1000000) && (decide (route.length ≤ 1000000) && decide (sky.length ≤ 1000000))) with | true => (match (decide (l.length ≤ 1000000) && (decide (sky.length ≤ 1000000) && decide (route.length ≤ 1000000))) with | true => (match (decide ((AgL u l start route sky).length ≤ 1000000)) with | true => an (.b (bif (bif (bif (bif (sameS eqL (AgL u l start route sky) (AgL u l start route sky)) then ((AgA u l start route sky) == (AgA u l start route sky)) else false) then ((AgW u l start route sky) == (AgW u l start route sky)) else false) then ((AgE u l start route sky) == (AgE u l start route sky)) else false) then true else false)) | false => none) | false => none) | false => none)) := by kernel_rfl
def F10 : List PV → Option (Bool × PV)
  | [.agg uL, .sl .leg l, .agg [.i .i64 start, .sl .way route, .sl .front sky]] => (ETy.dec .unit uL).bind fun u => some (true, .b true)
  | _ => none
theorem s10 : Sum glU 10 F10 := by
  intro ps r h
  unfold F10 at h
  split at h
  · rename_i uL l start route sky
    obtain ⟨u, hu, h_u⟩ := Option.bind_eq_some_iff.1 h
    obtain rfl := dec_is (by simp) hu
    obtain ⟨hc, rfl⟩ := Prod.mk.inj (Option.some.inj h_u)
    refine call_by (K := noK) (L := noL) (bxs := []) (ows := []) (GOk.cons s15 (GOk.cons s23 (GOk.cons s16 (GOk.cons s39 (GOk.cons s40 (GOk.cons s26 (GOk.nil))))))) fn10 (noLoops (by kernel_rfl)) (by kernel_rfl) (evF_some ((e10 u l start route sky).trans ?_))
    cases hg : (bif (bif (greatS u) then true else (largeS route sky)) then true else (decide ((l.length : Int) > 60))) with
    | true => rfl
    | false =>
      obtain ⟨hg1, hg2⟩ := bif_no hg
      obtain ⟨h1, h2⟩ := large_no hg1
      have hl := lenI (m := 60) hg2
      have a0 : decide (l.length ≤ 1000000) = true := decide_eq_true (by omega)
      have a1 : decide (route.length ≤ 1000000) = true := decide_eq_true (by omega)
      have a2 : decide (sky.length ≤ 1000000) = true := decide_eq_true (by omega)
      have a3 : decide ((AgL u l start route sky).length ≤ 1000000) = true := decide_eq_true (by have := AgL_len u l start route sky; omega)
      simp only [a0, a1, a2, a3, sameL_self, beq_self_eq_true, cond_true, Bool.and_self]
      rfl
  · simp at h
theorem fn8 : FnOk 8 Tryd.f8 := ⟨by kernel_rfl, by kernel_rfl, by kernel_rfl, by kernel_rfl⟩
theorem e8 (u : Unit') (l : List Leg) (pieces : Int) : evFn (cx glU (mkG [(15, F15), (16, F16), (33, F33), (34, F34), (35, F35)]) [] []) noK noL Tryd.f8 [.agg [.s u.name, .i .i64 u.speed, .i .i64 u.fuel, .i .i64 u.burn, .i .i64 u.reserve, .i .i64 u.hours, .i .i64 u.sea, .i .i64 u.wind, .i .i64 u.base.x, .i .i64 u.base.y, .i .i64 u.margin, .i .i64 u.level], .sl .leg l, .i .i64 pieces] noObjs = (match (bif (greatS u) then true else (decide ((l.length : Int) > 60))) with | true => an (.b true) | false => (match (decide (l.length ≤ 1000000)) with | true => (match (decide (l.length ≤ 1000000)) with | true => (match (decide ((BxL u l pieces).length ≤ 1000000)) with | true => an (.b (bif (bif (sameS eqB (BxL u l pieces) (BxL u l pieces)) then ((BxE u l pieces) == (BxE u l pieces)) else false) then true else false)) | false => none) | false => none) | false => none)) := by kernel_rfl
def F8 : List PV → Option (Bool × PV)
  | [.agg uL, .sl .leg l, .i .i64 pieces] => (ETy.dec .unit uL).bind fun u => some (true, .b true)
  | _ => none
theorem s8 : Sum glU 8 F8 := by
  intro ps r h
  unfold F8 at h
  split at h
  · rename_i uL l pieces
    obtain ⟨u, hu, h_u⟩ := Option.bind_eq_some_iff.1 h
    obtain rfl := dec_is (by simp) hu
    obtain ⟨hc, rfl⟩ := Prod.mk.inj (Option.some.inj h_u)
    refine call_by (K := noK) (L := noL) (bxs := []) (ows := []) (GOk.cons s15 (GOk.cons s16 (GOk.cons s33 (GOk.cons s34 (GOk.cons s35 (GOk.nil)))))) fn8 (noLoops (by kernel_rfl)) (by kernel_rfl) (evF_some ((e8 u l pieces).trans ?_))
    cases hg : (bif (greatS u) then true else (decide ((l.length : Int) > 60))) with
    | true => rfl
    | false =>
      have hl := lenI (m := 60) (bif_no hg).2
      have a1 : decide (l.length ≤ 1000000) = true := decide_eq_true (by omega)
      have a3 : decide ((BxL u l pieces).length ≤ 1000000) = true := decide_eq_true (by have := BxL_len u l pieces; omega)
      simp only [a1, a3, sameB_self, beq_self_eq_true, cond_true, Bool.and_self]
      rfl
  · simp at h
end Go.Proofs.YtnbcmgdogohenaaDoor.Ev
