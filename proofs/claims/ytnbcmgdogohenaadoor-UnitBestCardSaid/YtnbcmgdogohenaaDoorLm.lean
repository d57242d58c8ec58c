/- Summaries of functions, printed by a program out of a list, and what is made of them. -/
import Derived.Test.YtnbcmgdogohenaaDoorLk
set_option linter.unusedVariables false
set_option linter.unusedSimpArgs false
set_option maxRecDepth 100000
namespace Go.Proofs.YtnbcmgdogohenaaDoor.Ev
open Go Go.RowKit Go.Proofs
structure S45_8 where
  w : List Int
  x : List Unit'
  x2 : List Int
  x3 : List Spot
  t4 : Int
  t5 : Int
  t6 : Bool
  last : Int
  sum : Int
  i : Int
  k : Int
def S45_8.enc (s : S45_8) : List PV := [.sl .int s.w, .ptr [.sl .unit s.x, .sl .int s.x2, .sl .spot s.x3] 0, .i .i64 s.t4, .i .i64 s.t5, .b s.t6, .i .i64 s.last, .i .i64 s.sum, .i .i64 s.i, .i .i64 s.k]
def S45_8.encH (s : S45_8) : Heap := []
def dec45_8 : List PV → Heap → Option S45_8
  | [.sl .int w_, .ptr [.sl .unit x_, .sl .int x2_, .sl .spot x3_] 0, .i .i64 t4_, .i .i64 t5_, .b t6_, .i .i64 last_, .i .i64 sum_, .i .i64 i_, .i .i64 k_], [] => some ⟨w_, x_, x2_, x3_, t4_, t5_, t6_, last_, sum_, i_, k_⟩
  | _, _ => none
theorem dec_enc45_8 (vs : List PV) (hs : Heap) (s : S45_8) (h : dec45_8 vs hs = some s) : vs = s.enc ∧ hs = s.encH := by
  unfold dec45_8 at h
  split at h
  · obtain rfl := Option.some.inj h
    exact ⟨rfl, rfl⟩
  · simp at h
def st45_8 {ρ : Type} (s : S45_8) (next : S45_8 → Option ρ) (out : S45_8 × Bool → Option ρ) : Option ρ := (match (decide (s.k < s.i)) with | true => (match (inB s.k s.w.length) with | true => (match (inB s.i s.w.length) with | true => (match ((atD .int s.w s.k) == (atD .int s.w s.i)) with | true => out (⟨s.w, s.x, s.x2, s.x3, 0, 0, false, s.last, s.sum, s.i, s.k⟩, true) | false => next ⟨s.w, s.x, s.x2, s.x3, s.t4, s.t5, s.t6, s.last, s.sum, s.i, (wr (s.k + 1))⟩) | false => none) | false => none) | false => out (s, false))
def out45_8 (k : Ex → List PV → Heap → Option R) (o : S45_8 × Bool) : Option R := match o.2 with
  | true => k .ret o.1.enc o.1.encH
  | false => k (.exit 2) o.1.enc o.1.encH
def fuel45_8 (s : S45_8) : Nat := s.w.length + 1
structure S45_3 where
  w : List Int
  x : List Unit'
  x2 : List Int
  x3 : List Spot
  t4 : Int
  t5 : Int
  t6 : Bool
  last : Int
  sum : Int
  i : Int
def S45_3.enc (s : S45_3) : List PV := [.sl .int s.w, .ptr [.sl .unit s.x, .sl .int s.x2, .sl .spot s.x3] 0, .i .i64 s.t4, .i .i64 s.t5, .b s.t6, .i .i64 s.last, .i .i64 s.sum, .i .i64 s.i]
def S45_3.encH (s : S45_3) : Heap := []
def dec45_3 : List PV → Heap → Option S45_3
  | [.sl .int w_, .ptr [.sl .unit x_, .sl .int x2_, .sl .spot x3_] 0, .i .i64 t4_, .i .i64 t5_, .b t6_, .i .i64 last_, .i .i64 sum_, .i .i64 i_], [] => some ⟨w_, x_, x2_, x3_, t4_, t5_, t6_, last_, sum_, i_⟩
  | _, _ => none
theorem dec_enc45_3 (vs : List PV) (hs : Heap) (s : S45_3) (h : dec45_3 vs hs = some s) : vs = s.enc ∧ hs = s.encH := by
  unfold dec45_3 at h
  split at h
  · obtain rfl := Option.some.inj h
    exact ⟨rfl, rfl⟩
  · simp at h
def st45_3 {ρ : Type} (s : S45_3) (next : S45_3 → Option ρ) (out : S45_3 × Bool → Option ρ) : Option ρ := (match (decide (s.i < (s.w.length : Int))) with | true => (match (inB s.i s.w.length) with | true => (match ((inB s.i s.w.length) || ((decide ((atD .int s.w s.i) < 0)) || false)) with | true => (match (bif (bif (decide ((atD .int s.w s.i) < 0)) then true else (decide ((atD .int s.w s.i) ≥ (s.x.length : Int)))) then true else (decide (s.i ≥ (s.x3.length : Int)))) with | true => out (⟨s.w, s.x, s.x2, s.x3, 0, 0, false, s.last, s.sum, s.i⟩, true) | false => (iter st45_8 (fuel45_8 (⟨s.w, s.x, s.x2, s.x3, s.t4, s.t5, s.t6, s.last, s.sum, s.i, 0⟩ : S45_8)) (⟨s.w, s.x, s.x2, s.x3, s.t4, s.t5, s.t6, s.last, s.sum, s.i, 0⟩ : S45_8) fun o8 => (match o8.2 with | true => out (⟨o8.1.w, o8.1.x, o8.1.x2, o8.1.x3, o8.1.t4, o8.1.t5, o8.1.t6, o8.1.last, o8.1.sum, o8.1.i⟩, true) | false => (match (inB o8.1.i o8.1.w.length) with | true => (match (inB (atD .int o8.1.w o8.1.i) o8.1.x.length) with | true => (match (inB o8.1.i o8.1.x3.length) with | true => (match (bif ((distRE ((atD .unit o8.1.x (atD .int o8.1.w o8.1.i)).base) (atD .spot o8.1.x3 o8.1.i)) != 0) then true else (decide (((atD .unit o8.1.x (atD .int o8.1.w o8.1.i)).speed) < 1))) with | true => out (⟨o8.1.w, o8.1.x, o8.1.x2, o8.1.x3, 0, 0, false, o8.1.last, o8.1.sum, o8.1.i⟩, true) | false => (match (inB o8.1.i o8.1.w.length) with | true => (match (inB (atD .int o8.1.w o8.1.i) o8.1.x2.length) with | true => (match (!(((atD .unit o8.1.x (atD .int o8.1.w o8.1.i)).speed) == 0)) with | true => next ⟨o8.1.w, o8.1.x, o8.1.x2, o8.1.x3, o8.1.t4, o8.1.t5, o8.1.t6, (imax o8.1.last (wr ((atD .int o8.1.x2 (atD .int o8.1.w o8.1.i)) + (wr (Int.tdiv (wr ((wr ((wr ((distR ((atD .unit o8.1.x (atD .int o8.1.w o8.1.i)).base) (atD .spot o8.1.x3 o8.1.i)) * 3600)) + ((atD .unit o8.1.x (atD .int o8.1.w o8.1.i)).speed))) - 1)) ((atD .unit o8.1.x (atD .int o8.1.w o8.1.i)).speed)))))), (wr (o8.1.sum + (wr ((atD .int o8.1.x2 (atD .int o8.1.w o8.1.i)) + (wr (Int.tdiv (wr ((wr ((wr ((distR ((atD .unit o8.1.x (atD .int o8.1.w o8.1.i)).base) (atD .spot o8.1.x3 o8.1.i)) * 3600)) + ((atD .unit o8.1.x (atD .int o8.1.w o8.1.i)).speed))) - 1)) ((atD .unit o8.1.x (atD .int o8.1.w o8.1.i)).speed))))))), (wr (o8.1.i + 1))⟩ | false => none) | false => none) | false => none)) | false => none) | false => none) | false => none)))) | false => none) | false => none) | false => out (s, false))
def out45_3 (k : Ex → List PV → Heap → Option R) (o : S45_3 × Bool) : Option R := match o.2 with
  | true => k .ret o.1.enc o.1.encH
  | false => k (.exit 0) o.1.enc o.1.encH
def fuel45_3 (s : S45_3) : Nat := s.w.length + 1
def K45 : Keep := fun i => match i with
  | 3 => ([1, 2, 4, 5, 6, 7, 8, 9], [])
  | 8 => ([1, 2, 4, 5, 6, 7, 8, 9, 10], [])
  | _ => ([], [])
def L45 : Lam := fun b vs hs k => match loopId b with
  | 3 => loopL dec45_3 st45_3 fuel45_3 out45_3 b vs hs k
  | 8 => loopL dec45_8 st45_8 fuel45_8 out45_8 b vs hs k
  | _ => none
noncomputable def b45_8 : Code := (loopsOf (bodyOf Tryd.f45)).getD 1 .skip
noncomputable def b45_3 : Code := (loopsOf (bodyOf Tryd.f45)).getD 0 .skip
theorem step45_8 (gl : Gl) (j : Nat) (s : S45_8) (k : Ex → List PV → Heap → Option R) : unroll (cx gl (mkG [(18, F18)]) [] []) K45 L45 Tryd.f45.ntmps (Tryd.f45.ntmps + 16) b45_8 (j + 1) s.enc s.encH k = st45_8 s (fun s' => unroll (cx gl (mkG [(18, F18)]) [] []) K45 L45 Tryd.f45.ntmps (Tryd.f45.ntmps + 16) b45_8 j s'.enc s'.encH k) (out45_8 k) := by kernel_rfl
theorem step45_3 (gl : Gl) (j : Nat) (s : S45_3) (k : Ex → List PV → Heap → Option R) : unroll (cx gl (mkG [(18, F18)]) [] []) K45 L45 Tryd.f45.ntmps (Tryd.f45.ntmps + 16) b45_3 (j + 1) s.enc s.encH k = st45_3 s (fun s' => unroll (cx gl (mkG [(18, F18)]) [] []) K45 L45 Tryd.f45.ntmps (Tryd.f45.ntmps + 16) b45_3 j s'.enc s'.encH k) (out45_3 k) := by kernel_rfl
theorem l45 (gl : Gl) : LoopsOk (cx gl (mkG [(18, F18)]) [] []) K45 L45 Tryd.f45.ntmps (Tryd.f45.ntmps + 16) (loopsOf (bodyOf Tryd.f45)) := by
  refine loopsOk_list (l := [b45_3, b45_8]) (by kernel_rfl) ?_
  exact List.forall_mem_cons.2 ⟨loopOk1 (fuel := fuel45_3) (enc := S45_3.enc) (encH := S45_3.encH) (fun vs hs k => by kernel_rfl) dec_enc45_3 (step45_3 gl ), List.forall_mem_cons.2 ⟨loopOk1 (fuel := fuel45_8) (enc := S45_8.enc) (encH := S45_8.encH) (fun vs hs k => by kernel_rfl) dec_enc45_8 (step45_8 gl ), (fun _ h => by simp at h)⟩⟩
def dupA (w : List Int) (k : Nat) : Bool := (List.range' 0 k).any fun j => (atN .int w j) == (atN .int w k)
/-- A unit that a choice may not name there. -/
def badA (l : List Unit') (goals : List Spot) (w : List Int) (k : Nat) : Bool := bif (bif (bif (decide ((atN .int w k : Int) < 0)) then true else (decide ((atN .int w k : Int) ≥ (l.length : Int)))) then true else (decide ((k : Int) ≥ (goals.length : Int)))) then true else dupA w k
def anyA (l : List Unit') (goals : List Spot) (w : List Int) : Bool := (List.range' 0 w.length).any (badA l goals w)
def arL (l : List Unit') (starts : List Int) (goals : List Spot) (w : List Int) : Int := bif anyA l goals w then 0 else lastS starts l goals w w.length
def arM (l : List Unit') (starts : List Int) (goals : List Spot) (w : List Int) : Int := bif anyA l goals w then 0 else sumS starts l goals w w.length
def arB (l : List Unit') (starts : List Int) (goals : List Spot) (w : List Int) : Bool := bif anyA l goals w then false else ((w.length : Int) == (goals.length : Int))
theorem loop45_8 {ρ : Type} (w : List Int) (l : List Unit') (starts : List Int) (goals : List Spot) (a b : Int) (f : Bool) (la sm : Int) (k : Nat) (hk : k < w.length) (hw : w.length ≤ 1000000) (O : S45_8 × Bool → Option ρ) (A : Option ρ) (hA : ∀ j : Nat, O (⟨w, l, starts, goals, 0, 0, false, la, sm, (k : Int), (j : Int)⟩, true) = A) :
    iter st45_8 (fuel45_8 (⟨w, l, starts, goals, a, b, f, la, sm, (k : Int), 0⟩ : S45_8)) (⟨w, l, starts, goals, a, b, f, la, sm, (k : Int), 0⟩ : S45_8) O = bif dupA w k then A else O (⟨w, l, starts, goals, a, b, f, la, sm, (k : Int), (k : Int)⟩, false) := by
  refine (iter_all (step := st45_8) (F := fun j => (⟨w, l, starts, goals, a, b, f, la, sm, (k : Int), (j : Int)⟩ : S45_8)) (stop := fun j => bif (atN .int w j) == (atN .int w k) then some ((⟨w, l, starts, goals, 0, 0, false, la, sm, (k : Int), (j : Int)⟩ : S45_8), true) else none) (last := ((⟨w, l, starts, goals, a, b, f, la, sm, (k : Int), (k : Int)⟩ : S45_8), false)) k _ (fun j next hj => ?_) (fun next => ?_) _ (by unfold fuel45_8; show k + 1 ≤ w.length + 1; omega) _ rfl).trans ?_
  · simp only [st45_8, decLt_nat hj, inB_nat hk, inB_nat (show j < w.length by omega), wr_succ (show j ≤ 1000000 by omega), atD, Int.toNat_natCast]
    generalize ((atN .int w j) == (atN .int w k)) = b_
    cases b_ <;> rfl
  · simp only [st45_8, decLt_self]
  · exact runTo_any O (fun j => (atN .int w j) == (atN .int w k)) (fun j => ((⟨w, l, starts, goals, 0, 0, false, la, sm, (k : Int), (j : Int)⟩ : S45_8), true)) A hA k 0 (fun j _ _ => rfl)
theorem arrU_ok {l : List Unit'} {starts : List Int} {goals : List Spot} (h : AsP l starts goals) {x : Int} (h0 : 0 ≤ x) (h1 : x < (l.length : Int)) {k : Nat} (hk : k < goals.length) :
    inB x l.length = true ∧ inB x starts.length = true ∧ distRE (atD .unit l x).base (atN .spot goals k) = 0 ∧ decide ((atD .unit l x).speed < 1) = false ∧ (!((atD .unit l x).speed == 0)) = true ∧
    wr ((atD .int starts x) + (wr (Int.tdiv (wr ((wr ((wr ((distR (atD .unit l x).base (atN .spot goals k)) * 3600)) + (atD .unit l x).speed)) - 1)) (atD .unit l x).speed))) = wr (atD .int starts x + takeS (atD .unit l x) (atD .unit l x).base (atN .spot goals k)) := by
  have hn : x.toNat < l.length := by omega
  have e : x = (x.toNat : Int) := (Int.toNat_of_nonneg h0).symm
  have hls := h.ls
  have hu : UnitP (atD .unit l x) := by
    rw [e, atD_nat (T := .unit) hn]
    exact unitOk_P (h.unit _ hn)
  have hg : placed (atN .spot goals k) = true := by
    rw [atN_nat (T := .spot) hk]
    exact h.goal _ (List.getElem_mem hk)
  obtain ⟨d1, d2, _, _⟩ := dists hu.base hg
  have hb : ∀ n : Nat, x.toNat < n → inB x n = true := fun n hn => by rw [e]; exact inB_nat hn
  refine ⟨hb _ hn, hb _ (by omega), d1, decide_eq_false (by have := hu.s1; omega), bnz hu.s1, ?_⟩
  rw [d2, (takes_eq hu hu.base hg).1]
  rfl
theorem loop45 (l : List Unit') (starts : List Int) (goals : List Spot) (w : List Int) (h : AsP l starts goals) (hw : w.length ≤ 1000000) :
    (iter st45_3 (fuel45_3 (⟨w, l, starts, goals, 0, 0, false, 0, 0, 0⟩ : S45_3)) (⟨w, l, starts, goals, 0, 0, false, 0, 0, 0⟩ : S45_3) fun o3 => (match o3.2 with | true => an (.tup [.i .i64 o3.1.t4, .i .i64 o3.1.t5, .b o3.1.t6]) | false => an (.tup [.i .i64 o3.1.last, .i .i64 o3.1.sum, .b ((o3.1.w.length : Int) == (o3.1.x3.length : Int))]))) = an (.tup [.i .i64 (arL l starts goals w), .i .i64 (arM l starts goals w), .b (arB l starts goals w)]) := by
  refine (iter_all (step := st45_3) (F := fun k => (⟨w, l, starts, goals, 0, 0, false, lastS starts l goals w k, sumS starts l goals w k, (k : Int)⟩ : S45_3)) (stop := fun k => bif badA l goals w k then some ((⟨w, l, starts, goals, 0, 0, false, lastS starts l goals w k, sumS starts l goals w k, (k : Int)⟩ : S45_3), true) else none) (last := ((⟨w, l, starts, goals, 0, 0, false, lastS starts l goals w w.length, sumS starts l goals w w.length, (w.length : Int)⟩ : S45_3), false)) w.length _ (fun k next hk => ?_) (fun next => ?_) _ (Nat.le_refl _) _ rfl).trans ?_
  · have e1 : atD .int w (k : Int) = atN .int w k := by unfold atD; rw [Int.toNat_natCast]
    have e2 : atD .spot goals (k : Int) = atN .spot goals k := by unfold atD; rw [Int.toNat_natCast]
    simp only [st45_3, decLt_nat hk, inB_nat hk, e1, Bool.true_or]
    cases hc : (bif (bif (decide ((atN .int w k : Int) < 0)) then true else (decide ((atN .int w k : Int) ≥ (l.length : Int)))) then true else (decide ((k : Int) ≥ (goals.length : Int)))) with
    | true =>
      have : badA l goals w k = true := by unfold badA; rw [hc]; rfl
      rw [this]
      rfl
    | false =>
      have hbd : badA l goals w k = dupA w k := by unfold badA; rw [hc]; rfl
      obtain ⟨hc1, hc2⟩ := bif_no hc
      obtain ⟨hc3, hc4⟩ := bif_no hc1
      have hc2 := of_decide_eq_false hc2
      have hc3 := of_decide_eq_false hc3
      have hc4 := of_decide_eq_false hc4
      rw [hbd]
      refine (loop45_8 w l starts goals 0 0 false _ _ k hk hw _ (an (.tup [.i .i64 0, .i .i64 0, .b false])) fun j => rfl).trans ?_
      cases hd : dupA w k with
      | true => rfl
      | false =>
        have hx0 : (0 : Int) ≤ (atN .int w k) := Int.not_lt.1 hc3
        have hx1 : (atN .int w k : Int) < (l.length : Int) := Int.not_le.1 hc4
        obtain ⟨p1, p2, p3, p4, p5, p6⟩ := arrU_ok h hx0 hx1 (k := k) (by omega)
        simp only [cond_false, inB_nat hk, inB_nat (show k < goals.length by omega), e1, e2, p1, p2, p3, p4, p5, p6, bne_self_eq_false, wr_succ (show k ≤ 1000000 by omega)]
        rfl
  · simp only [st45_3, decLt_self]
  · have hr := runTo_any (fun o3 : S45_3 × Bool => (match o3.2 with | true => an (.tup [.i .i64 o3.1.t4, .i .i64 o3.1.t5, .b o3.1.t6]) | false => an (.tup [.i .i64 o3.1.last, .i .i64 o3.1.sum, .b ((o3.1.w.length : Int) == (o3.1.x3.length : Int))]))) (badA l goals w) (fun k => ((⟨w, l, starts, goals, 0, 0, false, lastS starts l goals w k, sumS starts l goals w k, (k : Int)⟩ : S45_3), true)) (an (.tup [.i .i64 0, .i .i64 0, .b false])) (fun k => rfl) (stop := fun k => bif badA l goals w k then some ((⟨w, l, starts, goals, 0, 0, false, lastS starts l goals w k, sumS starts l goals w k, (k : Int)⟩ : S45_3), true) else none) (last := ((⟨w, l, starts, goals, 0, 0, false, lastS starts l goals w w.length, sumS starts l goals w w.length, (w.length : Int)⟩ : S45_3), false)) w.length 0 (fun j _ _ => rfl)
    refine hr.trans ?_
    unfold arL arM arB anyA
    cases (List.range' 0 w.length).any (badA l goals w) <;> rfl
theorem fn45 : FnOk 45 Tryd.f45 := ⟨by kernel_rfl, by kernel_rfl, by kernel_rfl, by kernel_rfl⟩
theorem e45 (gl : Gl) (l : List Unit') (starts : List Int) (goals : List Spot) (w : List Int) : evFn (cx gl (mkG [(18, F18)]) [] []) K45 L45 Tryd.f45 [.agg [.sl .unit l, .sl .int starts, .sl .spot goals], .sl .int w] noObjs = (iter st45_3 (fuel45_3 (⟨w, l, starts, goals, 0, 0, false, 0, 0, 0⟩ : S45_3)) (⟨w, l, starts, goals, 0, 0, false, 0, 0, 0⟩ : S45_3) fun o3 => (match o3.2 with | true => an (.tup [.i .i64 o3.1.t4, .i .i64 o3.1.t5, .b o3.1.t6]) | false => an (.tup [.i .i64 o3.1.last, .i .i64 o3.1.sum, .b ((o3.1.w.length : Int) == (o3.1.x3.length : Int))]))) := by kernel_rfl
def F45 : List PV → Option (Bool × PV)
  | [.agg [.sl .unit l, .sl .int starts, .sl .spot goals], .sl .int w] => some (((AsE l starts goals == 0) && decide (w.length ≤ 1000000)), .tup [.i .i64 (arL l starts goals w), .i .i64 (arM l starts goals w), .b (arB l starts goals w)])
  | _ => none
theorem s45 {gl : Gl} : Sum gl 45 F45 := by
  intro ps r h
  unfold F45 at h
  split at h
  · rename_i l starts goals w
    obtain ⟨hc, rfl⟩ := Prod.mk.inj (Option.some.inj h)
    refine call_by (K := K45) (L := L45) (bxs := []) (ows := []) (GOk.cons s18 (GOk.nil)) fn45 (l45 gl) (by kernel_rfl) (evF_some ((e45 gl l starts goals w).trans ?_))
    rw [Bool.and_eq_true, beq_iff_eq] at hc
    exact loop45 l starts goals w (assP hc.1).p (of_decide_eq_true hc.2)
  · simp at h
structure S13_13 where
  other : List Int
  x : List Unit'
  x2 : List Int
  x3 : List Spot
  a : Int
  b : Int
  i : Int
  l : List Int
def S13_13.enc (s : S13_13) : List PV := [.sl .u8 s.other, .ptr [.sl .unit s.x, .sl .int s.x2, .sl .spot s.x3] 0, .i .i64 s.a, .i .i64 s.b, .own 18, .i .i64 s.i]
def S13_13.encH (s : S13_13) : Heap := [some (.row .int 3 s.l)]
def dec13_13 : List PV → Heap → Option S13_13
  | [.sl .u8 other_, .ptr [.sl .unit x_, .sl .int x2_, .sl .spot x3_] 0, .i .i64 a_, .i .i64 b_, .own 18, .i .i64 i_], [some (.row .int 3 l_)] => some ⟨other_, x_, x2_, x3_, a_, b_, i_, l_⟩
  | _, _ => none
theorem dec_enc13_13 (vs : List PV) (hs : Heap) (s : S13_13) (h : dec13_13 vs hs = some s) : vs = s.enc ∧ hs = s.encH := by
  unfold dec13_13 at h
  split at h
  · obtain rfl := Option.some.inj h
    exact ⟨rfl, rfl⟩
  · simp at h
def st13_13 {ρ : Type} (s : S13_13) (next : S13_13 → Option ρ) (out : S13_13 → Option ρ) : Option ρ := (match (bif (decide (s.i < (s.other.length : Int))) then (decide (s.i < 8)) else false) with | true => (match (inB s.i s.other.length) with | true => (match (decide ((s.l.length + 1) * 8 ≤ 140737488355328)) with | true => next ⟨s.other, s.x, s.x2, s.x3, s.a, s.b, (wr (s.i + 1)), (s.l ++ ([(Int.tmod (wr (atD .u8 s.other s.i)) 8)] : List Int))⟩ | false => none) | false => none) | false => out s)
def out13_13 (k : Ex → List PV → Heap → Option R) (o : S13_13) : Option R := k (.exit 0) o.enc o.encH
def fuel13_13 (s : S13_13) : Nat := s.other.length + 1
def K13 : Keep := fun _ => ([1, 2, 7, 8, 10, 11], [18])
def L13 : Lam := loopL dec13_13 st13_13 fuel13_13 out13_13
noncomputable def b13_13 : Code := (loopsOf (bodyOf Tryd.f13)).getD 0 .skip
theorem step13_13 (j : Nat) (s : S13_13) (k : Ex → List PV → Heap → Option R) : unroll (cx glU (mkG [(41, F41), (16, F16), (42, F42), (45, F45)]) [] [18]) K13 L13 Tryd.f13.ntmps (Tryd.f13.ntmps + 16) b13_13 (j + 1) s.enc s.encH k = st13_13 s (fun s' => unroll (cx glU (mkG [(41, F41), (16, F16), (42, F42), (45, F45)]) [] [18]) K13 L13 Tryd.f13.ntmps (Tryd.f13.ntmps + 16) b13_13 j s'.enc s'.encH k) (out13_13 k) := by kernel_rfl
theorem l13 : LoopsOk (cx glU (mkG [(41, F41), (16, F16), (42, F42), (45, F45)]) [] [18]) K13 L13 Tryd.f13.ntmps (Tryd.f13.ntmps + 16) (loopsOf (bodyOf Tryd.f13)) := by
  refine loopsOk_list (l := [b13_13]) (by kernel_rfl) ?_
  exact List.forall_mem_cons.2 ⟨loopOk1 (fuel := fuel13_13) (enc := S13_13.enc) (encH := S13_13.encH) (fun vs hs k => by kernel_rfl) dec_enc13_13 (step13_13 ), (fun _ h => by simp at h)⟩
theorem anyA_no {l : List Unit'} {goals : List Spot} {w : List Int} : anyA l goals w = false ↔ ∀ k (hk : k < w.length), (0 ≤ w[k] ∧ w[k] < (l.length : Int)) ∧ k < goals.length ∧ ∀ j (hj : j < k), w[j] ≠ w[k] := by
  unfold anyA
  rw [List.any_eq_false]
  constructor
  · intro h k hk
    have h1 := h k (by rw [List.mem_range'_1]; omega)
    have h1 : badA l goals w k = false := by simpa using h1
    unfold badA at h1
    obtain ⟨hc, hd⟩ := bif_no h1
    obtain ⟨hc1, hc2⟩ := bif_no hc
    obtain ⟨hc3, hc4⟩ := bif_no hc1
    have hc2 := of_decide_eq_false hc2
    have hc3 := Int.not_lt.1 (of_decide_eq_false hc3)
    have hc4 := Int.not_le.1 (of_decide_eq_false hc4)
    rw [atN_nat (T := .int) hk] at hc3 hc4
    refine ⟨⟨hc3, hc4⟩, by omega, fun j hj e => ?_⟩
    unfold dupA at hd
    rw [List.any_eq_false] at hd
    have := hd j (by rw [List.mem_range'_1]; omega)
    rw [atN_nat (T := .int) hk, atN_nat (T := .int) (show j < w.length by omega), e] at this
    exact this (beq_self_eq_true _)
  · intro h k hk
    rw [List.mem_range'_1] at hk
    have hk' : k < w.length := by omega
    obtain ⟨⟨h0, h1⟩, h2, h3⟩ := h k hk'
    have hd : dupA w k = false := by
      unfold dupA
      rw [List.any_eq_false]
      intro j hj
      rw [List.mem_range'_1] at hj
      rw [atN_nat (T := .int) hk', atN_nat (T := .int) (show j < w.length by omega)]
      intro e
      exact h3 j (by omega) (beq_iff_eq.1 e)
    have hb : badA l goals w k = false := by
      unfold badA
      rw [hd, atN_nat (T := .int) hk', decide_eq_false (show ¬ w[k] < 0 by omega), decide_eq_false (show ¬ w[k] ≥ (l.length : Int) by omega), decide_eq_false (show ¬ ((k : Int) ≥ (goals.length : Int)) by omega)]
      rfl
    rw [hb]
    exact Bool.false_ne_true
theorem arB_mem {l : List Unit'} {starts : List Int} {goals : List Spot} {w : List Int} : arB l starts goals w = true ↔ w ∈ enum l.length goals.length [] := by
  constructor
  · intro h
    unfold arB at h
    cases ha : anyA l goals w with
    | true => rw [ha] at h; exact Bool.noConfusion (show false = true from h)
    | false =>
      rw [ha] at h
      have hl : ((w.length : Int) == (goals.length : Int)) = true := h
      have hl : w.length = goals.length := by have := beq_iff_eq.1 hl; omega
      have hn := anyA_no.1 ha
      have := mem_enum (m := l.length) (d := goals.length) (c := []) (y := w) hl (fun x hx => by
        obtain ⟨k, hk, rfl⟩ := List.getElem_of_mem hx
        exact (hn k hk).1) (by
        rw [List.nil_append]
        exact List.pairwise_iff_getElem.2 fun i j hi hj hij => (hn j hj).2.2 i hij)
      exact this
  · intro h
    have hl := enum_len h
    rw [List.length_nil, Nat.zero_add] at hl
    obtain ⟨h1, h2⟩ := enum_mem h (fun z hz => by simp at hz) List.Pairwise.nil
    have ha : anyA l goals w = false := anyA_no.2 fun k hk => ⟨h1 _ (List.getElem_mem hk), by omega, fun j hj => List.pairwise_iff_getElem.1 h2 j k (by omega) hk hj⟩
    unfold arB
    rw [ha, hl]
    exact beq_self_eq_true _
theorem ar_val {l : List Unit'} {starts : List Int} {goals : List Spot} {w : List Int} (h : arB l starts goals w = true) : arL l starts goals w = lastS starts l goals w w.length ∧ arM l starts goals w = sumS starts l goals w w.length := by
  unfold arB at h
  unfold arL arM
  cases ha : anyA l goals w with
  | true => rw [ha] at h; exact Bool.noConfusion (show false = true from h)
  | false => exact ⟨rfl, rfl⟩
def othW (other : List Int) : Nat → List Int
  | 0 => []
  | k + 1 => othW other k ++ [Int.tmod (wr (atN .u8 other k)) 8]
theorem othW_len (other : List Int) : ∀ k, (othW other k).length = k
  | 0 => rfl
  | k + 1 => by rw [othW, List.length_append, othW_len other k]; rfl
theorem loop13 (other : List Int) (l : List Unit') (starts : List Int) (goals : List Spot) (a b : Int) (O : S13_13 → Option R) (n : Nat) (hn : n = min other.length 8) :
    iter st13_13 (fuel13_13 (⟨other, l, starts, goals, a, b, 0, []⟩ : S13_13)) (⟨other, l, starts, goals, a, b, 0, []⟩ : S13_13) O = O ⟨other, l, starts, goals, a, b, (n : Int), othW other n⟩ := by
  refine iter_each (step := st13_13) (F := fun k => (⟨other, l, starts, goals, a, b, (k : Int), othW other k⟩ : S13_13)) (last := (⟨other, l, starts, goals, a, b, (n : Int), othW other n⟩ : S13_13)) n O (fun k next hk => ?_) (fun next => ?_) _ (by unfold fuel13_13; show n + 1 ≤ other.length + 1; omega) _ rfl
  · have h1 : (bif (decide ((k : Int) < (other.length : Int))) then (decide ((k : Int) < 8)) else false) = true := by rw [decLt_nat (show k < other.length by omega), decide_eq_true (show (k : Int) < 8 by omega)]; rfl
    have h2 : decide (((othW other k).length + 1) * 8 ≤ 140737488355328) = true := decide_eq_true (by rw [othW_len]; omega)
    simp only [st13_13, h1, h2, inB_nat (show k < other.length by omega), wr_succ (show k ≤ 1000000 by omega), atD, Int.toNat_natCast]
    rfl
  · have h1 : (bif (decide ((n : Int) < (other.length : Int))) then (decide ((n : Int) < 8)) else false) = false := by
      rcases Nat.lt_or_ge other.length 8 with h | h
      · have : n = other.length := by omega
        rw [this, decLt_self]; rfl
      · have : n = 8 := by omega
        rw [this]
        cases decide (((8 : Nat) : Int) < (other.length : Int)) <;> rfl
    simp only [st13_13, h1]
theorem fn13 : FnOk 13 Tryd.f13 := ⟨by kernel_rfl, by kernel_rfl, by kernel_rfl, by kernel_rfl⟩
theorem e13 (l : List Unit') (starts : List Int) (goals : List Spot) (other : List Int) : evFn (cx glU (mkG [(41, F41), (16, F16), (42, F42), (45, F45)]) [] [18]) K13 L13 Tryd.f13 [.agg [.sl .unit l, .sl .int starts, .sl .spot goals], .sl .u8 other] noObjs = (match (vastS l starts goals) with | true => an (.b true) | false => (match (decide (l.length ≤ 1000000) && (decide (starts.length ≤ 1000000) && decide (goals.length ≤ 1000000))) with | true => (match ((AsE l starts goals) != 0) with | true => an (.b (bif (((AsW l starts goals).length : Int) == 0) then true else false)) | false => (match ((l.length : Int) != (starts.length : Int)) with | true => an (.b false) | false => (match ((AsE l starts goals == 0) && decide ((AsW l starts goals).length ≤ 1000000)) with | true => (match (!(arB l starts goals (AsW l starts goals))) with | true => an (.b false) | false => (iter st13_13 (fuel13_13 (⟨other, l, starts, goals, (arL l starts goals (AsW l starts goals)), (arM l starts goals (AsW l starts goals)), 0, ([])⟩ : S13_13)) (⟨other, l, starts, goals, (arL l starts goals (AsW l starts goals)), (arM l starts goals (AsW l starts goals)), 0, ([])⟩ : S13_13) fun o13 => (match ((AsE o13.x o13.x2 o13.x3 == 0) && decide (o13.l.length ≤ 1000000)) with | true => an (.b (bif (bif (bif (!(arB o13.x o13.x2 o13.x3 o13.l)) then true else (decide (o13.a < (arL o13.x o13.x2 o13.x3 o13.l)))) then true else (bif (o13.a == (arL o13.x o13.x2 o13.x3 o13.l)) then (decide (o13.b ≤ (arM o13.x o13.x2 o13.x3 o13.l))) else false)) then true else false)) | false => none))) | false => none))) | false => none)) := by kernel_rfl
def F13 : List PV → Option (Bool × PV)
  | [.agg [.sl .unit l, .sl .int starts, .sl .spot goals], .sl .u8 other] => some (true, .b true)
  | _ => none
theorem s13 : Sum glU 13 F13 := by
  intro ps r h
  unfold F13 at h
  split at h
  · rename_i l starts goals other
    obtain ⟨hc, rfl⟩ := Prod.mk.inj (Option.some.inj h)
    refine call_by (K := K13) (L := L13) (bxs := []) (ows := [18]) (GOk.cons s41 (GOk.cons s16 (GOk.cons s42 (GOk.cons s45 (GOk.nil))))) fn13 (l13 ) (by kernel_rfl) (evF_some ((e13 l starts goals other).trans ?_))
    cases hv : vastS l starts goals with
    | true => rfl
    | false =>
      obtain ⟨h1, h2, h3⟩ := vast_no hv
      have a1 : decide (l.length ≤ 1000000) = true := decide_eq_true (by omega)
      have a2 : decide (starts.length ≤ 1000000) = true := decide_eq_true (by omega)
      have a3 : decide (goals.length ≤ 1000000) = true := decide_eq_true (by omega)
      have a4 : decide ((AsW l starts goals).length ≤ 1000000) = true := decide_eq_true (by have := AsW_len l starts goals; omega)
      simp only [a1, a2, a3, a4, Bool.and_self]
      cases hE : (AsE l starts goals != 0) with
      | true =>
        have hW : AsW l starts goals = [] := by
          unfold AsE at hE
          unfold AsW
          cases g1 : asLong l goals with
          | true => rfl
          | false =>
            rw [g1] at hE
            cases g2 : asArg l starts goals with
            | true => rfl
            | false => rw [g2] at hE; exact Bool.noConfusion (show false = true from hE)
        rw [hW]
        rfl
      | false =>
        have hE0 : AsE l starts goals = 0 := by simpa using hE
        have hA := assP hE0
        have hls := hA.p.ls
        have hln : ((l.length : Int) != (starts.length : Int)) = false := by rw [hls]; exact bne_self_eq_false _
        have hB := (arB_mem (starts := starts)).2 hA.mem
        have hEb : (AsE l starts goals == 0) = true := by rw [hE0]; rfl
        simp only [hln, hEb, hB, Bool.not_true, Bool.true_and]
        refine (loop13 other l starts goals _ _ _ _ rfl).trans ?_
        generalize hM : othW other (min other.length 8) = M
        have hMl : M.length ≤ 1000000 := by rw [← hM, othW_len]; omega
        simp only [hEb, decide_eq_true hMl, Bool.and_self]
        cases hBM : arB l starts goals M with
        | false => rfl
        | true =>
          have hbest := hA.best M (arB_mem.1 hBM)
          rw [(ar_val hB).1, (ar_val hB).2, (ar_val hBM).1, (ar_val hBM).2]
          have : (bif (bif (bif (!true) then true else (decide (lastS starts l goals (AsW l starts goals) (AsW l starts goals).length < lastS starts l goals M M.length))) then true else (bif (lastS starts l goals (AsW l starts goals) (AsW l starts goals).length == lastS starts l goals M M.length) then (decide (sumS starts l goals (AsW l starts goals) (AsW l starts goals).length ≤ sumS starts l goals M M.length)) else false)) then true else false) = true := by
            simp only [bif_f, bif_t, Bool.not_true, Bool.false_or, Bool.or_eq_true, Bool.and_eq_true, decide_eq_true_eq, beq_iff_eq, and_true]
            exact hbest
          rw [this]
          rfl
  · simp at h
end Go.Proofs.YtnbcmgdogohenaaDoor.Ev
