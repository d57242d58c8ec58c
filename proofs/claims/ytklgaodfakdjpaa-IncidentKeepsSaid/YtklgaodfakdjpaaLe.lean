/- Summaries of functions, printed by a program out of a list, and what is made of them. -/
import Derived.Test.YtklgaodfakdjpaaLd
set_option linter.unusedVariables false
set_option linter.unusedSimpArgs false
set_option maxRecDepth 100000
namespace Go.Proofs.Ytklgaodfakdjpaa.Ev
open Go Go.RowKit Go.Proofs
theorem in8 {ρ : Type} (l : List Act') (w d : Int) (es es2 : List Entry) (op op2 : List Bool) (pr pr2 : List Proved) (k : Nat) (hk : k < l.length) (hl : l.length ≤ 60) (h : BookP w d true es op pr) (h2 : op2.length ≤ 500) (e2 : op2 = doesO es op pr w d (atN .act l k)) (out : S8v_14 × Bool → Option ρ) :
    iter st8v_14 (fuel8v_14 (⟨l, false, (k : Int), (incE op ((atN .act l k).n)), (doesE es op pr w d (atN .act l k)), 0, w, d, true, (openA op), (missA es op pr ((atN .act l k).n)), (openA op2), es2, op2, pr2⟩ : S8v_14)) (⟨l, false, (k : Int), (incE op ((atN .act l k).n)), (doesE es op pr w d (atN .act l k)), 0, w, d, true, (openA op), (missA es op pr ((atN .act l k).n)), (openA op2), es2, op2, pr2⟩ : S8v_14) out
      = out ((⟨l, false, (k : Int), (incE op ((atN .act l k).n)), (doesE es op pr w d (atN .act l k)), ((openA op).length : Int), w, d, true, (openA op), (missA es op pr ((atN .act l k).n)), (openA op2), es2, op2, pr2⟩ : S8v_14), false) := by
  have hol := openA_len op
  have hol2 := openA_len op2
  have hlo := h.lop
  refine iter_each (step := st8v_14) (F := fun j => (⟨l, false, (k : Int), (incE op ((atN .act l k).n)), (doesE es op pr w d (atN .act l k)), (j : Int), w, d, true, (openA op), (missA es op pr ((atN .act l k).n)), (openA op2), es2, op2, pr2⟩ : S8v_14)) (last := ((⟨l, false, (k : Int), (incE op ((atN .act l k).n)), (doesE es op pr w d (atN .act l k)), ((openA op).length : Int), w, d, true, (openA op), (missA es op pr ((atN .act l k).n)), (openA op2), es2, op2, pr2⟩ : S8v_14), false)) (openA op).length _ (fun j next hj => ?_) (fun next => ?_) _ (Nat.le_refl _) _ rfl
  · simp only [st8v_14, decLt_nat hj, decLt_nat hk, inB_nat hj, inB_nat hk, inN_nat hj, wr_succ (show j ≤ 1000000 by omega), Int.toNat_natCast, atD, Bool.true_or, decide_eq_true (show (openA op2).length ≤ 1000000 by omega)]
    cases hm : List.any (openA op2) (fun x => x == atN .int (openA op) j) with
    | true => rfl
    | false =>
      have hx : atN .int (openA op) j ∈ openA op := by
        rw [atN_nat (T := .int) hj]
        exact List.getElem_mem hj
      have hnx : atN .int (openA op) j ∉ openA (doesO es op pr w d (atN .act l k)) := by
        rw [← e2]
        intro hh
        have := List.any_eq_false.1 hm _ hh
        simp at this
      have hgoal : (bif (!(bif (bif (bif (bif (((atN .act l k).what) == 2) then (((atN .act l k).n) == (atN .int (openA op) j)) else false) then ((doesE es op pr w d (atN .act l k)) == 0) else false) then ((incE op ((atN .act l k).n)) == 0) else false) then (((missA es op pr ((atN .act l k).n)).length : Int) == 0) else false)) then (!(bif (bif (((atN .act l k).what) == 3) then (((atN .act l k).m) == (atN .int (openA op) j)) else false) then ((doesE es op pr w d (atN .act l k)) == 0) else false)) else false) = false := by
        rcases shut_why h (atN .act l k) hx hnx with ⟨⟨⟨⟨h1, h2⟩, h3⟩, h4⟩, h5⟩ | ⟨⟨h1, h2⟩, h3⟩
        · rw [h1, h3, h4, h5, h2]
          simp
        · rw [h1, h3, h2]
          simp
      simp only [hgoal]
  · simp only [st8v_14, decLt_self]
theorem out8 (l : List Act') (w d : Int) (hl : l.length ≤ 60) (hr : rulesR w d = true) : iter st8v_7 (fuel8v_7 (⟨l, false, 0, w, d, true, ([]), ([]), ([])⟩ : S8v_7)) (⟨l, false, 0, w, d, true, ([]), ([]), ([])⟩ : S8v_7) (fun o7 => (match o7.2 with | true => an (.b o7.1.t6) | false => an (.b true))) = an (.b true) := by
  refine (iter_each (step := st8v_7) (F := fun k => (⟨l, false, (k : Int), w, d, true, (bkAt w d l k).es, (bkAt w d l k).op, (bkAt w d l k).pr⟩ : S8v_7)) (last := ((⟨l, false, (l.length : Int), w, d, true, (bkAt w d l l.length).es, (bkAt w d l l.length).op, (bkAt w d l l.length).pr⟩ : S8v_7), false)) l.length _ (fun k next hk => ?_) (fun next => ?_) _ (show l.length + 1 ≤ 61 by omega) _ rfl).trans rfl
  · have hP := bkAt_P hr l k
    have hP2 := does_P hP (atN .act l k)
    have b1 := book_iff.2 hP
    have b2 := book_iff.2 hP2
    simp only [st8v_7, decLt_nat hk, inB_nat hk, wr_succ (show k ≤ 1000000 by omega), Int.toNat_natCast, atD, b1, b2]
    refine (in8 l w d _ _ _ _ _ _ k hk hl hP hP2.lop rfl _).trans ?_
    simp only [wr_succ (show k ≤ 1000000 by omega)]
    rfl
  · simp only [st8v_7, decLt_self]
theorem e8v (gl : Gl) (w : Int) (d : Int) (l : List Act') : evFn (cxo gl (mkG [(24, F24), (9, F9), (10, F10)]) (mkO [(19, 2, FO19), (18, 2, FO18), (13, 1, FO13), (11, 2, FO11v)]) none [] rlT [] []) K8v L8v Try.f8 [.i .i64 w, .i .i64 d, .sl .act l] noObjs = (match (greatL l) with | true => an (.b true) | false => (match (rulesV w d) with | true => (iter st8v_7 (fuel8v_7 (⟨l, false, 0, w, d, true, ([]), ([]), ([])⟩ : S8v_7)) (⟨l, false, 0, w, d, true, ([]), ([]), ([])⟩ : S8v_7) fun o7 => (match o7.2 with | true => an (.b o7.1.t6) | false => an (.b true))) | false => none)) := by kernel_rfl
def F8v : List PV → Option (Bool × PV)
  | [.i .i64 w, .i .i64 d, .sl .act l] => some ((rulesV w d), .b true)
  | _ => none
theorem s8v {gl : Gl} : Sum gl 8 F8v := by
  intro ps r h
  unfold F8v at h
  split at h
  · rename_i w d l
    obtain ⟨hc, rfl⟩ := Prod.mk.inj (Option.some.inj h)
    refine call_byO (K := K8v) (L := L8v) (bxs := []) (ows := []) (GOk.cons s24 (GOk.cons s9 (GOk.cons s10 (GOk.nil)))) (OOk.cons so19 (OOk.cons so18 (OOk.cons so13 (OOk.cons so11v (OOk.nil))))) fn8 (l8v gl) (by kernel_rfl) (evF_some ((e8v gl w d l).trans ?_))
    rw [hc]
    show (match greatL l with | true => _ | false => _) = _
    cases hg : greatL l with
    | true => rfl
    | false =>
      have hl : l.length ≤ 60 := by
        unfold greatL at hg
        cases h6 : decide ((l.length : Int) > 60) with
        | true => rw [h6] at hg; exact absurd hg (by simp)
        | false => have := of_decide_eq_false h6; omega
      exact out8 l w d hl hc
  · simp at h
def F8 : List PV → Option (Bool × PV)
  | [.i .i64 w, .i .i64 d, .sl .act l] => some (true, .b true)
  | _ => none
theorem s8 {gl : Gl} : Sum gl 8 F8 := by
  intro ps r h
  unfold F8 at h
  split at h
  · rename_i w d l
    obtain ⟨_, rfl⟩ := Prod.mk.inj (Option.some.inj h)
    cases hr : rulesV w d with
    | true => exact s8v _ _ (by show some (rulesV w d, _) = _; rw [hr])
    | false => exact s8x _ _ (by show some (!(rulesV w d), _) = _; rw [hr]; rfl)
  · simp at h
end Go.Proofs.Ytklgaodfakdjpaa.Ev
