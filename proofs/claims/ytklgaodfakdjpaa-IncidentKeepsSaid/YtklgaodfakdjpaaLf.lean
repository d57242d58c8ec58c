/- Where a report is put, and why, in plain Lean. -/
import Derived.Test.YtklgaodfakdjpaaLd
import Derived.Test.YtklgaodfakdjpaaLe
set_option linter.unusedVariables false
set_option linter.unusedSimpArgs false
namespace Go.Proofs.Ytklgaodfakdjpaa.Ev
open Go Go.RowKit Go.Proofs

theorem mayL_mem {es : List Entry} {op : List Bool} {r : Report} {w d x : Int} : ∀ {k : Nat}, x ∈ mayL es op r w d k → ∃ j : Nat, j < k ∧ x = (j : Int) ∧ mayB es op r w d j = true
  | 0, h => by simp [mayL] at h
  | k + 1, h => by
    unfold mayL at h
    cases hb : mayB es op r w d k with
    | true =>
      rw [hb] at h
      rcases List.mem_append.1 (show x ∈ mayL es op r w d k ++ [(k : Int)] from h) with h | h
      · obtain ⟨j, h1, h2, h3⟩ := mayL_mem h
        exact ⟨j, by omega, h2, h3⟩
      · simp at h
        exact ⟨k, by omega, h, hb⟩
    | false =>
      rw [hb] at h
      obtain ⟨j, h1, h2, h3⟩ := mayL_mem (show x ∈ mayL es op r w d k from h)
      exact ⟨j, by omega, h2, h3⟩
/-- Why a report is put where it is put. -/
theorem place_why (es : List Entry) (op : List Bool) (r : Report) (w d : Int) :
    (placeY es op r w d = 1 ∧ hasE es (placeI es op r w d) r 1 w d = true ∧ placeI es op r w d < (op.length : Int)) ∨ (placeY es op r w d = 2 ∧ hasE es (placeI es op r w d) r 5 w d = true ∧ hasE es (placeI es op r w d) r 1 w d = false ∧ hasE es (placeI es op r w d) r 2 w d = false ∧ placeI es op r w d < (op.length : Int) ∧ ∀ i : Nat, i < op.length → hasE es i r 1 w d = false) ∨
      ((placeY es op r w d = 3 ∨ placeY es op r w d = 4) ∧ placeI es op r w d = (op.length : Int) ∧ ∀ i : Nat, i < op.length → hasE es i r 1 w d = false) := by
  unfold placeY placeI
  cases hs : sameI es op r w d with
  | some i =>
    left
    have h1 := List.find?_some hs
    have h2 := List.mem_of_find?_eq_some hs
    simp at h2
    exact ⟨rfl, h1, by show (i : Int) < _; omega⟩
  | none =>
    right
    have hno : ∀ i : Nat, i < op.length → hasE es i r 1 w d = false := by
      intro i hi
      have := List.find?_eq_none.1 hs i (by simp; omega)
      simpa using this
    have hm := @mayL_mem es op r w d
    cases hl : mayL es op r w d op.length with
    | nil => exact .inr ⟨.inr rfl, rfl, hno⟩
    | cons a t =>
      cases t with
      | nil =>
        left
        obtain ⟨j, h1, h2, h3⟩ := hm (x := a) (k := op.length) (by rw [hl]; simp)
        subst h2
        unfold mayB at h3
        refine ⟨rfl, ?_, hno j h1, ?_, by show (j : Int) < _; omega, hno⟩
        · cases h5 : hasE es j r 5 w d with
          | true => rfl
          | false => rw [h5] at h3; cases ha : atN .bool op j <;> rw [ha] at h3 <;> exact absurd h3 (by simp)
        · cases h2 : hasE es j r 2 w d with
          | false => rfl
          | true =>
            rw [h2] at h3
            exfalso
            revert h3
            cases (bif atN .bool op j then hasE es j r 5 w d else false) <;> simp
      | cons b t => exact .inr ⟨.inl rfl, rfl, hno⟩
/-! ### The reports of an incident, when there is one more -/
theorem atN_app {es : List Entry} {x : Entry} {k : Nat} (hk : k < es.length) : atN .entry (es ++ [x]) k = es[k] := by
  rw [atN_nat (T := .entry) (show k < (es ++ [x]).length by simp; omega)]
  exact List.getElem_append_left hk
theorem atN_last {es : List Entry} {x : Entry} : atN .entry (es ++ [x]) es.length = x := by
  rw [atN_nat (T := .entry) (show es.length < (es ++ [x]).length by simp)]
  simp
theorem ofL_app {es : List Entry} {x : Entry} {inc : Int} {p : Int → Bool} : ∀ {k : Nat}, k ≤ es.length → ofL (es ++ [x]) inc p k = ofL es inc p k
  | 0, _ => rfl
  | k + 1, hk => by
    unfold ofL
    rw [ofL_app (by omega), atN_app (by omega), atN_nat (T := .entry) (show k < es.length by omega)]
theorem allL_app (es : List Entry) (x : Entry) (inc : Int) : allL (es ++ [x]) inc = bif (x.of_ == inc) then allL es inc ++ [(es.length : Int)] else allL es inc := by
  unfold allL
  have hl : (es ++ [x]).length = es.length + 1 := by simp
  rw [hl]
  show (bif (bif ((atN .entry (es ++ [x]) es.length).of_ == inc) then true else false) then _ else _) = _
  rw [ofL_app (Nat.le_refl _), atN_last]
  cases (x.of_ == inc) <;> rfl
theorem ofL_any {es : List Entry} {inc : Int} {f : Int → Bool} {c : Entry → Bool} (h : ∀ j (hj : j < es.length), f (j : Int) = c es[j]) : ∀ {k : Nat}, k ≤ es.length → List.any (ofL es inc (fun _ => true) k) f = List.any (es.take k) (fun x => bif x.of_ == inc then c x else false)
  | 0, _ => rfl
  | k + 1, hk => by
    have hk' : k < es.length := by omega
    have ih := ofL_any h (inc := inc) (k := k) (by omega)
    rw [List.take_succ_eq_append_getElem hk', List.any_append, ← ih]
    rw [show ofL es inc (fun _ => true) (k + 1) = bif (bif ((atN .entry es k).of_ == inc) then true else false) then ofL es inc (fun _ => true) k ++ [(k : Int)] else ofL es inc (fun _ => true) k from rfl, atN_nat (T := .entry) hk']
    cases hb : (es[k].of_ == inc) with
    | true =>
      show List.any (ofL es inc (fun _ => true) k ++ [(k : Int)]) f = _
      rw [List.any_append]
      simp [hb, h k hk']
    | false =>
      show List.any (ofL es inc (fun _ => true) k) f = _
      simp [hb]
theorem allL_any {es : List Entry} {inc : Int} {f : Int → Bool} {c : Entry → Bool} (h : ∀ j (hj : j < es.length), f (j : Int) = c es[j]) : List.any (allL es inc) f = List.any es (fun x => bif x.of_ == inc then c x else false) := by
  unfold allL
  rw [ofL_any h (Nat.le_refl _), List.take_length]
theorem ofL_memI {es : List Entry} {inc : Int} {p : Int → Bool} {x : Int} : ∀ {k : Nat}, x ∈ ofL es inc p k ↔ ∃ j : Nat, j < k ∧ x = (j : Int) ∧ (atN .entry es j).of_ = inc ∧ p (j : Int) = true
  | 0 => by simp [ofL]
  | k + 1 => by
    have ih := ofL_memI (es := es) (inc := inc) (p := p) (x := x) (k := k)
    unfold ofL
    cases hb : (bif ((atN .entry es k).of_ == inc) then p (k : Int) else false) with
    | true =>
      have hb2 : (atN .entry es k).of_ = inc ∧ p (k : Int) = true := by
        cases hx : ((atN .entry es k).of_ == inc) with
        | true => rw [hx] at hb; exact ⟨beq_iff_eq.1 hx, hb⟩
        | false => rw [hx] at hb; exact absurd hb (by simp)
      show x ∈ ofL es inc p k ++ [(k : Int)] ↔ _
      rw [List.mem_append, ih, List.mem_singleton]
      constructor
      · rintro (⟨j, h1, h2⟩ | h)
        · exact ⟨j, by omega, h2⟩
        · exact ⟨k, by omega, h, hb2⟩
      · rintro ⟨j, h1, h2, h3⟩
        rcases Nat.lt_or_ge j k with h | h
        · exact .inl ⟨j, h, h2, h3⟩
        · obtain rfl : j = k := by omega
          exact .inr h2
    | false =>
      show x ∈ ofL es inc p k ↔ _
      rw [ih]
      constructor
      · rintro ⟨j, h1, h2⟩
        exact ⟨j, by omega, h2⟩
      · rintro ⟨j, h1, h2, h3, h4⟩
        rcases Nat.lt_or_ge j k with h | h
        · exact ⟨j, h, h2, h3, h4⟩
        · obtain rfl : j = k := by omega
          rw [h3, beq_self_eq_true, h4] at hb
          exact absurd hb (by simp)
theorem allL_mem {es : List Entry} {inc x : Int} : x ∈ allL es inc ↔ ∃ j : Nat, ∃ hj : j < es.length, x = (j : Int) ∧ es[j].of_ = inc := by
  unfold allL
  rw [ofL_memI]
  constructor
  · rintro ⟨j, h1, h2, h3, _⟩
    rw [atN_nat (T := .entry) h1] at h3
    exact ⟨j, h1, h2, h3⟩
  · rintro ⟨j, h1, h2, h3⟩
    exact ⟨j, h1, h2, by rw [atN_nat (T := .entry) h1]; exact h3, rfl⟩
theorem allL_none {es : List Entry} {inc : Int} (h : ∀ x ∈ es, x.of_ ≠ inc) : allL es inc = [] := by
  refine List.eq_nil_iff_forall_not_mem.2 fun x hx => ?_
  obtain ⟨j, hj, _, h2⟩ := allL_mem.1 hx
  exact h _ (List.getElem_mem hj) h2
section
variable {w d : Int} {es : List Entry} {op : List Bool} {pr : List Proved}
/-- A report that was taken: what the book then is. -/
theorem taken (h : BookP w d true es op pr) {r : Report} (he : takeE es r = 0) : takeB es r = false ∧ repOk r = true ∧ takeN es op r w d = placeI es op r w d ∧ takeY es op r w d = placeY es op r w d ∧ takeS es op r w d = es ++ [⟨r, placeI es op r w d⟩] ∧ inB (placeI es op r w d) (takeO es op r w d).length = true := by
  have hb : takeB es r = false ∧ repOk r = true := by
    unfold takeE at he
    unfold takeB
    cases hr : repOk r with
    | false => rw [hr] at he; exact absurd he (by simp)
    | true =>
      rw [hr] at he
      cases h5 : ((es.length : Int) == 500) with
      | true => rw [h5] at he; exact absurd he (by simp)
      | false => exact ⟨rfl, rfl⟩
  have hp := place_in es op r w d
  have e2 := takeO_len es op r w d hb.1
  refine ⟨hb.1, hb.2, by unfold takeN; rw [hb.1]; rfl, by unfold takeY; rw [hb.1]; rfl, by unfold takeS; rw [hb.1]; rfl, ?_⟩
  rw [e2, inB_iff]
  cases hq : (placeI es op r w d == (op.length : Int)) with
  | true =>
    have := beq_iff_eq.1 hq
    show 0 ≤ _ ∧ _ < ((op.length + 1 : Nat) : Int)
    omega
  | false =>
    have := beq_no hq
    show 0 ≤ _ ∧ _ < ((op.length : Nat) : Int)
    omega
theorem cmp_ok (h : BookP w d true es op pr) {r : Report} (hr : repOk r = true) {x : Entry} (hx : x ∈ es) : cmpN x.r r w d = cmpR x.r r w d ∧ cmpE x.r r w d = 0 := by
  unfold cmpN cmpE
  rw [h.rep x hx, hr, h.rules]
  exact ⟨rfl, rfl⟩
end
end Go.Proofs.Ytklgaodfakdjpaa.Ev
/- Summaries of functions, printed by a program out of a list, and what is made of them. -/
set_option maxRecDepth 100000
namespace Go.Proofs.Ytklgaodfakdjpaa.Ev
open Go Go.RowKit Go.Proofs
theorem fn7 : FnOk 7 Try.f7 := ⟨by kernel_rfl, by kernel_rfl, by kernel_rfl, by kernel_rfl⟩
theorem e7x (gl : Gl) (w : Int) (d : Int) (l : List Act') : evFn (cxo gl (mkG [(9, F9), (10, F10)]) (mkO [(11, 2, FO11x)]) none [] rlT [] []) noK noL Try.f7 [.i .i64 w, .i .i64 d, .sl .act l] noObjs = (match (greatL l) with | true => an (.b true) | false => (match (!(rulesV w d)) with | true => an (.b true) | false => none)) := by kernel_rfl
def F7x : List PV → Option (Bool × PV)
  | [.i .i64 w, .i .i64 d, .sl .act l] => some ((!(rulesV w d)), .b true)
  | _ => none
theorem s7x {gl : Gl} : Sum gl 7 F7x := by
  intro ps r h
  unfold F7x at h
  split at h
  · rename_i w d l
    obtain ⟨hc, rfl⟩ := Prod.mk.inj (Option.some.inj h)
    refine call_byO (K := noK) (L := noL) (bxs := []) (ows := []) (GOk.cons s9 (GOk.cons s10 (GOk.nil))) (OOk.cons so11x (OOk.nil)) fn7 (noneLoops) (by kernel_rfl) (evF_some ((e7x gl w d l).trans ?_))
    rw [hc]
    show (match greatL l with | true => _ | false => _) = _
    cases greatL l <;> rfl
  · simp at h
structure S7v_16 where
  window : Int
  drift : Int
  l : List Act'
  t6 : Bool
  i : Int
  why : Int
  near : Bool
  same : Bool
  j : Int
  h37 : Int
  h372 : Int
  h373 : Bool
  h84 : List Int
  h167 : List Entry
  h166 : List Bool
  h165 : List Proved
def S7v_16.enc (s : S7v_16) : List PV := [.i .i64 s.window, .i .i64 s.drift, .sl .act s.l, .b s.t6, .ref 37 0, .i .i64 s.i, .i .i64 s.why, .own 84, .b s.near, .b s.same, .i .i64 s.j]
def S7v_16.encH (s : S7v_16) : Heap := [some (.cells 54 [.i .i64 s.h37, .i .i64 s.h372, .b s.h373, .own 167, .own 166, .own 165]), some (.row .int 3 s.h84), some (.row .entry 89 s.h167), some (.row .bool 4 s.h166), some (.row .proved 102 s.h165)]
def dec7v_16 : List PV → Heap → Option S7v_16
  | [.i .i64 window_, .i .i64 drift_, .sl .act l_, .b t6_, .ref 37 0, .i .i64 i_, .i .i64 why_, .own 84, .b near_, .b same_, .i .i64 j_], [some (.cells 54 [.i .i64 h37_, .i .i64 h372_, .b h373_, .own 167, .own 166, .own 165]), some (.row .int 3 h84_), some (.row .entry 89 h167_), some (.row .bool 4 h166_), some (.row .proved 102 h165_)] => some ⟨window_, drift_, l_, t6_, i_, why_, near_, same_, j_, h37_, h372_, h373_, h84_, h167_, h166_, h165_⟩
  | _, _ => none
theorem dec_enc7v_16 (vs : List PV) (hs : Heap) (s : S7v_16) (h : dec7v_16 vs hs = some s) : vs = s.enc ∧ hs = s.encH := by
  unfold dec7v_16 at h
  split at h
  · obtain rfl := Option.some.inj h
    exact ⟨rfl, rfl⟩
  · simp at h
def st7v_16 {ρ : Type} (s : S7v_16) (next : S7v_16 → Option ρ) (out : S7v_16 → Option ρ) : Option ρ := (match (decide (s.j < (wr ((s.h84.length : Int) - 1)))) with | true => (match (inB s.j s.h84.length) with | true => (match (inN (Int.toNat s.j) s.h84.length) with | true => (match (bookOk s.h37 s.h372 s.h373 s.h167 s.h166 s.h165) with | true => (match (inB s.i s.l.length) with | true => next ⟨s.window, s.drift, s.l, s.t6, s.i, s.why, (bif s.near then true else (bif ((cmpN (repR s.h167 (atN .int s.h84 (Int.toNat s.j))) ((atD .act s.l s.i).r) s.window s.drift) == 5) then ((cmpE (repR s.h167 (atN .int s.h84 (Int.toNat s.j))) ((atD .act s.l s.i).r) s.window s.drift) == 0) else false)), (bif s.same then true else (bif ((cmpN (repR s.h167 (atN .int s.h84 (Int.toNat s.j))) ((atD .act s.l s.i).r) s.window s.drift) == 1) then ((cmpE (repR s.h167 (atN .int s.h84 (Int.toNat s.j))) ((atD .act s.l s.i).r) s.window s.drift) == 0) else false)), (wr (s.j + 1)), s.h37, s.h372, s.h373, s.h84, s.h167, s.h166, s.h165⟩ | false => none) | false => none) | false => none) | false => none) | false => out s)
def out7v_16 (k : Ex → List PV → Heap → Option R) (o : S7v_16) : Option R := k (.exit 2) o.enc o.encH
def fuel7v_16 (s : S7v_16) : Nat := 501
structure S7v_7 where
  window : Int
  drift : Int
  l : List Act'
  t6 : Bool
  i : Int
  h37 : Int
  h372 : Int
  h373 : Bool
  h167 : List Entry
  h166 : List Bool
  h165 : List Proved
def S7v_7.enc (s : S7v_7) : List PV := [.i .i64 s.window, .i .i64 s.drift, .sl .act s.l, .b s.t6, .ref 37 0, .i .i64 s.i]
def S7v_7.encH (s : S7v_7) : Heap := [some (.cells 54 [.i .i64 s.h37, .i .i64 s.h372, .b s.h373, .own 167, .own 166, .own 165]), some (.row .entry 89 s.h167), some (.row .bool 4 s.h166), some (.row .proved 102 s.h165)]
def dec7v_7 : List PV → Heap → Option S7v_7
  | [.i .i64 window_, .i .i64 drift_, .sl .act l_, .b t6_, .ref 37 0, .i .i64 i_], [some (.cells 54 [.i .i64 h37_, .i .i64 h372_, .b h373_, .own 167, .own 166, .own 165]), some (.row .entry 89 h167_), some (.row .bool 4 h166_), some (.row .proved 102 h165_)] => some ⟨window_, drift_, l_, t6_, i_, h37_, h372_, h373_, h167_, h166_, h165_⟩
  | _, _ => none
theorem dec_enc7v_7 (vs : List PV) (hs : Heap) (s : S7v_7) (h : dec7v_7 vs hs = some s) : vs = s.enc ∧ hs = s.encH := by
  unfold dec7v_7 at h
  split at h
  · obtain rfl := Option.some.inj h
    exact ⟨rfl, rfl⟩
  · simp at h
def st7v_7 {ρ : Type} (s : S7v_7) (next : S7v_7 → Option ρ) (out : S7v_7 × Bool → Option ρ) : Option ρ := (match (decide (s.i < (s.l.length : Int))) with | true => (match (inB s.i s.l.length) with | true => (match (bookOk s.h37 s.h372 s.h373 s.h167 s.h166 s.h165) with | true => (match ((inB s.i s.l.length) || (((doesE s.h167 s.h166 s.h165 s.h37 s.h372 (atD .act s.l s.i)) != 0) || false)) with | true => (match ((inB s.i s.l.length) || (((doesE s.h167 s.h166 s.h165 s.h37 s.h372 (atD .act s.l s.i)) != 0) || ((!(decide (((atD .act s.l s.i).what) ≥ 1))) || false))) with | true => (match (bif ((doesE s.h167 s.h166 s.h165 s.h37 s.h372 (atD .act s.l s.i)) != 0) then true else (bif (decide (((atD .act s.l s.i).what) ≥ 1)) then (decide (((atD .act s.l s.i).what) ≤ 3)) else false)) with | true => next ⟨s.window, s.drift, s.l, s.t6, (wr (s.i + 1)), s.h37, s.h372, s.h373, (doesS s.h167 s.h166 s.h37 s.h372 (atD .act s.l s.i)), (doesO s.h167 s.h166 s.h165 s.h37 s.h372 (atD .act s.l s.i)), (doesP s.h167 s.h165 s.h37 (atD .act s.l s.i))⟩ | false => (match (bookOk s.h37 s.h372 s.h373 (doesS s.h167 s.h166 s.h37 s.h372 (atD .act s.l s.i)) (doesO s.h167 s.h166 s.h165 s.h37 s.h372 (atD .act s.l s.i)) (doesP s.h167 s.h165 s.h37 (atD .act s.l s.i))) with | true => (match (bif ((incE (doesO s.h167 s.h166 s.h165 s.h37 s.h372 (atD .act s.l s.i)) (doesN s.h167 s.h166 s.h165 s.h37 s.h372 (atD .act s.l s.i))) != 0) then true else (((reportsL (doesS s.h167 s.h166 s.h37 s.h372 (atD .act s.l s.i)) (doesO s.h167 s.h166 s.h165 s.h37 s.h372 (atD .act s.l s.i)) (doesN s.h167 s.h166 s.h165 s.h37 s.h372 (atD .act s.l s.i))).length : Int) == 0)) with | true => out (⟨s.window, s.drift, s.l, false, s.i, s.h37, s.h372, s.h373, (doesS s.h167 s.h166 s.h37 s.h372 (atD .act s.l s.i)), (doesO s.h167 s.h166 s.h165 s.h37 s.h372 (atD .act s.l s.i)), (doesP s.h167 s.h165 s.h37 (atD .act s.l s.i))⟩, true) | false => (iter st7v_16 (fuel7v_16 (⟨s.window, s.drift, s.l, s.t6, s.i, (doesM s.h167 s.h166 s.h37 s.h372 (atD .act s.l s.i)), false, false, 0, s.h37, s.h372, s.h373, (reportsL (doesS s.h167 s.h166 s.h37 s.h372 (atD .act s.l s.i)) (doesO s.h167 s.h166 s.h165 s.h37 s.h372 (atD .act s.l s.i)) (doesN s.h167 s.h166 s.h165 s.h37 s.h372 (atD .act s.l s.i))), (doesS s.h167 s.h166 s.h37 s.h372 (atD .act s.l s.i)), (doesO s.h167 s.h166 s.h165 s.h37 s.h372 (atD .act s.l s.i)), (doesP s.h167 s.h165 s.h37 (atD .act s.l s.i))⟩ : S7v_16)) (⟨s.window, s.drift, s.l, s.t6, s.i, (doesM s.h167 s.h166 s.h37 s.h372 (atD .act s.l s.i)), false, false, 0, s.h37, s.h372, s.h373, (reportsL (doesS s.h167 s.h166 s.h37 s.h372 (atD .act s.l s.i)) (doesO s.h167 s.h166 s.h165 s.h37 s.h372 (atD .act s.l s.i)) (doesN s.h167 s.h166 s.h165 s.h37 s.h372 (atD .act s.l s.i))), (doesS s.h167 s.h166 s.h37 s.h372 (atD .act s.l s.i)), (doesO s.h167 s.h166 s.h165 s.h37 s.h372 (atD .act s.l s.i)), (doesP s.h167 s.h165 s.h37 (atD .act s.l s.i))⟩ : S7v_16) fun o16 => (match (o16.why == 1) with | true => (match (!o16.same) with | true => out (⟨o16.window, o16.drift, o16.l, false, o16.i, o16.h37, o16.h372, o16.h373, o16.h167, o16.h166, o16.h165⟩, true) | false => next ⟨o16.window, o16.drift, o16.l, o16.t6, (wr (o16.i + 1)), o16.h37, o16.h372, o16.h373, o16.h167, o16.h166, o16.h165⟩) | false => (match (o16.why == 2) with | true => (match (bif (!o16.near) then true else o16.same) with | true => out (⟨o16.window, o16.drift, o16.l, false, o16.i, o16.h37, o16.h372, o16.h373, o16.h167, o16.h166, o16.h165⟩, true) | false => next ⟨o16.window, o16.drift, o16.l, o16.t6, (wr (o16.i + 1)), o16.h37, o16.h372, o16.h373, o16.h167, o16.h166, o16.h165⟩) | false => (match (o16.why == 3) with | true => (match (o16.why == 3) with | true => (match ((o16.h84.length : Int) != 1) with | true => out (⟨o16.window, o16.drift, o16.l, false, o16.i, o16.h37, o16.h372, o16.h373, o16.h167, o16.h166, o16.h165⟩, true) | false => next ⟨o16.window, o16.drift, o16.l, o16.t6, (wr (o16.i + 1)), o16.h37, o16.h372, o16.h373, o16.h167, o16.h166, o16.h165⟩) | false => out (⟨o16.window, o16.drift, o16.l, false, o16.i, o16.h37, o16.h372, o16.h373, o16.h167, o16.h166, o16.h165⟩, true)) | false => (match (o16.why == 4) with | true => (match ((o16.h84.length : Int) != 1) with | true => out (⟨o16.window, o16.drift, o16.l, false, o16.i, o16.h37, o16.h372, o16.h373, o16.h167, o16.h166, o16.h165⟩, true) | false => next ⟨o16.window, o16.drift, o16.l, o16.t6, (wr (o16.i + 1)), o16.h37, o16.h372, o16.h373, o16.h167, o16.h166, o16.h165⟩) | false => out (⟨o16.window, o16.drift, o16.l, false, o16.i, o16.h37, o16.h372, o16.h373, o16.h167, o16.h166, o16.h165⟩, true))))))) | false => none)) | false => none) | false => none) | false => none) | false => none) | false => out (s, false))
def out7v_7 (k : Ex → List PV → Heap → Option R) (o : S7v_7 × Bool) : Option R := match o.2 with
  | true => k .ret o.1.enc o.1.encH
  | false => k (.exit 0) o.1.enc o.1.encH
def fuel7v_7 (s : S7v_7) : Nat := 61
def K7v : Keep := fun i => match i with
  | 7 => ([0, 1, 2, 6, 7, 9], [37, 167, 166, 165])
  | 16 => ([0, 1, 2, 6, 7, 9, 11, 13, 15, 16, 17], [37, 84, 167, 166, 165])
  | _ => ([], [])
def L7v : Lam := fun b vs hs k => match loopId b with
  | 7 => loopL dec7v_7 st7v_7 fuel7v_7 out7v_7 b vs hs k
  | 16 => loopL dec7v_16 st7v_16 fuel7v_16 out7v_16 b vs hs k
  | _ => none
noncomputable def b7v_16 : Code := (loopsOf (bodyOf Try.f7)).getD 1 .skip
noncomputable def b7v_7 : Code := (loopsOf (bodyOf Try.f7)).getD 0 .skip
theorem step7v_16 (gl : Gl) (j : Nat) (s : S7v_16) (k : Ex → List PV → Heap → Option R) : unroll (cxo gl (mkG [(23, F23), (9, F9), (10, F10)]) (mkO [(17, 1, FO17), (13, 1, FO13), (16, 2, FO16), (11, 2, FO11v)]) none [] rlT [] []) K7v L7v Try.f7.ntmps (Try.f7.ntmps + 16) b7v_16 (j + 1) s.enc s.encH k = st7v_16 s (fun s' => unroll (cxo gl (mkG [(23, F23), (9, F9), (10, F10)]) (mkO [(17, 1, FO17), (13, 1, FO13), (16, 2, FO16), (11, 2, FO11v)]) none [] rlT [] []) K7v L7v Try.f7.ntmps (Try.f7.ntmps + 16) b7v_16 j s'.enc s'.encH k) (out7v_16 k) := by kernel_rfl
theorem step7v_7 (gl : Gl) (j : Nat) (s : S7v_7) (k : Ex → List PV → Heap → Option R) : unroll (cxo gl (mkG [(23, F23), (9, F9), (10, F10)]) (mkO [(17, 1, FO17), (13, 1, FO13), (16, 2, FO16), (11, 2, FO11v)]) none [] rlT [] []) K7v L7v Try.f7.ntmps (Try.f7.ntmps + 16) b7v_7 (j + 1) s.enc s.encH k = st7v_7 s (fun s' => unroll (cxo gl (mkG [(23, F23), (9, F9), (10, F10)]) (mkO [(17, 1, FO17), (13, 1, FO13), (16, 2, FO16), (11, 2, FO11v)]) none [] rlT [] []) K7v L7v Try.f7.ntmps (Try.f7.ntmps + 16) b7v_7 j s'.enc s'.encH k) (out7v_7 k) := by kernel_rfl
theorem l7v (gl : Gl) : LoopsOk (cxo gl (mkG [(23, F23), (9, F9), (10, F10)]) (mkO [(17, 1, FO17), (13, 1, FO13), (16, 2, FO16), (11, 2, FO11v)]) none [] rlT [] []) K7v L7v Try.f7.ntmps (Try.f7.ntmps + 16) (loopsOf (bodyOf Try.f7)) := by
  refine loopsOk_list (l := [b7v_7, b7v_16]) (by kernel_rfl) ?_
  exact List.forall_mem_cons.2 ⟨loopOk1 (fuel := fuel7v_7) (enc := S7v_7.enc) (encH := S7v_7.encH) (fun vs hs k => by kernel_rfl) dec_enc7v_7 (step7v_7 gl ), List.forall_mem_cons.2 ⟨loopOk1 (fuel := fuel7v_16) (enc := S7v_16.enc) (encH := S7v_16.encH) (fun vs hs k => by kernel_rfl) dec_enc7v_16 (step7v_16 gl ), (fun _ h => by simp at h)⟩⟩
/-- What the law asks of an earlier report. -/
def isQ (es : List Entry) (r : Report) (w d is_ : Int) (q : Int) : Bool := bif (cmpN (repR es q) r w d == is_) then (cmpE (repR es q) r w d == 0) else false
theorem in7 {ρ : Type} (l : List Act') (w d : Int) (es : List Entry) (op : List Bool) (pr : List Proved) (k : Nat) (hk : k < l.length) (hl : l.length ≤ 60) (why : Int) (ms : List Int) (x : Int) (hms : ms.length ≤ 500) (h : bookOk w d true es op pr = true) (out : S7v_16 → Option ρ) :
    iter st7v_16 (fuel7v_16 (⟨w, d, l, false, (k : Int), why, false, false, 0, w, d, true, ms ++ [x], es, op, pr⟩ : S7v_16)) (⟨w, d, l, false, (k : Int), why, false, false, 0, w, d, true, ms ++ [x], es, op, pr⟩ : S7v_16) out
      = out ⟨w, d, l, false, (k : Int), why, List.any ms (isQ es (atN .act l k).r w d 5), List.any ms (isQ es (atN .act l k).r w d 1), (ms.length : Int), w, d, true, ms ++ [x], es, op, pr⟩ := by
  have hw : wr (((ms ++ [x]).length : Int) - 1) = (ms.length : Int) := by
    rw [wr_small (by simp <;> omega) (by simp <;> omega)]
    simp <;> omega
  have hF : ∀ f : Int → Bool, List.any (ms.take ms.length) f = List.any ms f := fun f => by rw [List.take_length]
  rw [← hF (isQ es (atN .act l k).r w d 5), ← hF (isQ es (atN .act l k).r w d 1)]
  refine iter_each (step := st7v_16) (F := fun j => (⟨w, d, l, false, (k : Int), why, List.any (ms.take j) (isQ es (atN .act l k).r w d 5), List.any (ms.take j) (isQ es (atN .act l k).r w d 1), (j : Int), w, d, true, ms ++ [x], es, op, pr⟩ : S7v_16)) (last := (⟨w, d, l, false, (k : Int), why, List.any (ms.take ms.length) (isQ es (atN .act l k).r w d 5), List.any (ms.take ms.length) (isQ es (atN .act l k).r w d 1), (ms.length : Int), w, d, true, ms ++ [x], es, op, pr⟩ : S7v_16)) ms.length _ (fun j next hj => ?_) (fun next => ?_) _ (show ms.length + 1 ≤ 501 by omega) _ rfl
  · have hj2 : j < (ms ++ [x]).length := by simp; omega
    have hat : atN .int (ms ++ [x]) j = ms[j] := by
      rw [atN_nat (T := .int) hj2]
      exact List.getElem_append_left hj
    have e5 : ∀ is_, List.any (ms.take (j + 1)) (isQ es (atN .act l k).r w d is_) = bif List.any (ms.take j) (isQ es (atN .act l k).r w d is_) then true else isQ es (atN .act l k).r w d is_ ms[j] := by
      intro is_
      rw [List.take_succ_eq_append_getElem hj, List.any_append]
      cases List.any (ms.take j) (isQ es (atN .act l k).r w d is_) with
      | true => rfl
      | false => simp
    simp only [st7v_16, hw, decLt_nat hj, inB_nat hj2, inN_nat hj2, inB_nat hk, wr_succ (show j ≤ 1000000 by omega), Int.toNat_natCast, atD, h, hat, e5]
    rfl
  · simp only [st7v_16, hw, decLt_self]
theorem repR_app {es : List Entry} {x : Entry} {j : Nat} (hl : es.length ≤ 500) (hj : j < es.length) : repR (es ++ [x]) (j : Int) = es[j].r := by
  unfold repR
  have hw : within (j : Int) 0 (wr (((es ++ [x]).length : Int) - 1)) = true := (within_len (by simp; omega)).2 (inB_nat (by simp; omega))
  rw [hw, Int.toNat_natCast, atN_app hj]
  rfl
theorem isQ_any {w d : Int} {es : List Entry} {op : List Bool} {pr : List Proved} (h : BookP w d true es op pr) {r : Report} (hr : repOk r = true) (x : Entry) (p is_ : Int) : List.any (allL es p) (isQ (es ++ [x]) r w d is_) = hasE es p r is_ w d := by
  refine (allL_any (c := fun y => cmpR y.r r w d == is_) fun j hj => ?_).trans rfl
  unfold isQ
  rw [repR_app h.les hj]
  obtain ⟨e1, e2⟩ := cmp_ok h hr (List.getElem_mem hj)
  rw [e1, e2]
  cases (cmpR es[j].r r w d == is_) <;> rfl
theorem step7 {ρ : Type} (l : List Act') (w d : Int) (hl : l.length ≤ 60) (hr : rulesR w d = true) (k : Nat) (hk : k < l.length) (next : S7v_7 → Option ρ) (out : S7v_7 × Bool → Option ρ) :
    st7v_7 (⟨w, d, l, false, (k : Int), w, d, true, (bkAt w d l k).es, (bkAt w d l k).op, (bkAt w d l k).pr⟩ : S7v_7) next out = next ⟨w, d, l, false, ((k + 1 : Nat) : Int), w, d, true, (bkAt w d l (k + 1)).es, (bkAt w d l (k + 1)).op, (bkAt w d l (k + 1)).pr⟩ := by
  have hP := bkAt_P hr l k
  show st7v_7 _ next out = next ⟨w, d, l, false, ((k + 1 : Nat) : Int), w, d, true, doesS (bkAt w d l k).es (bkAt w d l k).op w d (atN .act l k), doesO (bkAt w d l k).es (bkAt w d l k).op (bkAt w d l k).pr w d (atN .act l k), doesP (bkAt w d l k).es (bkAt w d l k).pr w (atN .act l k)⟩
  generalize bkAt w d l k = B at hP ⊢
  obtain ⟨es, op, pr⟩ := B
  change BookP w d true es op pr at hP
  show st7v_7 (⟨w, d, l, false, (k : Int), w, d, true, es, op, pr⟩ : S7v_7) next out = next ⟨w, d, l, false, ((k + 1 : Nat) : Int), w, d, true, doesS es op w d (atN .act l k), doesO es op pr w d (atN .act l k), doesP es pr w (atN .act l k)⟩
  have hP2 := does_P hP (atN .act l k)
  have b1 := book_iff.2 hP
  have b2 := book_iff.2 hP2
  simp only [st7v_7, decLt_nat hk, inB_nat hk, wr_succ (show k ≤ 1000000 by omega), Int.toNat_natCast, atD, b1, b2, Bool.true_or]
  show (match (bif ((doesE es op pr w d (atN .act l k)) != 0) then true else (bif (decide (((atN .act l k).what) ≥ 1)) then (decide (((atN .act l k).what) ≤ 3)) else false)) with | true => _ | false => _) = _
  cases hskip : (bif ((doesE es op pr w d (atN .act l k)) != 0) then true else (bif (decide (((atN .act l k).what) ≥ 1)) then (decide (((atN .act l k).what) ≤ 3)) else false)) with
  | true => rfl
  | false =>
    obtain ⟨hE0, hw0⟩ := bif_no hskip
    have hE : doesE es op pr w d (atN .act l k) = 0 := by simpa using hE0
    have hwhat : ∀ c : Int, 1 ≤ c → c ≤ 3 → ((atN .act l k).what == c) = false := by
      intro c c1 c2
      refine beq_eq_false_iff_ne.2 fun e => ?_
      rw [e, decide_eq_true (show c ≥ 1 from c1), decide_eq_true (show c ≤ 3 from c2)] at hw0
      exact Bool.noConfusion hw0
    have w1 := hwhat 1 (by omega) (by omega)
    have w2 := hwhat 2 (by omega) (by omega)
    have w3 := hwhat 3 (by omega) (by omega)
    have hE' : takeE es (atN .act l k).r = 0 := by
      unfold doesE at hE
      rw [w1, w2, w3] at hE
      exact hE
    obtain ⟨t1, t2, t3, t4, t5, t6⟩ := taken hP hE'
    have dN : doesN es op pr w d (atN .act l k) = placeI es op (atN .act l k).r w d := by unfold doesN; rw [w1, w2, w3]; exact t3
    have dM : doesM es op w d (atN .act l k) = placeY es op (atN .act l k).r w d := by unfold doesM; rw [w1, w2, w3]; exact t4
    have dS : doesS es op w d (atN .act l k) = es ++ [⟨(atN .act l k).r, placeI es op (atN .act l k).r w d⟩] := by unfold doesS; rw [w1, w2, w3]; exact t5
    have dO : doesO es op pr w d (atN .act l k) = takeO es op (atN .act l k).r w d := by unfold doesO; rw [w1, w2, w3]; rfl
    have hlo := hP2.lop
    rw [dO] at hlo
    have hwi : within (placeI es op (atN .act l k).r w d) 0 (wr (((takeO es op (atN .act l k).r w d).length : Int) - 1)) = true := (within_len (by omega)).2 t6
    have hall : allL (es ++ [⟨(atN .act l k).r, placeI es op (atN .act l k).r w d⟩]) (placeI es op (atN .act l k).r w d) = allL es (placeI es op (atN .act l k).r w d) ++ [(es.length : Int)] := by
      rw [allL_app]
      simp
    have hRL : reportsL (doesS es op w d (atN .act l k)) (doesO es op pr w d (atN .act l k)) (doesN es op pr w d (atN .act l k)) = allL es (placeI es op (atN .act l k).r w d) ++ [(es.length : Int)] := by
      unfold reportsL
      rw [dS, dO, dN, hwi, ← hall]
      rfl
    have hIE : incE (doesO es op pr w d (atN .act l k)) (doesN es op pr w d (atN .act l k)) = 0 := by
      unfold incE
      rw [dO, dN, hwi]
      rfl
    have hml : (allL es (placeI es op (atN .act l k).r w d)).length ≤ 500 := by
      have := ofL_len es (placeI es op (atN .act l k).r w d) (fun _ => true) es.length
      have := hP.les
      exact Nat.le_trans ‹_› ‹_›
    have hne : (((allL es (placeI es op (atN .act l k).r w d) ++ [(es.length : Int)]).length : Int) == 0) = false := beq_eq_false_iff_ne.2 (by simp; omega)
    simp only [hIE, hRL, hne, dM]
    rw [show (bif ((0 : Int) != 0) then true else false) = false from rfl]
    refine (in7 l w d _ _ _ k hk hl _ _ _ hml b2 _).trans ?_
    have q5 : List.any (allL es (placeI es op (atN .act l k).r w d)) (isQ (doesS es op w d (atN .act l k)) (atN .act l k).r w d 5) = hasE es (placeI es op (atN .act l k).r w d) (atN .act l k).r 5 w d := by rw [dS]; exact isQ_any hP t2 _ _ _
    have q1 : List.any (allL es (placeI es op (atN .act l k).r w d)) (isQ (doesS es op w d (atN .act l k)) (atN .act l k).r w d 1) = hasE es (placeI es op (atN .act l k).r w d) (atN .act l k).r 1 w d := by rw [dS]; exact isQ_any hP t2 _ _ _
    simp only [q5, q1, wr_succ (show k ≤ 1000000 by omega)]
    rcases place_why es op (atN .act l k).r w d with ⟨y, a1, _⟩ | ⟨y, a1, a2, _⟩ | ⟨y, a1, _⟩
    · simp only [y, a1]
      rfl
    · simp only [y, a1, a2]
      rfl
    · have hn : allL es (placeI es op (atN .act l k).r w d) = [] := allL_none fun x hx e => by
        have := inB_iff.1 (hP.of_ x hx)
        omega
      rw [hn]
      rcases y with y | y
      · simp only [y]
        rfl
      · simp only [y]
        rfl
theorem out7 (l : List Act') (w d : Int) (hl : l.length ≤ 60) (hr : rulesR w d = true) : (iter st7v_7 (fuel7v_7 (⟨w, d, l, false, 0, w, d, true, ([]), ([]), ([])⟩ : S7v_7)) (⟨w, d, l, false, 0, w, d, true, ([]), ([]), ([])⟩ : S7v_7) fun o7 => (match o7.2 with | true => an (.b o7.1.t6) | false => an (.b true))) = an (.b true) := by
  refine (iter_each (step := st7v_7) (F := fun k => (⟨w, d, l, false, (k : Int), w, d, true, (bkAt w d l k).es, (bkAt w d l k).op, (bkAt w d l k).pr⟩ : S7v_7)) (last := ((⟨w, d, l, false, (l.length : Int), w, d, true, (bkAt w d l l.length).es, (bkAt w d l l.length).op, (bkAt w d l l.length).pr⟩ : S7v_7), false)) l.length _ (fun k next hk => step7 l w d hl hr k hk next _) (fun next => ?_) _ (show l.length + 1 ≤ 61 by omega) _ rfl).trans rfl
  simp only [st7v_7, decLt_self]
theorem e7v (gl : Gl) (w : Int) (d : Int) (l : List Act') : evFn (cxo gl (mkG [(23, F23), (9, F9), (10, F10)]) (mkO [(17, 1, FO17), (13, 1, FO13), (16, 2, FO16), (11, 2, FO11v)]) none [] rlT [] []) K7v L7v Try.f7 [.i .i64 w, .i .i64 d, .sl .act l] noObjs = (match (greatL l) with | true => an (.b true) | false => (match (rulesV w d) with | true => (iter st7v_7 (fuel7v_7 (⟨w, d, l, false, 0, w, d, true, ([]), ([]), ([])⟩ : S7v_7)) (⟨w, d, l, false, 0, w, d, true, ([]), ([]), ([])⟩ : S7v_7) fun o7 => (match o7.2 with | true => an (.b o7.1.t6) | false => an (.b true))) | false => none)) := by kernel_rfl
def F7v : List PV → Option (Bool × PV)
  | [.i .i64 w, .i .i64 d, .sl .act l] => some ((rulesV w d), .b true)
  | _ => none
theorem s7v {gl : Gl} : Sum gl 7 F7v := by
  intro ps r h
  unfold F7v at h
  split at h
  · rename_i w d l
    obtain ⟨hc, rfl⟩ := Prod.mk.inj (Option.some.inj h)
    refine call_byO (K := K7v) (L := L7v) (bxs := []) (ows := []) (GOk.cons s23 (GOk.cons s9 (GOk.cons s10 (GOk.nil)))) (OOk.cons so17 (OOk.cons so13 (OOk.cons so16 (OOk.cons so11v (OOk.nil))))) fn7 (l7v gl) (by kernel_rfl) (evF_some ((e7v gl w d l).trans ?_))
    rw [hc]
    show (match greatL l with | true => _ | false => _) = _
    cases hg : greatL l with
    | true => rfl
    | false =>
      have hl : l.length ≤ 60 := by
        unfold greatL at hg
        cases h6 : decide ((l.length : Int) > 60) with
        | true => rw [h6] at hg; exact absurd hg (by simp)
        | false => have := of_decide_eq_false h6; omega
      exact out7 l w d hl hc
  · simp at h
def F7 : List PV → Option (Bool × PV)
  | [.i .i64 w, .i .i64 d, .sl .act l] => some (true, .b true)
  | _ => none
theorem s7 {gl : Gl} : Sum gl 7 F7 := by
  intro ps r h
  unfold F7 at h
  split at h
  · rename_i w d l
    obtain ⟨_, rfl⟩ := Prod.mk.inj (Option.some.inj h)
    cases hr : rulesV w d with
    | true => exact s7v _ _ (by show some (rulesV w d, _) = _; rw [hr])
    | false => exact s7x _ _ (by show some (!(rulesV w d), _) = _; rw [hr]; rfl)
  · simp at h
end Go.Proofs.Ytklgaodfakdjpaa.Ev
