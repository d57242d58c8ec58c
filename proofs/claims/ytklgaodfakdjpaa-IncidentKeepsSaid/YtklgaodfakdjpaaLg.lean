/- Which reports are together, in plain Lean. -/
import Derived.Test.YtklgaodfakdjpaaLf
set_option linter.unusedVariables false
set_option linter.unusedSimpArgs false
namespace Go.Proofs.Ytklgaodfakdjpaa.Ev
open Go Go.RowKit Go.Proofs

def ab (r : Report) : List UInt8 := r.about.toList
def ab0 : List UInt8 := (⟨#[]⟩ : ByteArray).toList
theorem named_iff {a b : Report} : namedB a b = true ↔ ab a ≠ ab0 ∧ ab b ≠ ab0 := by
  unfold namedB ab ab0
  rw [bif_f, Bool.and_eq_true, Bool.not_eq_true', Bool.not_eq_true', beq_eq_false_iff_ne, beq_eq_false_iff_ne]
theorem cmp_eq (a b : Report) (w d : Int) : cmpR a b w d = bif namedB a b then (bif (a.about.toList == b.about.toList) then 1 else 2) else (bif (decide ((apartR a.time b.time) > w)) then 3 else (bif (!(closeR a.wher b.wher (wr (Int.tdiv (wr ((wr (d * (apartR a.time b.time))) + 3599)) 3600)))) then 4 else 5)) := rfl
theorem cmp_1 {a b : Report} {w d : Int} : cmpR a b w d = 1 ↔ (ab a ≠ ab0 ∧ ab b ≠ ab0) ∧ ab a = ab b := by
  rw [← named_iff, cmp_eq]
  cases namedB a b with
  | false =>
    cases (decide ((apartR a.time b.time) > w)) with
    | true => simp
    | false => cases (!(closeR a.wher b.wher (wr (Int.tdiv (wr ((wr (d * (apartR a.time b.time))) + 3599)) 3600)))) <;> simp
  | true =>
    cases h : (a.about.toList == b.about.toList) with
    | true => simp [ab, beq_iff_eq.1 h]
    | false => simp [ab, beq_eq_false_iff_ne.1 h]
theorem cmp_2 {a b : Report} {w d : Int} : cmpR a b w d = 2 ↔ (ab a ≠ ab0 ∧ ab b ≠ ab0) ∧ ab a ≠ ab b := by
  rw [← named_iff, cmp_eq]
  cases namedB a b with
  | false =>
    cases (decide ((apartR a.time b.time) > w)) with
    | true => simp
    | false => cases (!(closeR a.wher b.wher (wr (Int.tdiv (wr ((wr (d * (apartR a.time b.time))) + 3599)) 3600)))) <;> simp
  | true =>
    cases h : (a.about.toList == b.about.toList) with
    | true => simp [ab, beq_iff_eq.1 h]
    | false => simp [ab, beq_eq_false_iff_ne.1 h]
theorem hasE_iff {es : List Entry} {inc : Int} {r : Report} {is_ w d : Int} : hasE es inc r is_ w d = true ↔ ∃ x ∈ es, x.of_ = inc ∧ cmpR x.r r w d = is_ := by
  unfold hasE
  rw [List.any_eq_true]
  constructor
  · rintro ⟨x, hx, h⟩
    unfold hasX at h
    rw [bif_f, Bool.and_eq_true, beq_iff_eq, beq_iff_eq] at h
    exact ⟨x, hx, h⟩
  · rintro ⟨x, hx, h1, h2⟩
    refine ⟨x, hx, ?_⟩
    unfold hasX
    rw [bif_f, Bool.and_eq_true, beq_iff_eq, beq_iff_eq]
    exact ⟨h1, h2⟩
theorem hasE_no {es : List Entry} {inc : Int} {r : Report} {is_ w d : Int} (h : hasE es inc r is_ w d = false) {x : Entry} (hx : x ∈ es) (ho : x.of_ = inc) : cmpR x.r r w d ≠ is_ := fun e => by
  rw [hasE_iff.2 ⟨x, hx, ho, e⟩] at h
  exact Bool.noConfusion h
/-- No two of an incident are about different ones; those about the same are together. -/
structure KeepP (es : List Entry) : Prop where
  one : ∀ x ∈ es, ∀ y ∈ es, x.of_ = y.of_ → ab x.r ≠ ab0 → ab y.r ≠ ab0 → ab x.r = ab y.r
  two : ∀ x ∈ es, ∀ y ∈ es, ab x.r ≠ ab0 → ab x.r = ab y.r → x.of_ = y.of_
section
variable {w d : Int} {m : Bool} {es : List Entry} {op : List Bool} {pr : List Proved}
theorem keep_take (h : BookP w d m es op pr) (hk : KeepP es) (r : Report) : KeepP (takeS es op r w d) := by
  unfold takeS
  cases takeB es r with
  | true => exact hk
  | false =>
    show KeepP (es ++ [⟨r, placeI es op r w d⟩])
    have hw := place_why es op r w d
    have key1 : ∀ x ∈ es, x.of_ = placeI es op r w d → ab x.r ≠ ab0 → ab r ≠ ab0 → ab x.r = ab r := by
      intro x hx ho n1 n2
      rcases hw with ⟨_, h1, _⟩ | ⟨_, _, _, h2, _⟩ | ⟨_, h3, _⟩
      · obtain ⟨z, hz, zo, zc⟩ := hasE_iff.1 h1
        obtain ⟨⟨z1, _⟩, z2⟩ := cmp_1.1 zc
        rw [hk.one x hx z hz (ho.trans zo.symm) n1 z1, z2]
      · have := hasE_no h2 hx ho
        exact Decidable.byContradiction fun e => this (cmp_2.2 ⟨⟨n1, n2⟩, e⟩)
      · have := inB_iff.1 (h.of_ x hx)
        omega
    have key2 : ∀ x ∈ es, ab x.r ≠ ab0 → ab x.r = ab r → x.of_ = placeI es op r w d := by
      intro x hx n1 e
      have hc : cmpR x.r r w d = 1 := cmp_1.2 ⟨⟨n1, e ▸ n1⟩, e⟩
      have hno : (∀ i : Nat, i < op.length → hasE es i r 1 w d = false) → False := by
        intro hno
        have hi := inB_iff.1 (h.of_ x hx)
        have := hno (Int.toNat x.of_) (by omega)
        rw [hasE_iff.2 ⟨x, hx, by omega, hc⟩] at this
        exact Bool.noConfusion this
      rcases hw with ⟨_, h1, _⟩ | ⟨_, _, _, _, _, h2⟩ | ⟨_, _, h3⟩
      · obtain ⟨z, hz, zo, zc⟩ := hasE_iff.1 h1
        obtain ⟨_, z2⟩ := cmp_1.1 zc
        exact (hk.two x hx z hz n1 (e.trans z2.symm)).trans zo
      · exact (hno h2).elim
      · exact (hno h3).elim
    constructor
    · intro x hx y hy ho n1 n2
      rcases List.mem_append.1 hx with hx | hx <;> rcases List.mem_append.1 hy with hy | hy
      · exact hk.one x hx y hy ho n1 n2
      · simp at hy; subst hy; exact key1 x hx ho n1 n2
      · simp at hx; subst hx; exact (key1 y hy ho.symm n2 n1).symm
      · simp at hx hy; subst hx; subst hy; rfl
    · intro x hx y hy n1 e
      rcases List.mem_append.1 hx with hx | hx <;> rcases List.mem_append.1 hy with hy | hy
      · exact hk.two x hx y hy n1 e
      · simp at hy; subst hy; exact key2 x hx n1 e
      · simp at hx; subst hx; exact (key2 y hy (e ▸ n1) e.symm).symm
      · simp at hx hy; subst hx; subst hy; rfl
theorem mv_r (a b : Int) (x : Entry) : (mvE a b x).r = x.r := by
  unfold mvE
  cases (x.of_ == b) <;> rfl
theorem mv_of (a b : Int) (x : Entry) : (mvE a b x).of_ = bif (x.of_ == b) then a else x.of_ := by
  unfold mvE
  cases (x.of_ == b) <;> rfl
theorem keep_join (hk : KeepP es) (a b : Int) : KeepP (joinS es w d a b) := by
  unfold joinS
  cases he : (joinE es w d a b == 0) with
  | false => exact hk
  | true =>
    show KeepP (es.map (mvE a b))
    have he' : joinE es w d a b = 0 := beq_iff_eq.1 he
    have hB : joinB es w d a b = false := by
      unfold joinE at he'
      cases hb : joinB es w d a b with
      | false => rfl
      | true =>
        rw [hb] at he'
        revert he'
        cases (bif (((allL es a).length : Int) == 0) then true else (((allL es b).length : Int) == 0)) <;> cases (a == b) <;> simp
    have key : ∀ x ∈ es, ∀ y ∈ es, x.of_ = a → y.of_ = b → ab x.r ≠ ab0 → ab y.r ≠ ab0 → ab x.r = ab y.r := by
      intro x hx y hy xa yb n1 n2
      have := List.any_eq_false.1 hB x hx
      rw [xa, beq_self_eq_true] at this
      have h2 : hasE es b x.r 2 w d = false := by simpa using this
      have := hasE_no h2 hy yb
      exact (Decidable.byContradiction fun e => this (cmp_2.2 ⟨⟨n2, n1⟩, e⟩) : ab y.r = ab x.r).symm
    constructor
    · intro x' hx1 y' hy1 ho n1 n2
      obtain ⟨x, hx, rfl⟩ := List.mem_map.1 hx1
      obtain ⟨y, hy, rfl⟩ := List.mem_map.1 hy1
      rw [mv_r] at n1 n2 ⊢
      rw [mv_r]
      rw [mv_of, mv_of] at ho
      cases hxb : (x.of_ == b) with
      | true =>
        cases hyb : (y.of_ == b) with
        | true => exact hk.one x hx y hy ((beq_iff_eq.1 hxb).trans (beq_iff_eq.1 hyb).symm) n1 n2
        | false =>
          rw [hxb, hyb] at ho
          exact (key y hy x hx ho.symm (beq_iff_eq.1 hxb) n2 n1).symm
      | false =>
        cases hyb : (y.of_ == b) with
        | true =>
          rw [hxb, hyb] at ho
          exact key x hx y hy ho (beq_iff_eq.1 hyb) n1 n2
        | false =>
          rw [hxb, hyb] at ho
          exact hk.one x hx y hy ho n1 n2
    · intro x' hx1 y' hy1 n1 e
      obtain ⟨x, hx, rfl⟩ := List.mem_map.1 hx1
      obtain ⟨y, hy, rfl⟩ := List.mem_map.1 hy1
      rw [mv_r] at n1 e
      rw [mv_r] at e
      rw [mv_of, mv_of, hk.two x hx y hy n1 e]
theorem keep_does (h : BookP w d m es op pr) (hk : KeepP es) (a : Act') : KeepP (doesS es op w d a) := by
  unfold doesS
  cases a.what == 1 with
  | true => exact hk
  | false =>
    cases a.what == 2 with
    | true => exact hk
    | false =>
      cases a.what == 3 with
      | true => exact keep_join hk _ _
      | false => exact keep_take h hk _
end
theorem keepAt {w d : Int} (h : rulesR w d = true) (l : List Act') : ∀ k, KeepP (bkAt w d l k).es
  | 0 => ⟨fun x hx => by simp [bkAt] at hx, fun x hx => by simp [bkAt] at hx⟩
  | k + 1 => keep_does (bkAt_P h l k) (keepAt h l k) _
end Go.Proofs.Ytklgaodfakdjpaa.Ev
/- How many reports there are, and in which incidents, in plain Lean. -/
namespace Go.Proofs.Ytklgaodfakdjpaa.Ev
open Go Go.RowKit Go.Proofs

section
variable {w d : Int} {es : List Entry} {op : List Bool} {pr : List Proved}
/-- Was a report taken? -/
def tookB (es : List Entry) (op : List Bool) (pr : List Proved) (w d : Int) (a : Act') : Bool := bif ((doesE es op pr w d a) == 0) then (bif (decide (a.what < 1)) then true else (decide (a.what > 3))) else false
theorem took_cases (h : BookP w d true es op pr) (a : Act') : (tookB es op pr w d a = true ∧ doesN es op pr w d a = placeI es op a.r w d ∧ doesS es op w d a = es ++ [⟨a.r, placeI es op a.r w d⟩]) ∨
    (tookB es op pr w d a = false ∧ (doesS es op w d a).length = es.length ∧ ∀ x ∈ doesS es op w d a, ∃ y ∈ es, x.of_ = y.of_) := by
  have same : ∀ L : List Entry, L = es → L.length = es.length ∧ ∀ x ∈ L, ∃ y ∈ es, x.of_ = y.of_ := by
    intro L e
    subst e
    exact ⟨rfl, fun x hx => ⟨x, hx, rfl⟩⟩
  have inw : ∀ c : Int, (a.what == c) = true → 1 ≤ c → c ≤ 3 → tookB es op pr w d a = false := by
    intro c e c1 c2
    have e' := beq_iff_eq.1 e
    unfold tookB
    rw [e', decide_eq_false (show ¬ c < 1 by omega), decide_eq_false (show ¬ c > 3 by omega)]
    cases (doesE es op pr w d a == 0) <;> rfl
  cases h1 : (a.what == 1) with
  | true => exact .inr ⟨inw 1 h1 (by omega) (by omega), same _ (by unfold doesS; rw [h1]; rfl)⟩
  | false =>
    cases h2 : (a.what == 2) with
    | true => exact .inr ⟨inw 2 h2 (by omega) (by omega), same _ (by unfold doesS; rw [h1, h2]; rfl)⟩
    | false =>
      cases h3 : (a.what == 3) with
      | true =>
        have eS : doesS es op w d a = joinS es w d a.n a.m := by unfold doesS; rw [h1, h2, h3]; rfl
        refine .inr ⟨inw 3 h3 (by omega) (by omega), ?_⟩
        rw [eS]
        unfold joinS
        cases he : (joinE es w d a.n a.m == 0) with
        | false => exact same _ rfl
        | true =>
          refine ⟨by show (es.map _).length = _; simp, fun x hx => ?_⟩
          obtain ⟨y, hy, rfl⟩ := List.mem_map.1 (show x ∈ es.map (mvE a.n a.m) from hx)
          rw [mv_of]
          cases hyb : (y.of_ == a.m) with
          | false => exact ⟨y, hy, rfl⟩
          | true =>
            have he' := beq_iff_eq.1 he
            unfold joinE at he'
            cases ha : (((allL es a.n).length : Int) == 0) with
            | true => rw [ha] at he'; exact absurd he' (by simp)
            | false =>
              have hne : allL es a.n ≠ [] := fun e => by rw [e] at ha; simp at ha
              obtain ⟨j, hj, ho⟩ := ofL_mem hne
              rw [atN_nat (T := .entry) hj] at ho
              exact ⟨es[j], List.getElem_mem hj, ho.symm⟩
      | false =>
        have eS : doesS es op w d a = takeS es op a.r w d := by unfold doesS; rw [h1, h2, h3]; rfl
        have eN : doesN es op pr w d a = takeN es op a.r w d := by unfold doesN; rw [h1, h2, h3]; rfl
        have eE : doesE es op pr w d a = takeE es a.r := by unfold doesE; rw [h1, h2, h3]; rfl
        have hw : (bif (decide (a.what < 1)) then true else (decide (a.what > 3))) = true := by
          have n1 := beq_no h1
          have n2 := beq_no h2
          have n3 := beq_no h3
          cases h5 : decide (a.what < 1) with
          | true => rfl
          | false =>
            have := of_decide_eq_false h5
            exact decide_eq_true (by omega)
        cases he : (takeE es a.r == 0) with
        | true =>
          obtain ⟨t1, t2, t3, t4, t5, t6⟩ := taken h (beq_iff_eq.1 he)
          left
          refine ⟨?_, eN.trans t3, eS.trans t5⟩
          unfold tookB
          rw [eE, he, hw]
          rfl
        | false =>
          right
          refine ⟨by unfold tookB; rw [eE, he]; rfl, same _ ?_⟩
          rw [eS]
          have he' := beq_no he
          unfold takeE at he'
          unfold takeS takeB
          cases hr : repOk a.r with
          | false => rfl
          | true =>
            rw [hr] at he'
            cases h5 : ((es.length : Int) == 500) with
            | true => rfl
            | false => rw [h5] at he'; exact absurd rfl he'
end
def takenAt (w d : Int) (l : List Act') : Nat → Int
  | 0 => 0
  | k + 1 => bif tookB (bkAt w d l k).es (bkAt w d l k).op (bkAt w d l k).pr w d (atN .act l k) then takenAt w d l k + 1 else takenAt w d l k
def mostAt (w d : Int) (l : List Act') : Nat → Int
  | 0 => 0
  | k + 1 => bif tookB (bkAt w d l k).es (bkAt w d l k).op (bkAt w d l k).pr w d (atN .act l k) then imax (mostAt w d l k) (imin (doesN (bkAt w d l k).es (bkAt w d l k).op (bkAt w d l k).pr w d (atN .act l k)) 100) else mostAt w d l k
/-- What is taken is there; no incident is greater than the greatest place. -/
theorem countAt {w d : Int} (h : rulesR w d = true) (l : List Act') : ∀ k : Nat, k ≤ 60 → takenAt w d l k = ((bkAt w d l k).es.length : Int) ∧ (bkAt w d l k).es.length ≤ k ∧ (0 ≤ mostAt w d l k ∧ mostAt w d l k ≤ 60) ∧ ∀ x ∈ (bkAt w d l k).es, x.of_ ≤ mostAt w d l k
  | 0, _ => ⟨rfl, Nat.le_refl _, ⟨Int.le_refl _, by show (0 : Int) ≤ 60; omega⟩, fun x hx => by simp [bkAt] at hx⟩
  | k + 1, hk => by
    obtain ⟨i1, i2, i3, i4⟩ := countAt h l k (by omega)
    have hP := bkAt_P h l k
    show (bif tookB _ _ _ w d _ then _ else _) = ((doesS (bkAt w d l k).es (bkAt w d l k).op w d (atN .act l k)).length : Int) ∧ (doesS (bkAt w d l k).es (bkAt w d l k).op w d (atN .act l k)).length ≤ k + 1 ∧ (0 ≤ (bif tookB _ _ _ w d _ then _ else _) ∧ (bif tookB _ _ _ w d _ then _ else _) ≤ (60 : Int)) ∧ ∀ x ∈ doesS (bkAt w d l k).es (bkAt w d l k).op w d (atN .act l k), x.of_ ≤ (bif tookB _ _ _ w d _ then _ else _)
    rcases took_cases hP (atN .act l k) with ⟨t1, t2, t3⟩ | ⟨t1, t2, t3⟩
    · have hp := place_in (bkAt w d l k).es (bkAt w d l k).op (atN .act l k).r w d
      have hl := hP.lop2
      rw [t1, t2, t3]
      have hm : imin (placeI (bkAt w d l k).es (bkAt w d l k).op (atN .act l k).r w d) 100 = placeI (bkAt w d l k).es (bkAt w d l k).op (atN .act l k).r w d := by unfold imin; split <;> omega
      rw [hm]
      have hx : mostAt w d l k ≤ imax (mostAt w d l k) (placeI (bkAt w d l k).es (bkAt w d l k).op (atN .act l k).r w d) ∧ placeI (bkAt w d l k).es (bkAt w d l k).op (atN .act l k).r w d ≤ imax (mostAt w d l k) (placeI (bkAt w d l k).es (bkAt w d l k).op (atN .act l k).r w d) ∧ imax (mostAt w d l k) (placeI (bkAt w d l k).es (bkAt w d l k).op (atN .act l k).r w d) ≤ 60 := by unfold imax; split <;> omega
      refine ⟨by show takenAt w d l k + 1 = _; rw [i1]; simp, by simp; omega, ⟨by show 0 ≤ imax _ _; omega, hx.2.2⟩, fun x hx' => ?_⟩
      rcases List.mem_append.1 hx' with h' | h'
      · exact Int.le_trans (i4 x h') hx.1
      · simp at h'
        subst h'
        exact hx.2.1
    · rw [t1, t2]
      refine ⟨i1, by omega, i3, fun x hx => ?_⟩
      obtain ⟨y, hy, e⟩ := t3 x hx
      rw [e]
      exact i4 y hy
/-! ### Each report is in one incident -/
def sumF (es : List Entry) : Nat → Nat
  | 0 => 0
  | k + 1 => sumF es k + (allL es (k : Int)).length
theorem ofL_count (es : List Entry) (inc : Int) : ∀ k, k ≤ es.length → (ofL es inc (fun _ => true) k).length = ((es.take k).filter (fun x => x.of_ == inc)).length
  | 0, _ => rfl
  | k + 1, hk => by
    have hk' : k < es.length := by omega
    have ih := ofL_count es inc k (by omega)
    rw [List.take_succ_eq_append_getElem hk', List.filter_append, List.length_append, ← ih]
    rw [show ofL es inc (fun _ => true) (k + 1) = bif (bif ((atN .entry es k).of_ == inc) then true else false) then ofL es inc (fun _ => true) k ++ [(k : Int)] else ofL es inc (fun _ => true) k from rfl, atN_nat (T := .entry) hk']
    cases hb : (es[k].of_ == inc) with
    | true =>
      show (ofL es inc (fun _ => true) k ++ [(k : Int)]).length = _
      rw [List.length_append]
      simp [hb]
    | false => simp [hb]
theorem allL_count (es : List Entry) (inc : Int) : (allL es inc).length = (es.filter (fun x => x.of_ == inc)).length := by
  unfold allL
  rw [ofL_count es inc _ (Nat.le_refl _), List.take_length]
theorem sumF_cons (x : Entry) (es : List Entry) (h0 : 0 ≤ x.of_) : ∀ k : Nat, sumF (x :: es) k = sumF es k + (if x.of_ < (k : Int) then 1 else 0)
  | 0 => by
    unfold sumF
    rw [if_neg (by omega)]
  | k + 1 => by
    have ih := sumF_cons x es h0 k
    show sumF (x :: es) k + (allL (x :: es) (k : Int)).length = sumF es k + (allL es (k : Int)).length + _
    rw [ih, allL_count, allL_count, List.filter_cons]
    cases hb : (x.of_ == (k : Int)) with
    | true =>
      have := beq_iff_eq.1 hb
      rw [if_neg (show ¬ x.of_ < (k : Int) by omega), if_pos (show x.of_ < ((k + 1 : Nat) : Int) by omega)]
      simp
      omega
    | false =>
      have := beq_no hb
      by_cases hlt : x.of_ < (k : Int)
      · rw [if_pos hlt, if_pos (show x.of_ < ((k + 1 : Nat) : Int) by omega)]
        simp
        omega
      · rw [if_neg hlt, if_neg (show ¬ x.of_ < ((k + 1 : Nat) : Int) by omega)]
        simp
theorem sumF_all {es : List Entry} {k : Nat} (h : ∀ x ∈ es, 0 ≤ x.of_ ∧ x.of_ < (k : Int)) : sumF es k = es.length := by
  induction es with
  | nil =>
    have : ∀ k, sumF [] k = 0 := by
      intro k
      induction k with
      | zero => rfl
      | succ k ih => show sumF [] k + (allL [] (k : Int)).length = 0; rw [ih]; rfl
    exact this k
  | cons x es ih =>
    have hx := h x (by simp)
    rw [sumF_cons x es hx.1, ih fun y hy => h y (by simp [hy]), if_pos hx.2]
    simp
theorem sumF_le (es : List Entry) (h : ∀ x ∈ es, 0 ≤ x.of_) (k : Nat) : sumF es k ≤ es.length := by
  induction es with
  | nil =>
    rw [sumF_all (es := []) (k := k) fun x hx => by simp at hx]
    exact Nat.le_refl _
  | cons x es ih =>
    have := ih fun y hy => h y (by simp [hy])
    rw [sumF_cons x es (h x (by simp))]
    split <;> simp <;> omega
theorem ofL_sorted (es : List Entry) (inc : Int) (p : Int → Bool) : ∀ k : Nat, (ofL es inc p k).Pairwise (· < ·)
  | 0 => List.Pairwise.nil
  | k + 1 => by
    have ih := ofL_sorted es inc p k
    unfold ofL
    cases (bif ((atN .entry es k).of_ == inc) then p (k : Int) else false) with
    | false => exact ih
    | true =>
      refine List.pairwise_append.2 ⟨ih, by simp, fun a ha b hb => ?_⟩
      obtain ⟨j, h1, h2, _⟩ := ofL_memI.1 ha
      simp at hb
      omega
end Go.Proofs.Ytklgaodfakdjpaa.Ev
/- Summaries of functions, printed by a program out of a list, and what is made of them. -/
set_option maxRecDepth 100000
namespace Go.Proofs.Ytklgaodfakdjpaa.Ev
open Go Go.RowKit Go.Proofs
theorem fn6 : FnOk 6 Try.f6 := ⟨by kernel_rfl, by kernel_rfl, by kernel_rfl, by kernel_rfl⟩
theorem e6x (gl : Gl) (w : Int) (d : Int) (l : List Act') : evFn (cxo gl (mkG [(9, F9), (10, F10)]) (mkO [(11, 2, FO11x)]) none [] rlT [] []) noK noL Try.f6 [.i .i64 w, .i .i64 d, .sl .act l] noObjs = (match (greatL l) with | true => an (.b true) | false => (match (!(rulesV w d)) with | true => an (.b true) | false => none)) := by kernel_rfl
def F6x : List PV → Option (Bool × PV)
  | [.i .i64 w, .i .i64 d, .sl .act l] => some ((!(rulesV w d)), .b true)
  | _ => none
theorem s6x {gl : Gl} : Sum gl 6 F6x := by
  intro ps r h
  unfold F6x at h
  split at h
  · rename_i w d l
    obtain ⟨hc, rfl⟩ := Prod.mk.inj (Option.some.inj h)
    refine call_byO (K := noK) (L := noL) (bxs := []) (ows := []) (GOk.cons s9 (GOk.cons s10 (GOk.nil))) (OOk.cons so11x (OOk.nil)) fn6 (noneLoops) (by kernel_rfl) (evF_some ((e6x gl w d l).trans ?_))
    rw [hc]
    show (match greatL l with | true => _ | false => _) = _
    cases greatL l <;> rfl
  · simp at h
structure S6v_8 where
  l : List Act'
  t6 : Bool
  taken : Int
  most : Int
  i : Int
  h49 : Int
  h492 : Int
  h493 : Bool
  h230 : List Entry
  h229 : List Bool
  h228 : List Proved
def S6v_8.enc (s : S6v_8) : List PV := [.sl .act s.l, .b s.t6, .ref 49 0, .i .i64 s.taken, .i .i64 s.most, .i .i64 s.i]
def S6v_8.encH (s : S6v_8) : Heap := [some (.cells 54 [.i .i64 s.h49, .i .i64 s.h492, .b s.h493, .own 230, .own 229, .own 228]), some (.row .entry 89 s.h230), some (.row .bool 4 s.h229), some (.row .proved 102 s.h228)]
def dec6v_8 : List PV → Heap → Option S6v_8
  | [.sl .act l_, .b t6_, .ref 49 0, .i .i64 taken_, .i .i64 most_, .i .i64 i_], [some (.cells 54 [.i .i64 h49_, .i .i64 h492_, .b h493_, .own 230, .own 229, .own 228]), some (.row .entry 89 h230_), some (.row .bool 4 h229_), some (.row .proved 102 h228_)] => some ⟨l_, t6_, taken_, most_, i_, h49_, h492_, h493_, h230_, h229_, h228_⟩
  | _, _ => none
theorem dec_enc6v_8 (vs : List PV) (hs : Heap) (s : S6v_8) (h : dec6v_8 vs hs = some s) : vs = s.enc ∧ hs = s.encH := by
  unfold dec6v_8 at h
  split at h
  · obtain rfl := Option.some.inj h
    exact ⟨rfl, rfl⟩
  · simp at h
def st6v_8 {ρ : Type} (s : S6v_8) (next : S6v_8 → Option ρ) (out : S6v_8 → Option ρ) : Option ρ := (match (decide (s.i < (s.l.length : Int))) with | true => (match (inB s.i s.l.length) with | true => (match (bookOk s.h49 s.h492 s.h493 s.h230 s.h229 s.h228) with | true => (match ((inB s.i s.l.length) || ((!((doesE s.h230 s.h229 s.h228 s.h49 s.h492 (atD .act s.l s.i)) == 0)) || false)) with | true => (match ((inB s.i s.l.length) || ((!((doesE s.h230 s.h229 s.h228 s.h49 s.h492 (atD .act s.l s.i)) == 0)) || ((decide (((atD .act s.l s.i).what) < 1)) || false))) with | true => (match (bif ((doesE s.h230 s.h229 s.h228 s.h49 s.h492 (atD .act s.l s.i)) == 0) then (bif (decide (((atD .act s.l s.i).what) < 1)) then true else (decide (((atD .act s.l s.i).what) > 3))) else false) with | true => next ⟨s.l, s.t6, (wr (s.taken + 1)), (imax s.most (imin (doesN s.h230 s.h229 s.h228 s.h49 s.h492 (atD .act s.l s.i)) 100)), (wr (s.i + 1)), s.h49, s.h492, s.h493, (doesS s.h230 s.h229 s.h49 s.h492 (atD .act s.l s.i)), (doesO s.h230 s.h229 s.h228 s.h49 s.h492 (atD .act s.l s.i)), (doesP s.h230 s.h228 s.h49 (atD .act s.l s.i))⟩ | false => next ⟨s.l, s.t6, s.taken, s.most, (wr (s.i + 1)), s.h49, s.h492, s.h493, (doesS s.h230 s.h229 s.h49 s.h492 (atD .act s.l s.i)), (doesO s.h230 s.h229 s.h228 s.h49 s.h492 (atD .act s.l s.i)), (doesP s.h230 s.h228 s.h49 (atD .act s.l s.i))⟩) | false => none) | false => none) | false => none) | false => none) | false => out s)
def out6v_8 (k : Ex → List PV → Heap → Option R) (o : S6v_8) : Option R := k (.exit 0) o.enc o.encH
def fuel6v_8 (s : S6v_8) : Nat := 61
structure S6v_27 where
  t6 : Bool
  taken : Int
  most : Int
  found : Int
  i : Int
  j : Int
  h : Int
  h49 : Int
  h492 : Int
  h493 : Bool
  h107 : List Int
  r : Report
  h230 : List Entry
  h229 : List Bool
  h228 : List Proved
def S6v_27.enc (s : S6v_27) : List PV := [.b s.t6, .ref 49 0, .i .i64 s.taken, .i .i64 s.most, .i .i64 s.found, .i .i64 s.i, .own 107, .i .i64 s.j, .ref 28 0, .i .i64 s.h]
def S6v_27.encH (s : S6v_27) : Heap := [some (.cells 54 [.i .i64 s.h49, .i .i64 s.h492, .b s.h493, .own 230, .own 229, .own 228]), some (.row .int 3 s.h107), some (.cells 40 [.i .i64 s.r.kind, .i .i64 s.r.time, .s s.r.source, .s s.r.about, .sl .spot s.r.wher, .i .i64 s.r.souls, .i .i64 s.r.trust]), some (.row .entry 89 s.h230), some (.row .bool 4 s.h229), some (.row .proved 102 s.h228)]
def dec6v_27 : List PV → Heap → Option S6v_27
  | [.b t6_, .ref 49 0, .i .i64 taken_, .i .i64 most_, .i .i64 found_, .i .i64 i_, .own 107, .i .i64 j_, .ref 28 0, .i .i64 h_], [some (.cells 54 [.i .i64 h49_, .i .i64 h492_, .b h493_, .own 230, .own 229, .own 228]), some (.row .int 3 h107_), some (.cells 40 rL), some (.row .entry 89 h230_), some (.row .bool 4 h229_), some (.row .proved 102 h228_)] => (ETy.dec .report rL).bind fun r_ => some ⟨t6_, taken_, most_, found_, i_, j_, h_, h49_, h492_, h493_, h107_, r_, h230_, h229_, h228_⟩
  | _, _ => none
theorem dec_enc6v_27 (vs : List PV) (hs : Heap) (s : S6v_27) (h : dec6v_27 vs hs = some s) : vs = s.enc ∧ hs = s.encH := by
  unfold dec6v_27 at h
  split at h
  · obtain ⟨r_, hr, h_r⟩ := Option.bind_eq_some_iff.1 h
    obtain rfl := dec_is (by simp) hr
    obtain rfl := Option.some.inj h_r
    exact ⟨rfl, rfl⟩
  · simp at h
def st6v_27 {ρ : Type} (s : S6v_27) (next : S6v_27 → Option ρ) (out : S6v_27 × Bool → Option ρ) : Option ρ := (match (decide (s.h < s.j)) with | true => (match (inB s.h s.h107.length) with | true => (match (inN (Int.toNat s.h) s.h107.length) with | true => (match (bookOk s.h49 s.h492 s.h493 s.h230 s.h229 s.h228) with | true => (match (inB s.h s.h107.length) with | true => (match (inN (Int.toNat s.h) s.h107.length) with | true => (match (inB s.j s.h107.length) with | true => (match (inN (Int.toNat s.j) s.h107.length) with | true => (match (bif (decide ((atN .int s.h107 (Int.toNat s.h)) ≥ (atN .int s.h107 (Int.toNat s.j)))) then true else (bif (bif (!(s.r.about.toList == (⟨#[]⟩ : ByteArray).toList)) then (!(((repR s.h230 (atN .int s.h107 (Int.toNat s.h))).about).toList == (⟨#[]⟩ : ByteArray).toList)) else false) then (!(s.r.about.toList == ((repR s.h230 (atN .int s.h107 (Int.toNat s.h))).about).toList)) else false)) with | true => out (⟨false, s.taken, s.most, s.found, s.i, s.j, s.h, s.h49, s.h492, s.h493, s.h107, s.r, s.h230, s.h229, s.h228⟩, true) | false => next ⟨s.t6, s.taken, s.most, s.found, s.i, s.j, (wr (s.h + 1)), s.h49, s.h492, s.h493, s.h107, s.r, s.h230, s.h229, s.h228⟩) | false => none) | false => none) | false => none) | false => none) | false => none) | false => none) | false => none) | false => out (s, false))
def out6v_27 (k : Ex → List PV → Heap → Option R) (o : S6v_27 × Bool) : Option R := match o.2 with
  | true => k .ret o.1.enc o.1.encH
  | false => k (.exit 6) o.1.enc o.1.encH
def fuel6v_27 (s : S6v_27) : Nat := 502
structure S6v_21 where
  t6 : Bool
  taken : Int
  most : Int
  found : Int
  i : Int
  j : Int
  h49 : Int
  h492 : Int
  h493 : Bool
  h107 : List Int
  h230 : List Entry
  h229 : List Bool
  h228 : List Proved
def S6v_21.enc (s : S6v_21) : List PV := [.b s.t6, .ref 49 0, .i .i64 s.taken, .i .i64 s.most, .i .i64 s.found, .i .i64 s.i, .own 107, .i .i64 s.j]
def S6v_21.encH (s : S6v_21) : Heap := [some (.cells 54 [.i .i64 s.h49, .i .i64 s.h492, .b s.h493, .own 230, .own 229, .own 228]), some (.row .int 3 s.h107), some (.row .entry 89 s.h230), some (.row .bool 4 s.h229), some (.row .proved 102 s.h228)]
def dec6v_21 : List PV → Heap → Option S6v_21
  | [.b t6_, .ref 49 0, .i .i64 taken_, .i .i64 most_, .i .i64 found_, .i .i64 i_, .own 107, .i .i64 j_], [some (.cells 54 [.i .i64 h49_, .i .i64 h492_, .b h493_, .own 230, .own 229, .own 228]), some (.row .int 3 h107_), some (.row .entry 89 h230_), some (.row .bool 4 h229_), some (.row .proved 102 h228_)] => some ⟨t6_, taken_, most_, found_, i_, j_, h49_, h492_, h493_, h107_, h230_, h229_, h228_⟩
  | _, _ => none
theorem dec_enc6v_21 (vs : List PV) (hs : Heap) (s : S6v_21) (h : dec6v_21 vs hs = some s) : vs = s.enc ∧ hs = s.encH := by
  unfold dec6v_21 at h
  split at h
  · obtain rfl := Option.some.inj h
    exact ⟨rfl, rfl⟩
  · simp at h
def st6v_21 {ρ : Type} (s : S6v_21) (next : S6v_21 → Option ρ) (out : S6v_21 × Bool → Option ρ) : Option ρ := (match (decide (s.j < (s.h107.length : Int))) with | true => (match (inB s.j s.h107.length) with | true => (match (inN (Int.toNat s.j) s.h107.length) with | true => (match (bookOk s.h49 s.h492 s.h493 s.h230 s.h229 s.h228) with | true => (match (bif ((repE s.h230 (atN .int s.h107 (Int.toNat s.j))) != 0) then true else ((repO s.h230 (atN .int s.h107 (Int.toNat s.j))) != s.i)) with | true => out (⟨false, s.taken, s.most, s.found, s.i, s.j, s.h49, s.h492, s.h493, s.h107, s.h230, s.h229, s.h228⟩, true) | false => (iter st6v_27 (fuel6v_27 (⟨s.t6, s.taken, s.most, s.found, s.i, s.j, 0, s.h49, s.h492, s.h493, s.h107, (repR s.h230 (atN .int s.h107 (Int.toNat s.j))), s.h230, s.h229, s.h228⟩ : S6v_27)) (⟨s.t6, s.taken, s.most, s.found, s.i, s.j, 0, s.h49, s.h492, s.h493, s.h107, (repR s.h230 (atN .int s.h107 (Int.toNat s.j))), s.h230, s.h229, s.h228⟩ : S6v_27) fun o27 => (match o27.2 with | true => out (⟨o27.1.t6, o27.1.taken, o27.1.most, o27.1.found, o27.1.i, o27.1.j, o27.1.h49, o27.1.h492, o27.1.h493, o27.1.h107, o27.1.h230, o27.1.h229, o27.1.h228⟩, true) | false => next ⟨o27.1.t6, o27.1.taken, o27.1.most, o27.1.found, o27.1.i, (wr (o27.1.j + 1)), o27.1.h49, o27.1.h492, o27.1.h493, o27.1.h107, o27.1.h230, o27.1.h229, o27.1.h228⟩))) | false => none) | false => none) | false => none) | false => out (s, false))
def out6v_21 (k : Ex → List PV → Heap → Option R) (o : S6v_21 × Bool) : Option R := match o.2 with
  | true => k .ret o.1.enc o.1.encH
  | false => k (.exit 4) o.1.enc o.1.encH
def fuel6v_21 (s : S6v_21) : Nat := 502
structure S6v_16 where
  t6 : Bool
  taken : Int
  most : Int
  found : Int
  i : Int
  h49 : Int
  h492 : Int
  h493 : Bool
  h230 : List Entry
  h229 : List Bool
  h228 : List Proved
def S6v_16.enc (s : S6v_16) : List PV := [.b s.t6, .ref 49 0, .i .i64 s.taken, .i .i64 s.most, .i .i64 s.found, .i .i64 s.i]
def S6v_16.encH (s : S6v_16) : Heap := [some (.cells 54 [.i .i64 s.h49, .i .i64 s.h492, .b s.h493, .own 230, .own 229, .own 228]), some (.row .entry 89 s.h230), some (.row .bool 4 s.h229), some (.row .proved 102 s.h228)]
def dec6v_16 : List PV → Heap → Option S6v_16
  | [.b t6_, .ref 49 0, .i .i64 taken_, .i .i64 most_, .i .i64 found_, .i .i64 i_], [some (.cells 54 [.i .i64 h49_, .i .i64 h492_, .b h493_, .own 230, .own 229, .own 228]), some (.row .entry 89 h230_), some (.row .bool 4 h229_), some (.row .proved 102 h228_)] => some ⟨t6_, taken_, most_, found_, i_, h49_, h492_, h493_, h230_, h229_, h228_⟩
  | _, _ => none
theorem dec_enc6v_16 (vs : List PV) (hs : Heap) (s : S6v_16) (h : dec6v_16 vs hs = some s) : vs = s.enc ∧ hs = s.encH := by
  unfold dec6v_16 at h
  split at h
  · obtain rfl := Option.some.inj h
    exact ⟨rfl, rfl⟩
  · simp at h
def st6v_16 {ρ : Type} (s : S6v_16) (next : S6v_16 → Option ρ) (out : S6v_16 × Bool → Option ρ) : Option ρ := (match (decide (s.i ≤ s.most)) with | true => (match (bookOk s.h49 s.h492 s.h493 s.h230 s.h229 s.h228) with | true => (iter st6v_21 (fuel6v_21 (⟨s.t6, s.taken, s.most, (wr (s.found + ((reportsL s.h230 s.h229 s.i).length : Int))), s.i, 0, s.h49, s.h492, s.h493, (reportsL s.h230 s.h229 s.i), s.h230, s.h229, s.h228⟩ : S6v_21)) (⟨s.t6, s.taken, s.most, (wr (s.found + ((reportsL s.h230 s.h229 s.i).length : Int))), s.i, 0, s.h49, s.h492, s.h493, (reportsL s.h230 s.h229 s.i), s.h230, s.h229, s.h228⟩ : S6v_21) fun o21 => (match o21.2 with | true => out (⟨o21.1.t6, o21.1.taken, o21.1.most, o21.1.found, o21.1.i, o21.1.h49, o21.1.h492, o21.1.h493, o21.1.h230, o21.1.h229, o21.1.h228⟩, true) | false => next ⟨o21.1.t6, o21.1.taken, o21.1.most, o21.1.found, (wr (o21.1.i + 1)), o21.1.h49, o21.1.h492, o21.1.h493, o21.1.h230, o21.1.h229, o21.1.h228⟩)) | false => none) | false => out (s, false))
def out6v_16 (k : Ex → List PV → Heap → Option R) (o : S6v_16 × Bool) : Option R := match o.2 with
  | true => k .ret o.1.enc o.1.encH
  | false => k (.exit 2) o.1.enc o.1.encH
def fuel6v_16 (s : S6v_16) : Nat := 502
structure S6v_36 where
  t6 : Bool
  taken : Int
  found : Int
  i : Int
  j : Int
  h49 : Int
  h492 : Int
  h493 : Bool
  h230 : List Entry
  h229 : List Bool
  h228 : List Proved
def S6v_36.enc (s : S6v_36) : List PV := [.b s.t6, .ref 49 0, .i .i64 s.taken, .i .i64 s.found, .i .i64 s.i, .i .i64 s.j]
def S6v_36.encH (s : S6v_36) : Heap := [some (.cells 54 [.i .i64 s.h49, .i .i64 s.h492, .b s.h493, .own 230, .own 229, .own 228]), some (.row .entry 89 s.h230), some (.row .bool 4 s.h229), some (.row .proved 102 s.h228)]
def dec6v_36 : List PV → Heap → Option S6v_36
  | [.b t6_, .ref 49 0, .i .i64 taken_, .i .i64 found_, .i .i64 i_, .i .i64 j_], [some (.cells 54 [.i .i64 h49_, .i .i64 h492_, .b h493_, .own 230, .own 229, .own 228]), some (.row .entry 89 h230_), some (.row .bool 4 h229_), some (.row .proved 102 h228_)] => some ⟨t6_, taken_, found_, i_, j_, h49_, h492_, h493_, h230_, h229_, h228_⟩
  | _, _ => none
theorem dec_enc6v_36 (vs : List PV) (hs : Heap) (s : S6v_36) (h : dec6v_36 vs hs = some s) : vs = s.enc ∧ hs = s.encH := by
  unfold dec6v_36 at h
  split at h
  · obtain rfl := Option.some.inj h
    exact ⟨rfl, rfl⟩
  · simp at h
def st6v_36 {ρ : Type} (s : S6v_36) (next : S6v_36 → Option ρ) (out : S6v_36 × Bool → Option ρ) : Option ρ := (match (decide (s.j < s.i)) with | true => (match (bookOk s.h49 s.h492 s.h493 s.h230 s.h229 s.h228) with | true => (match (bookOk s.h49 s.h492 s.h493 s.h230 s.h229 s.h228) with | true => (match (bif (bif (!(((repR s.h230 s.i).about).toList == (⟨#[]⟩ : ByteArray).toList)) then (((repR s.h230 s.i).about).toList == ((repR s.h230 s.j).about).toList) else false) then ((repO s.h230 s.i) != (repO s.h230 s.j)) else false) with | true => out (⟨false, s.taken, s.found, s.i, s.j, s.h49, s.h492, s.h493, s.h230, s.h229, s.h228⟩, true) | false => next ⟨s.t6, s.taken, s.found, s.i, (wr (s.j + 1)), s.h49, s.h492, s.h493, s.h230, s.h229, s.h228⟩) | false => none) | false => none) | false => out (s, false))
def out6v_36 (k : Ex → List PV → Heap → Option R) (o : S6v_36 × Bool) : Option R := match o.2 with
  | true => k .ret o.1.enc o.1.encH
  | false => k (.exit 10) o.1.enc o.1.encH
def fuel6v_36 (s : S6v_36) : Nat := 502
structure S6v_33 where
  t6 : Bool
  taken : Int
  found : Int
  i : Int
  h49 : Int
  h492 : Int
  h493 : Bool
  h230 : List Entry
  h229 : List Bool
  h228 : List Proved
def S6v_33.enc (s : S6v_33) : List PV := [.b s.t6, .ref 49 0, .i .i64 s.taken, .i .i64 s.found, .i .i64 s.i]
def S6v_33.encH (s : S6v_33) : Heap := [some (.cells 54 [.i .i64 s.h49, .i .i64 s.h492, .b s.h493, .own 230, .own 229, .own 228]), some (.row .entry 89 s.h230), some (.row .bool 4 s.h229), some (.row .proved 102 s.h228)]
def dec6v_33 : List PV → Heap → Option S6v_33
  | [.b t6_, .ref 49 0, .i .i64 taken_, .i .i64 found_, .i .i64 i_], [some (.cells 54 [.i .i64 h49_, .i .i64 h492_, .b h493_, .own 230, .own 229, .own 228]), some (.row .entry 89 h230_), some (.row .bool 4 h229_), some (.row .proved 102 h228_)] => some ⟨t6_, taken_, found_, i_, h49_, h492_, h493_, h230_, h229_, h228_⟩
  | _, _ => none
theorem dec_enc6v_33 (vs : List PV) (hs : Heap) (s : S6v_33) (h : dec6v_33 vs hs = some s) : vs = s.enc ∧ hs = s.encH := by
  unfold dec6v_33 at h
  split at h
  · obtain rfl := Option.some.inj h
    exact ⟨rfl, rfl⟩
  · simp at h
def st6v_33 {ρ : Type} (s : S6v_33) (next : S6v_33 → Option ρ) (out : S6v_33 × Bool → Option ρ) : Option ρ := (match (decide (s.i < s.taken)) with | true => (iter st6v_36 (fuel6v_36 (⟨s.t6, s.taken, s.found, s.i, 0, s.h49, s.h492, s.h493, s.h230, s.h229, s.h228⟩ : S6v_36)) (⟨s.t6, s.taken, s.found, s.i, 0, s.h49, s.h492, s.h493, s.h230, s.h229, s.h228⟩ : S6v_36) fun o36 => (match o36.2 with | true => out (⟨o36.1.t6, o36.1.taken, o36.1.found, o36.1.i, o36.1.h49, o36.1.h492, o36.1.h493, o36.1.h230, o36.1.h229, o36.1.h228⟩, true) | false => next ⟨o36.1.t6, o36.1.taken, o36.1.found, (wr (o36.1.i + 1)), o36.1.h49, o36.1.h492, o36.1.h493, o36.1.h230, o36.1.h229, o36.1.h228⟩)) | false => out (s, false))
def out6v_33 (k : Ex → List PV → Heap → Option R) (o : S6v_33 × Bool) : Option R := match o.2 with
  | true => k .ret o.1.enc o.1.encH
  | false => k (.exit 8) o.1.enc o.1.encH
def fuel6v_33 (s : S6v_33) : Nat := 502
def K6v : Keep := fun i => match i with
  | 8 => ([2, 6, 7, 9, 10, 11], [49, 230, 229, 228])
  | 16 => ([6, 7, 9, 10, 15, 16], [49, 230, 229, 228])
  | 21 => ([6, 7, 9, 10, 15, 16, 17, 19], [49, 107, 230, 229, 228])
  | 27 => ([6, 7, 9, 10, 15, 16, 17, 19, 20, 23], [49, 107, 28, 230, 229, 228])
  | 33 => ([6, 7, 9, 15, 27], [49, 230, 229, 228])
  | 36 => ([6, 7, 9, 15, 27, 28], [49, 230, 229, 228])
  | _ => ([], [])
def L6v : Lam := fun b vs hs k => match loopId b with
  | 8 => loopL dec6v_8 st6v_8 fuel6v_8 out6v_8 b vs hs k
  | 16 => loopL dec6v_16 st6v_16 fuel6v_16 out6v_16 b vs hs k
  | 21 => loopL dec6v_21 st6v_21 fuel6v_21 out6v_21 b vs hs k
  | 27 => loopL dec6v_27 st6v_27 fuel6v_27 out6v_27 b vs hs k
  | 33 => loopL dec6v_33 st6v_33 fuel6v_33 out6v_33 b vs hs k
  | 36 => loopL dec6v_36 st6v_36 fuel6v_36 out6v_36 b vs hs k
  | _ => none
noncomputable def b6v_8 : Code := (loopsOf (bodyOf Try.f6)).getD 0 .skip
noncomputable def b6v_27 : Code := (loopsOf (bodyOf Try.f6)).getD 3 .skip
noncomputable def b6v_21 : Code := (loopsOf (bodyOf Try.f6)).getD 2 .skip
noncomputable def b6v_16 : Code := (loopsOf (bodyOf Try.f6)).getD 1 .skip
noncomputable def b6v_36 : Code := (loopsOf (bodyOf Try.f6)).getD 5 .skip
noncomputable def b6v_33 : Code := (loopsOf (bodyOf Try.f6)).getD 4 .skip
theorem step6v_8 (gl : Gl) (j : Nat) (s : S6v_8) (k : Ex → List PV → Heap → Option R) : unroll (cxo gl (mkG [(9, F9), (10, F10)]) (mkO [(13, 1, FO13), (17, 1, FO17), (16, 2, FO16), (11, 2, FO11v)]) none [] rlT [] []) K6v L6v Try.f6.ntmps (Try.f6.ntmps + 16) b6v_8 (j + 1) s.enc s.encH k = st6v_8 s (fun s' => unroll (cxo gl (mkG [(9, F9), (10, F10)]) (mkO [(13, 1, FO13), (17, 1, FO17), (16, 2, FO16), (11, 2, FO11v)]) none [] rlT [] []) K6v L6v Try.f6.ntmps (Try.f6.ntmps + 16) b6v_8 j s'.enc s'.encH k) (out6v_8 k) := by kernel_rfl
theorem step6v_27 (gl : Gl) (j : Nat) (s : S6v_27) (k : Ex → List PV → Heap → Option R) : unroll (cxo gl (mkG [(9, F9), (10, F10)]) (mkO [(13, 1, FO13), (17, 1, FO17), (16, 2, FO16), (11, 2, FO11v)]) none [] rlT [] []) K6v L6v Try.f6.ntmps (Try.f6.ntmps + 16) b6v_27 (j + 1) s.enc s.encH k = st6v_27 s (fun s' => unroll (cxo gl (mkG [(9, F9), (10, F10)]) (mkO [(13, 1, FO13), (17, 1, FO17), (16, 2, FO16), (11, 2, FO11v)]) none [] rlT [] []) K6v L6v Try.f6.ntmps (Try.f6.ntmps + 16) b6v_27 j s'.enc s'.encH k) (out6v_27 k) := by kernel_rfl
theorem step6v_21 (gl : Gl) (j : Nat) (s : S6v_21) (k : Ex → List PV → Heap → Option R) : unroll (cxo gl (mkG [(9, F9), (10, F10)]) (mkO [(13, 1, FO13), (17, 1, FO17), (16, 2, FO16), (11, 2, FO11v)]) none [] rlT [] []) K6v L6v Try.f6.ntmps (Try.f6.ntmps + 16) b6v_21 (j + 1) s.enc s.encH k = st6v_21 s (fun s' => unroll (cxo gl (mkG [(9, F9), (10, F10)]) (mkO [(13, 1, FO13), (17, 1, FO17), (16, 2, FO16), (11, 2, FO11v)]) none [] rlT [] []) K6v L6v Try.f6.ntmps (Try.f6.ntmps + 16) b6v_21 j s'.enc s'.encH k) (out6v_21 k) := by kernel_rfl
theorem step6v_16 (gl : Gl) (j : Nat) (s : S6v_16) (k : Ex → List PV → Heap → Option R) : unroll (cxo gl (mkG [(9, F9), (10, F10)]) (mkO [(13, 1, FO13), (17, 1, FO17), (16, 2, FO16), (11, 2, FO11v)]) none [] rlT [] []) K6v L6v Try.f6.ntmps (Try.f6.ntmps + 16) b6v_16 (j + 1) s.enc s.encH k = st6v_16 s (fun s' => unroll (cxo gl (mkG [(9, F9), (10, F10)]) (mkO [(13, 1, FO13), (17, 1, FO17), (16, 2, FO16), (11, 2, FO11v)]) none [] rlT [] []) K6v L6v Try.f6.ntmps (Try.f6.ntmps + 16) b6v_16 j s'.enc s'.encH k) (out6v_16 k) := by kernel_rfl
theorem step6v_36 (gl : Gl) (j : Nat) (s : S6v_36) (k : Ex → List PV → Heap → Option R) : unroll (cxo gl (mkG [(9, F9), (10, F10)]) (mkO [(13, 1, FO13), (17, 1, FO17), (16, 2, FO16), (11, 2, FO11v)]) none [] rlT [] []) K6v L6v Try.f6.ntmps (Try.f6.ntmps + 16) b6v_36 (j + 1) s.enc s.encH k = st6v_36 s (fun s' => unroll (cxo gl (mkG [(9, F9), (10, F10)]) (mkO [(13, 1, FO13), (17, 1, FO17), (16, 2, FO16), (11, 2, FO11v)]) none [] rlT [] []) K6v L6v Try.f6.ntmps (Try.f6.ntmps + 16) b6v_36 j s'.enc s'.encH k) (out6v_36 k) := by kernel_rfl
theorem step6v_33 (gl : Gl) (j : Nat) (s : S6v_33) (k : Ex → List PV → Heap → Option R) : unroll (cxo gl (mkG [(9, F9), (10, F10)]) (mkO [(13, 1, FO13), (17, 1, FO17), (16, 2, FO16), (11, 2, FO11v)]) none [] rlT [] []) K6v L6v Try.f6.ntmps (Try.f6.ntmps + 16) b6v_33 (j + 1) s.enc s.encH k = st6v_33 s (fun s' => unroll (cxo gl (mkG [(9, F9), (10, F10)]) (mkO [(13, 1, FO13), (17, 1, FO17), (16, 2, FO16), (11, 2, FO11v)]) none [] rlT [] []) K6v L6v Try.f6.ntmps (Try.f6.ntmps + 16) b6v_33 j s'.enc s'.encH k) (out6v_33 k) := by kernel_rfl
theorem l6v (gl : Gl) : LoopsOk (cxo gl (mkG [(9, F9), (10, F10)]) (mkO [(13, 1, FO13), (17, 1, FO17), (16, 2, FO16), (11, 2, FO11v)]) none [] rlT [] []) K6v L6v Try.f6.ntmps (Try.f6.ntmps + 16) (loopsOf (bodyOf Try.f6)) := by
  refine loopsOk_list (l := [b6v_8, b6v_16, b6v_21, b6v_27, b6v_33, b6v_36]) (by kernel_rfl) ?_
  exact List.forall_mem_cons.2 ⟨loopOk1 (fuel := fuel6v_8) (enc := S6v_8.enc) (encH := S6v_8.encH) (fun vs hs k => by kernel_rfl) dec_enc6v_8 (step6v_8 gl ), List.forall_mem_cons.2 ⟨loopOk1 (fuel := fuel6v_16) (enc := S6v_16.enc) (encH := S6v_16.encH) (fun vs hs k => by kernel_rfl) dec_enc6v_16 (step6v_16 gl ), List.forall_mem_cons.2 ⟨loopOk1 (fuel := fuel6v_21) (enc := S6v_21.enc) (encH := S6v_21.encH) (fun vs hs k => by kernel_rfl) dec_enc6v_21 (step6v_21 gl ), List.forall_mem_cons.2 ⟨loopOk1 (fuel := fuel6v_27) (enc := S6v_27.enc) (encH := S6v_27.encH) (fun vs hs k => by kernel_rfl) dec_enc6v_27 (step6v_27 gl ), List.forall_mem_cons.2 ⟨loopOk1 (fuel := fuel6v_33) (enc := S6v_33.enc) (encH := S6v_33.encH) (fun vs hs k => by kernel_rfl) dec_enc6v_33 (step6v_33 gl ), List.forall_mem_cons.2 ⟨loopOk1 (fuel := fuel6v_36) (enc := S6v_36.enc) (encH := S6v_36.encH) (fun vs hs k => by kernel_rfl) dec_enc6v_36 (step6v_36 gl ), (fun _ h => by simp at h)⟩⟩⟩⟩⟩⟩
theorem rep_at {es : List Entry} (hl : es.length ≤ 500) {j : Nat} (hj : j < es.length) : repR es (j : Int) = es[j].r ∧ repO es (j : Int) = es[j].of_ ∧ repE es (j : Int) = 0 := by
  have hw : within (j : Int) 0 (wr ((es.length : Int) - 1)) = true := (within_len (by omega)).2 (inB_nat hj)
  unfold repR repO repE
  rw [hw, Int.toNat_natCast, atN_nat (T := .entry) hj]
  exact ⟨rfl, rfl, rfl⟩
theorem reports_all {w d : Int} {es : List Entry} {op : List Bool} {pr : List Proved} (h : BookP w d true es op pr) (i : Nat) : reportsL es op (i : Int) = allL es (i : Int) := by
  unfold reportsL
  have hl := h.lop
  cases hw : within (i : Int) 0 (wr ((op.length : Int) - 1)) with
  | true => rfl
  | false =>
    refine (allL_none fun x hx e => ?_).symm
    have := h.of_ x hx
    rw [e] at this
    rw [(within_len (by omega)).2 this] at hw
    exact Bool.noConfusion hw
theorem two_at {es : List Entry} (hk : KeepP es) (hl : es.length ≤ 500) {i j : Nat} (hi : i < es.length) (hj : j < es.length) : (bif (bif (!(((repR es (i : Int)).about).toList == (⟨#[]⟩ : ByteArray).toList)) then (((repR es (i : Int)).about).toList == ((repR es (j : Int)).about).toList) else false) then ((repO es (i : Int)) != (repO es (j : Int))) else false) = false := by
  obtain ⟨a1, a2, _⟩ := rep_at hl hi
  obtain ⟨b1, b2, _⟩ := rep_at hl hj
  rw [a1, a2, b1, b2]
  cases h1 : (es[i].r.about.toList == (⟨#[]⟩ : ByteArray).toList) with
  | true => rfl
  | false =>
    cases h2 : (es[i].r.about.toList == es[j].r.about.toList) with
    | false => rfl
    | true =>
      have := hk.two _ (List.getElem_mem hi) _ (List.getElem_mem hj) (beq_eq_false_iff_ne.1 h1) (beq_iff_eq.1 h2)
      show (es[i].of_ != es[j].of_) = false
      rw [this]
      simp
theorem in36 {ρ : Type} (w d : Int) (es : List Entry) (op : List Bool) (pr : List Proved) (h : BookP w d true es op pr) (hk : KeepP es) (taken found : Int) (i : Nat) (hi : i < es.length) (out : S6v_36 × Bool → Option ρ) :
    iter st6v_36 (fuel6v_36 (⟨false, taken, found, (i : Int), 0, w, d, true, es, op, pr⟩ : S6v_36)) (⟨false, taken, found, (i : Int), 0, w, d, true, es, op, pr⟩ : S6v_36) out = out (⟨false, taken, found, (i : Int), (i : Int), w, d, true, es, op, pr⟩, false) := by
  have hl := h.les
  refine iter_each (step := st6v_36) (F := fun j => (⟨false, taken, found, (i : Int), (j : Int), w, d, true, es, op, pr⟩ : S6v_36)) (last := ((⟨false, taken, found, (i : Int), (i : Int), w, d, true, es, op, pr⟩ : S6v_36), false)) i _ (fun j next hj => ?_) (fun next => ?_) _ (show i + 1 ≤ 502 by omega) _ rfl
  · simp only [st6v_36, decLt_nat hj, book_iff.2 h, two_at hk hl hi (show j < es.length by omega), wr_succ (show j ≤ 1000000 by omega)]
  · simp only [st6v_36, decLt_self]
theorem in33 {ρ : Type} (w d : Int) (es : List Entry) (op : List Bool) (pr : List Proved) (h : BookP w d true es op pr) (hk : KeepP es) (found : Int) (out : S6v_33 × Bool → Option ρ) :
    iter st6v_33 (fuel6v_33 (⟨false, (es.length : Int), found, 0, w, d, true, es, op, pr⟩ : S6v_33)) (⟨false, (es.length : Int), found, 0, w, d, true, es, op, pr⟩ : S6v_33) out = out (⟨false, (es.length : Int), found, (es.length : Int), w, d, true, es, op, pr⟩, false) := by
  have hl := h.les
  refine iter_each (step := st6v_33) (F := fun j => (⟨false, (es.length : Int), found, (j : Int), w, d, true, es, op, pr⟩ : S6v_33)) (last := ((⟨false, (es.length : Int), found, (es.length : Int), w, d, true, es, op, pr⟩ : S6v_33), false)) es.length _ (fun j next hj => ?_) (fun next => ?_) _ (show es.length + 1 ≤ 502 by omega) _ rfl
  · simp only [st6v_33, decLt_nat hj]
    refine (in36 w d es op pr h hk _ _ j hj _).trans ?_
    simp only [wr_succ (show j ≤ 1000000 by omega)]
  · simp only [st6v_33, decLt_self]
theorem one_at {es : List Entry} (hk : KeepP es) (hl : es.length ≤ 500) {inc : Int} {h j : Nat} (hh : h < j) (hj : j < (allL es inc).length) : (bif (decide ((atN .int (allL es inc) h) ≥ (atN .int (allL es inc) j))) then true else (bif (bif (!(((repR es (atN .int (allL es inc) j)).about).toList == (⟨#[]⟩ : ByteArray).toList)) then (!(((repR es (atN .int (allL es inc) h)).about).toList == (⟨#[]⟩ : ByteArray).toList)) else false) then (!(((repR es (atN .int (allL es inc) j)).about).toList == ((repR es (atN .int (allL es inc) h)).about).toList)) else false)) = false := by
  have hh' : h < (allL es inc).length := by omega
  rw [atN_nat (T := .int) hh', atN_nat (T := .int) hj]
  have hs := List.pairwise_iff_getElem.1 (ofL_sorted es inc (fun _ => true) es.length) h j hh' hj hh
  have hlt : (allL es inc)[h] < (allL es inc)[j] := hs
  obtain ⟨x, hx, ex, ox⟩ := allL_mem.1 (List.getElem_mem hh' : (allL es inc)[h] ∈ allL es inc)
  obtain ⟨y, hy, ey, oy⟩ := allL_mem.1 (List.getElem_mem hj : (allL es inc)[j] ∈ allL es inc)
  rw [decide_eq_false (show ¬ (allL es inc)[h] ≥ (allL es inc)[j] from Int.not_le.2 hlt)]
  rw [ex, ey, (rep_at hl hx).1, (rep_at hl hy).1]
  cases h1 : (es[y].r.about.toList == (⟨#[]⟩ : ByteArray).toList) with
  | true => rfl
  | false =>
    cases h2 : (es[x].r.about.toList == (⟨#[]⟩ : ByteArray).toList) with
    | true => rfl
    | false =>
      have := hk.one _ (List.getElem_mem hy) _ (List.getElem_mem hx) (oy.trans ox.symm) (beq_eq_false_iff_ne.1 h1) (beq_eq_false_iff_ne.1 h2)
      show (!(es[y].r.about.toList == es[x].r.about.toList)) = false
      rw [show es[y].r.about.toList = es[x].r.about.toList from this]
      simp
theorem in27 {ρ : Type} (w d : Int) (es : List Entry) (op : List Bool) (pr : List Proved) (h : BookP w d true es op pr) (hk : KeepP es) (taken most found inc : Int) (j : Nat) (hj : j < (allL es inc).length) (out : S6v_27 × Bool → Option ρ) :
    iter st6v_27 (fuel6v_27 (⟨false, taken, most, found, inc, (j : Int), 0, w, d, true, allL es inc, repR es (atN .int (allL es inc) j), es, op, pr⟩ : S6v_27)) (⟨false, taken, most, found, inc, (j : Int), 0, w, d, true, allL es inc, repR es (atN .int (allL es inc) j), es, op, pr⟩ : S6v_27) out = out (⟨false, taken, most, found, inc, (j : Int), (j : Int), w, d, true, allL es inc, repR es (atN .int (allL es inc) j), es, op, pr⟩, false) := by
  have hl := h.les
  have hal : (allL es inc).length ≤ es.length := ofL_len _ _ _ _
  refine iter_each (step := st6v_27) (F := fun k => (⟨false, taken, most, found, inc, (j : Int), (k : Int), w, d, true, allL es inc, repR es (atN .int (allL es inc) j), es, op, pr⟩ : S6v_27)) (last := ((⟨false, taken, most, found, inc, (j : Int), (j : Int), w, d, true, allL es inc, repR es (atN .int (allL es inc) j), es, op, pr⟩ : S6v_27), false)) j _ (fun k next hk' => ?_) (fun next => ?_) _ (show j + 1 ≤ 502 by omega) _ rfl
  · simp only [st6v_27, decLt_nat hk', inB_nat (show k < (allL es inc).length by omega), inN_nat (show k < (allL es inc).length by omega), inB_nat hj, inN_nat hj, book_iff.2 h, Int.toNat_natCast, one_at hk hl hk' hj, wr_succ (show k ≤ 1000000 by omega)]
  · simp only [st6v_27, decLt_self]
theorem in21 {ρ : Type} (w d : Int) (es : List Entry) (op : List Bool) (pr : List Proved) (h : BookP w d true es op pr) (hk : KeepP es) (taken most found inc : Int) (out : S6v_21 × Bool → Option ρ) :
    iter st6v_21 (fuel6v_21 (⟨false, taken, most, found, inc, 0, w, d, true, allL es inc, es, op, pr⟩ : S6v_21)) (⟨false, taken, most, found, inc, 0, w, d, true, allL es inc, es, op, pr⟩ : S6v_21) out = out (⟨false, taken, most, found, inc, ((allL es inc).length : Int), w, d, true, allL es inc, es, op, pr⟩, false) := by
  have hl := h.les
  have hal : (allL es inc).length ≤ es.length := ofL_len _ _ _ _
  refine iter_each (step := st6v_21) (F := fun k => (⟨false, taken, most, found, inc, (k : Int), w, d, true, allL es inc, es, op, pr⟩ : S6v_21)) (last := ((⟨false, taken, most, found, inc, ((allL es inc).length : Int), w, d, true, allL es inc, es, op, pr⟩ : S6v_21), false)) (allL es inc).length _ (fun k next hk' => ?_) (fun next => ?_) _ (show (allL es inc).length + 1 ≤ 502 by omega) _ rfl
  · obtain ⟨x, hx, ex, ox⟩ := allL_mem.1 (List.getElem_mem hk' : (allL es inc)[k] ∈ allL es inc)
    have hat : atN .int (allL es inc) k = (x : Int) := (atN_nat (T := .int) hk').trans ex
    have hbad : (bif ((repE es (atN .int (allL es inc) k)) != 0) then true else ((repO es (atN .int (allL es inc) k)) != inc)) = false := by
      rw [hat, (rep_at hl hx).2.1, (rep_at hl hx).2.2, ox]
      simp
    simp only [st6v_21, decLt_nat hk', inB_nat hk', inN_nat hk', book_iff.2 h, Int.toNat_natCast, hbad]
    refine (in27 w d es op pr h hk _ _ _ _ k hk' _).trans ?_
    simp only [wr_succ (show k ≤ 1000000 by omega)]
  · simp only [st6v_21, decLt_self]
theorem in16 {ρ : Type} (w d : Int) (es : List Entry) (op : List Bool) (pr : List Proved) (h : BookP w d true es op pr) (hk : KeepP es) (taken : Int) (n : Nat) (hn : n ≤ 60) (out : S6v_16 × Bool → Option ρ) :
    iter st6v_16 (fuel6v_16 (⟨false, taken, (n : Int), 0, 0, w, d, true, es, op, pr⟩ : S6v_16)) (⟨false, taken, (n : Int), 0, 0, w, d, true, es, op, pr⟩ : S6v_16) out = out (⟨false, taken, (n : Int), (sumF es (n + 1) : Int), ((n + 1 : Nat) : Int), w, d, true, es, op, pr⟩, false) := by
  have hl := h.les
  refine iter_each (step := st6v_16) (F := fun k => (⟨false, taken, (n : Int), (sumF es k : Int), (k : Int), w, d, true, es, op, pr⟩ : S6v_16)) (last := ((⟨false, taken, (n : Int), (sumF es (n + 1) : Int), ((n + 1 : Nat) : Int), w, d, true, es, op, pr⟩ : S6v_16), false)) (n + 1) _ (fun k next hk' => ?_) (fun next => ?_) _ (show n + 1 + 1 ≤ 502 by omega) _ rfl
  · have hs := sumF_le es (fun x hx => (inB_iff.1 (h.of_ x hx)).1) (k + 1)
    have hs' : sumF es (k + 1) = sumF es k + (allL es (k : Int)).length := rfl
    have hw : wr ((sumF es k : Int) + ((allL es (k : Int)).length : Int)) = (sumF es (k + 1) : Int) := by
      rw [wr_small (by omega) (by omega), hs']
      simp
    simp only [st6v_16, decide_eq_true (show (k : Int) ≤ (n : Int) by omega), book_iff.2 h, reports_all h, hw]
    refine (in21 w d es op pr h hk _ _ _ _ _).trans ?_
    simp only [wr_succ (show k ≤ 1000000 by omega)]
  · simp only [st6v_16, decide_eq_false (show ¬ ((n + 1 : Nat) : Int) ≤ (n : Int) by omega)]
theorem in8k {ρ : Type} (l : List Act') (w d : Int) (hl : l.length ≤ 60) (hr : rulesR w d = true) (out : S6v_8 → Option ρ) :
    iter st6v_8 (fuel6v_8 (⟨l, false, 0, 0, 0, w, d, true, ([]), ([]), ([])⟩ : S6v_8)) (⟨l, false, 0, 0, 0, w, d, true, ([]), ([]), ([])⟩ : S6v_8) out = out ⟨l, false, takenAt w d l l.length, mostAt w d l l.length, (l.length : Int), w, d, true, (bkAt w d l l.length).es, (bkAt w d l l.length).op, (bkAt w d l l.length).pr⟩ := by
  refine iter_each (step := st6v_8) (F := fun k => (⟨l, false, takenAt w d l k, mostAt w d l k, (k : Int), w, d, true, (bkAt w d l k).es, (bkAt w d l k).op, (bkAt w d l k).pr⟩ : S6v_8)) (last := (⟨l, false, takenAt w d l l.length, mostAt w d l l.length, (l.length : Int), w, d, true, (bkAt w d l l.length).es, (bkAt w d l l.length).op, (bkAt w d l l.length).pr⟩ : S6v_8)) l.length _ (fun k next hk => ?_) (fun next => ?_) _ (show l.length + 1 ≤ 61 by omega) _ rfl
  · have hP := bkAt_P hr l k
    obtain ⟨c1, c2, _⟩ := countAt hr l k (by omega)
    have hw : wr (takenAt w d l k + 1) = takenAt w d l k + 1 := wr_small (by omega) (by omega)
    simp only [st6v_8, decLt_nat hk, inB_nat hk, wr_succ (show k ≤ 1000000 by omega), Int.toNat_natCast, atD, book_iff.2 hP, Bool.true_or, hw]
    show (match tookB (bkAt w d l k).es (bkAt w d l k).op (bkAt w d l k).pr w d (atN .act l k) with | true => _ | false => _) = next (⟨l, false, (bif tookB (bkAt w d l k).es (bkAt w d l k).op (bkAt w d l k).pr w d (atN .act l k) then takenAt w d l k + 1 else takenAt w d l k), (bif tookB (bkAt w d l k).es (bkAt w d l k).op (bkAt w d l k).pr w d (atN .act l k) then imax (mostAt w d l k) (imin (doesN (bkAt w d l k).es (bkAt w d l k).op (bkAt w d l k).pr w d (atN .act l k)) 100) else mostAt w d l k), ((k + 1 : Nat) : Int), w, d, true, _, _, _⟩ : S6v_8)
    cases tookB (bkAt w d l k).es (bkAt w d l k).op (bkAt w d l k).pr w d (atN .act l k) <;> rfl
  · simp only [st6v_8, decLt_self]
theorem out6 (l : List Act') (w d : Int) (hl : l.length ≤ 60) (hr : rulesR w d = true) : (iter st6v_8 (fuel6v_8 (⟨l, false, 0, 0, 0, w, d, true, ([]), ([]), ([])⟩ : S6v_8)) (⟨l, false, 0, 0, 0, w, d, true, ([]), ([]), ([])⟩ : S6v_8) fun o8 => (iter st6v_16 (fuel6v_16 (⟨o8.t6, o8.taken, o8.most, 0, 0, o8.h49, o8.h492, o8.h493, o8.h230, o8.h229, o8.h228⟩ : S6v_16)) (⟨o8.t6, o8.taken, o8.most, 0, 0, o8.h49, o8.h492, o8.h493, o8.h230, o8.h229, o8.h228⟩ : S6v_16) fun o16 => (match o16.2 with | true => an (.b o16.1.t6) | false => (iter st6v_33 (fuel6v_33 (⟨o16.1.t6, o16.1.taken, o16.1.found, 0, o16.1.h49, o16.1.h492, o16.1.h493, o16.1.h230, o16.1.h229, o16.1.h228⟩ : S6v_33)) (⟨o16.1.t6, o16.1.taken, o16.1.found, 0, o16.1.h49, o16.1.h492, o16.1.h493, o16.1.h230, o16.1.h229, o16.1.h228⟩ : S6v_33) fun o33 => (match o33.2 with | true => an (.b o33.1.t6) | false => an (.b (bif (o33.1.found == o33.1.taken) then true else false))))))) = an (.b true) := by
  refine (in8k l w d hl hr _).trans ?_
  have hP := bkAt_P hr l l.length
  have hK := keepAt hr l l.length
  obtain ⟨c1, c2, c3, c4⟩ := countAt hr l l.length hl
  obtain ⟨n, hn⟩ : ∃ n : Nat, mostAt w d l l.length = (n : Int) := ⟨Int.toNat (mostAt w d l l.length), by omega⟩
  rw [c1, hn]
  refine (in16 w d _ _ _ hP hK _ n (by omega) _).trans ?_
  have hsum : sumF (bkAt w d l l.length).es (n + 1) = (bkAt w d l l.length).es.length := sumF_all fun x hx => ⟨(inB_iff.1 (hP.of_ x hx)).1, by have := c4 x hx; omega⟩
  simp only [hsum]
  refine (in33 w d _ _ _ hP hK _ _).trans ?_
  simp only [beq_self_eq_true]
  rfl
theorem e6v (gl : Gl) (w : Int) (d : Int) (l : List Act') : evFn (cxo gl (mkG [(9, F9), (10, F10)]) (mkO [(13, 1, FO13), (17, 1, FO17), (16, 2, FO16), (11, 2, FO11v)]) none [] rlT [] []) K6v L6v Try.f6 [.i .i64 w, .i .i64 d, .sl .act l] noObjs = (match (greatL l) with | true => an (.b true) | false => (match (rulesV w d) with | true => (iter st6v_8 (fuel6v_8 (⟨l, false, 0, 0, 0, w, d, true, ([]), ([]), ([])⟩ : S6v_8)) (⟨l, false, 0, 0, 0, w, d, true, ([]), ([]), ([])⟩ : S6v_8) fun o8 => (iter st6v_16 (fuel6v_16 (⟨o8.t6, o8.taken, o8.most, 0, 0, o8.h49, o8.h492, o8.h493, o8.h230, o8.h229, o8.h228⟩ : S6v_16)) (⟨o8.t6, o8.taken, o8.most, 0, 0, o8.h49, o8.h492, o8.h493, o8.h230, o8.h229, o8.h228⟩ : S6v_16) fun o16 => (match o16.2 with | true => an (.b o16.1.t6) | false => (iter st6v_33 (fuel6v_33 (⟨o16.1.t6, o16.1.taken, o16.1.found, 0, o16.1.h49, o16.1.h492, o16.1.h493, o16.1.h230, o16.1.h229, o16.1.h228⟩ : S6v_33)) (⟨o16.1.t6, o16.1.taken, o16.1.found, 0, o16.1.h49, o16.1.h492, o16.1.h493, o16.1.h230, o16.1.h229, o16.1.h228⟩ : S6v_33) fun o33 => (match o33.2 with | true => an (.b o33.1.t6) | false => an (.b (bif (o33.1.found == o33.1.taken) then true else false))))))) | false => none)) := by kernel_rfl
def F6v : List PV → Option (Bool × PV)
  | [.i .i64 w, .i .i64 d, .sl .act l] => some ((rulesV w d), .b true)
  | _ => none
theorem s6v {gl : Gl} : Sum gl 6 F6v := by
  intro ps r h
  unfold F6v at h
  split at h
  · rename_i w d l
    obtain ⟨hc, rfl⟩ := Prod.mk.inj (Option.some.inj h)
    refine call_byO (K := K6v) (L := L6v) (bxs := []) (ows := []) (GOk.cons s9 (GOk.cons s10 (GOk.nil))) (OOk.cons so13 (OOk.cons so17 (OOk.cons so16 (OOk.cons so11v (OOk.nil))))) fn6 (l6v gl) (by kernel_rfl) (evF_some ((e6v gl w d l).trans ?_))
    rw [hc]
    show (match greatL l with | true => _ | false => _) = _
    cases hg : greatL l with
    | true => rfl
    | false =>
      have hl : l.length ≤ 60 := by
        unfold greatL at hg
        cases h6 : decide ((l.length : Int) > 60) with
        | true => rw [h6] at hg; exact absurd hg (by simp)
        | false => have := of_decide_eq_false h6; omega
      exact out6 l w d hl hc
  · simp at h
def F6 : List PV → Option (Bool × PV)
  | [.i .i64 w, .i .i64 d, .sl .act l] => some (true, .b true)
  | _ => none
theorem s6 {gl : Gl} : Sum gl 6 F6 := by
  intro ps r h
  unfold F6 at h
  split at h
  · rename_i w d l
    obtain ⟨_, rfl⟩ := Prod.mk.inj (Option.some.inj h)
    cases hr : rulesV w d with
    | true => exact s6v _ _ (by show some (rulesV w d, _) = _; rw [hr])
    | false => exact s6x _ _ (by show some (!(rulesV w d), _) = _; rw [hr]; rfl)
  · simp at h
end Go.Proofs.Ytklgaodfakdjpaa.Ev
