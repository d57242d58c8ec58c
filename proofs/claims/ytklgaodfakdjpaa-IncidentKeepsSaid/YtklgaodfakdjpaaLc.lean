/- Summaries of functions, printed by a program out of a list, and what is made of them. -/
import Derived.Test.YtklgaodfakdjpaaLb
set_option linter.unusedVariables false
set_option linter.unusedSimpArgs false
set_option maxRecDepth 100000
namespace Go.Proofs.Ytklgaodfakdjpaa.Ev
open Go Go.RowKit Go.Proofs
theorem fn67 : FnOk 67 Try.f67 := ⟨by kernel_rfl, by kernel_rfl, by kernel_rfl, by kernel_rfl⟩
theorem e67 (gl : Gl) (w : Int) (d : Int) (m : Bool) (es : List Entry) (op : List Bool) (pr : List Proved) (n : Int) : evFn (cx gl (mkG [(79, F79)]) [4] []) noK noL Try.f67 [.ptr [.i .i64 w, .i .i64 d, .b m, .sl .entry es, .sl .bool op, .sl .proved pr] 0, .i .i64 n] noObjs = (match (inB n es.length) with | true => (match (decide (pr.length ≤ 1000000) && List.all pr (fun q => setPC es n q.report q.proof.pv)) with | true => an (.b (List.any pr (fun q => setP es (atD .entry es n) n q.report q.time q.proof.pv))) | false => none) | false => none) := by kernel_rfl
def F67 : List PV → Option (Bool × PV)
  | [.ptr [.i .i64 w, .i .i64 d, .b m, .sl .entry es, .sl .bool op, .sl .proved pr] 0, .i .i64 n] => some ((inB n es.length && (decide (pr.length ≤ 1000000) && List.all pr (fun q => setC es n q.report))), .b (List.any pr (fun q => setR es (atD .entry es n) n q)))
  | _ => none
theorem s67 {gl : Gl} : Sum gl 67 F67 := by
  intro ps r h
  unfold F67 at h
  split at h
  · rename_i w d m es op pr n
    obtain ⟨hc, rfl⟩ := Prod.mk.inj (Option.some.inj h)
    refine call_by (K := noK) (L := noL) (bxs := [4]) (ows := []) (GOk.cons s79 (GOk.nil)) fn67 (noLoops (by kernel_rfl)) (by kernel_rfl) (evF_some ((e67 gl w d m es op pr n).trans ?_))
    rw [Bool.and_eq_true] at hc
    have e1 : (List.all pr fun q => setPC es n q.report q.proof.pv) = List.all pr (fun q => setC es n q.report) := by
      congr 1
      funext q
      unfold setPC
      rw [dec_pv]
      rfl
    have e2 : (List.any pr fun q => setP es (atD .entry es n) n q.report q.time q.proof.pv) = List.any pr (fun q => setR es (atD .entry es n) n q) := by
      congr 1
      funext q
      rw [setP_pv]
    rw [hc.1, e1, hc.2, e2]
    rfl
  · simp at h
/-- Is a report settled? -/
def settledE (es : List Entry) (pr : List Proved) (n : Int) : Bool := List.any pr (fun q => setR es (atD .entry es n) n q)
def setCs (es : List Entry) (pr : List Proved) (n : Int) : Bool := inB n es.length && (decide (pr.length ≤ 1000000) && List.all pr (fun q => setC es n q.report))
theorem fn66 : FnOk 66 Try.f66 := ⟨by kernel_rfl, by kernel_rfl, by kernel_rfl, by kernel_rfl⟩
theorem e66 (gl : Gl) (n : Int) (w : Int) (d : Int) (m : Bool) (es : List Entry) (op : List Bool) (pr : List Proved) : evFn (cx gl (mkG [(67, F67)]) [] []) noK noL Try.f66 [.i .i64 n, .ptr [.ptr [.i .i64 w, .i .i64 d, .b m, .sl .entry es, .sl .bool op, .sl .proved pr] 0] 0] noObjs = (match (inB n es.length && (decide (pr.length ≤ 1000000) && List.all pr (fun q => setC es n q.report))) with | true => an (.b (!(List.any pr (fun q => setR es (atD .entry es n) n q)))) | false => none) := by kernel_rfl
def F66 : List PV → Option (Bool × PV)
  | [.i .i64 n, .ptr [.ptr [.i .i64 w, .i .i64 d, .b m, .sl .entry es, .sl .bool op, .sl .proved pr] 0] 0] => some ((setCs es pr n), .b (!(settledE es pr n)))
  | _ => none
theorem s66 {gl : Gl} : Sum gl 66 F66 := by
  intro ps r h
  unfold F66 at h
  split at h
  · rename_i n w d m es op pr
    obtain ⟨hc, rfl⟩ := Prod.mk.inj (Option.some.inj h)
    refine call_by (K := noK) (L := noL) (bxs := []) (ows := []) (GOk.cons s67 (GOk.nil)) fn66 (noLoops (by kernel_rfl)) (by kernel_rfl) (evF_some ((e66 gl n w d m es op pr).trans ?_))
    unfold setCs at hc
    rw [hc]
    rfl
  · simp at h
theorem fn64 : FnOk 64 Try.f64 := ⟨by kernel_rfl, by kernel_rfl, by kernel_rfl, by kernel_rfl⟩
theorem e64 (gl : Gl) (n : Int) : evFn (cx gl (mkG []) [] []) noK noL Try.f64 [.i .i64 n] noObjs = an (.b true) := by kernel_rfl
def F64 : List PV → Option (Bool × PV)
  | [.i .i64 n] => some (true, .b true)
  | _ => none
theorem s64 {gl : Gl} : Sum gl 64 F64 := by
  intro ps r h
  unfold F64 at h
  split at h
  · rename_i n
    obtain ⟨hc, rfl⟩ := Prod.mk.inj (Option.some.inj h)
    refine call_by (K := noK) (L := noL) (bxs := []) (ows := []) (GOk.nil) fn64 (noLoops (by kernel_rfl)) (by kernel_rfl) (evF_some ((e64 gl n).trans ?_))
    rfl
  · simp at h
/-- The reports of an incident for which something holds, among the first k. -/
def ofL (es : List Entry) (inc : Int) (p : Int → Bool) : Nat → List Int
  | 0 => []
  | k + 1 => bif (bif ((atN .entry es k).of_ == inc) then p (k : Int) else false) then ofL es inc p k ++ [(k : Int)] else ofL es inc p k
def allL (es : List Entry) (inc : Int) : List Int := ofL es inc (fun _ => true) es.length
def missL2 (es es2 : List Entry) (pr2 : List Proved) (inc : Int) : List Int := ofL es inc (fun n => !(settledE es2 pr2 n)) es.length
def missL (es : List Entry) (pr : List Proved) (inc : Int) : List Int := missL2 es es pr inc
def prC (es : List Entry) (pr : List Proved) : Bool := decide (pr.length ≤ 1000000) && List.all pr (fun q => inB q.report es.length)
theorem setCs_of {es : List Entry} {pr : List Proved} (h : prC es pr = true) {k : Nat} (hk : k < es.length) : setCs es pr (k : Int) = true := by
  unfold prC at h
  rw [Bool.and_eq_true] at h
  unfold setCs
  rw [inB_nat hk, h.1]
  refine List.all_eq_true.2 fun q hq => ?_
  unfold setC
  rw [List.all_eq_true.1 h.2 q hq, Bool.or_true]
theorem ofL_len (es : List Entry) (inc : Int) (p : Int → Bool) : ∀ k, (ofL es inc p k).length ≤ k
  | 0 => Nat.le_refl _
  | k + 1 => by
    have := ofL_len es inc p k
    unfold ofL
    cases (bif ((atN .entry es k).of_ == inc) then p (k : Int) else false) with
    | true =>
      show (ofL es inc p k ++ [(k : Int)]).length ≤ k + 1
      rw [List.length_append]
      simp
      omega
    | false =>
      show (ofL es inc p k).length ≤ k + 1
      omega
structure S63a_3 where
  incident : Int
  t13 : List Entry
  t14 : Int
  t15 : Int
  l : List Int
def S63a_3.enc (s : S63a_3) : List PV := [.i .i64 s.incident, .fn (.func 64) [] [], .own 15, .sl .entry s.t13, .i .i64 s.t14, .i .i64 s.t15]
def S63a_3.encH (s : S63a_3) : Heap := [some (.row .int 3 s.l)]
def dec63a_3 : List PV → Heap → Option S63a_3
  | [.i .i64 incident_, .fn (.func 64) [] [], .own 15, .sl .entry t13_, .i .i64 t14_, .i .i64 t15_], [some (.row .int 3 l_)] => some ⟨incident_, t13_, t14_, t15_, l_⟩
  | _, _ => none
theorem dec_enc63a_3 (vs : List PV) (hs : Heap) (s : S63a_3) (h : dec63a_3 vs hs = some s) : vs = s.enc ∧ hs = s.encH := by
  unfold dec63a_3 at h
  split at h
  · obtain rfl := Option.some.inj h
    exact ⟨rfl, rfl⟩
  · simp at h
def st63a_3 {ρ : Type} (s : S63a_3) (next : S63a_3 → Option ρ) (out : S63a_3 → Option ρ) : Option ρ := (match (decide (s.t15 < s.t14)) with | true => (match (inB s.t15 s.t13.length) with | true => (match (bif (((atD .entry s.t13 s.t15).of_) == s.incident) then true else false) with | true => (match (decide ((s.l.length + 1) * 8 ≤ 140737488355328)) with | true => next ⟨s.incident, s.t13, s.t14, (wr (s.t15 + 1)), (s.l ++ ([s.t15] : List Int))⟩ | false => none) | false => next ⟨s.incident, s.t13, s.t14, (wr (s.t15 + 1)), s.l⟩) | false => none) | false => out s)
def out63a_3 (k : Ex → List PV → Heap → Option R) (o : S63a_3) : Option R := k (.exit 0) o.enc o.encH
def fuel63a_3 (s : S63a_3) : Nat := s.t13.length + 1
def K63a : Keep := fun _ => ([1, 2, 7, 13, 14, 15], [15])
def L63a : Lam := loopL dec63a_3 st63a_3 fuel63a_3 out63a_3
noncomputable def b63a_3 : Code := (loopsOf (bodyOf Try.f63)).getD 0 .skip
theorem step63a_3 (gl : Gl) (j : Nat) (s : S63a_3) (k : Ex → List PV → Heap → Option R) : unroll (cxo gl (mkG [(64, F64)]) (mkO []) none [] rlT [] [15]) K63a L63a Try.f63.ntmps (Try.f63.ntmps + 16) b63a_3 (j + 1) s.enc s.encH k = st63a_3 s (fun s' => unroll (cxo gl (mkG [(64, F64)]) (mkO []) none [] rlT [] [15]) K63a L63a Try.f63.ntmps (Try.f63.ntmps + 16) b63a_3 j s'.enc s'.encH k) (out63a_3 k) := by kernel_rfl
theorem l63a (gl : Gl) : LoopsOk (cxo gl (mkG [(64, F64)]) (mkO []) none [] rlT [] [15]) K63a L63a Try.f63.ntmps (Try.f63.ntmps + 16) (loopsOf (bodyOf Try.f63)) := by
  refine loopsOk_list (l := [b63a_3]) (by kernel_rfl) ?_
  exact List.forall_mem_cons.2 ⟨loopOk1 (fuel := fuel63a_3) (enc := S63a_3.enc) (encH := S63a_3.encH) (fun vs hs k => by kernel_rfl) dec_enc63a_3 (step63a_3 gl ), (fun _ h => by simp at h)⟩
structure S63m_3 where
  incident : Int
  holds : Int
  holds2 : Int
  holds3 : Bool
  holds4 : List Entry
  holds5 : List Bool
  holds6 : List Proved
  t13 : List Entry
  t14 : Int
  t15 : Int
  l : List Int
def S63m_3.enc (s : S63m_3) : List PV := [.i .i64 s.incident, .fn (.func 66) [] [.ptr [.ptr [.i .i64 s.holds, .i .i64 s.holds2, .b s.holds3, .sl .entry s.holds4, .sl .bool s.holds5, .sl .proved s.holds6] 0] 0], .own 15, .sl .entry s.t13, .i .i64 s.t14, .i .i64 s.t15]
def S63m_3.encH (s : S63m_3) : Heap := [some (.row .int 3 s.l)]
def dec63m_3 : List PV → Heap → Option S63m_3
  | [.i .i64 incident_, .fn (.func 66) [] [.ptr [.ptr [.i .i64 holds_, .i .i64 holds2_, .b holds3_, .sl .entry holds4_, .sl .bool holds5_, .sl .proved holds6_] 0] 0], .own 15, .sl .entry t13_, .i .i64 t14_, .i .i64 t15_], [some (.row .int 3 l_)] => some ⟨incident_, holds_, holds2_, holds3_, holds4_, holds5_, holds6_, t13_, t14_, t15_, l_⟩
  | _, _ => none
theorem dec_enc63m_3 (vs : List PV) (hs : Heap) (s : S63m_3) (h : dec63m_3 vs hs = some s) : vs = s.enc ∧ hs = s.encH := by
  unfold dec63m_3 at h
  split at h
  · obtain rfl := Option.some.inj h
    exact ⟨rfl, rfl⟩
  · simp at h
def st63m_3 {ρ : Type} (s : S63m_3) (next : S63m_3 → Option ρ) (out : S63m_3 → Option ρ) : Option ρ := (match (decide (s.t15 < s.t14)) with | true => (match (inB s.t15 s.t13.length) with | true => (match ((setCs s.holds4 s.holds6 s.t15) || ((!(((atD .entry s.t13 s.t15).of_) == s.incident)) || false)) with | true => (match (bif (((atD .entry s.t13 s.t15).of_) == s.incident) then (!(settledE s.holds4 s.holds6 s.t15)) else false) with | true => (match (decide ((s.l.length + 1) * 8 ≤ 140737488355328)) with | true => next ⟨s.incident, s.holds, s.holds2, s.holds3, s.holds4, s.holds5, s.holds6, s.t13, s.t14, (wr (s.t15 + 1)), (s.l ++ ([s.t15] : List Int))⟩ | false => none) | false => next ⟨s.incident, s.holds, s.holds2, s.holds3, s.holds4, s.holds5, s.holds6, s.t13, s.t14, (wr (s.t15 + 1)), s.l⟩) | false => none) | false => none) | false => out s)
def out63m_3 (k : Ex → List PV → Heap → Option R) (o : S63m_3) : Option R := k (.exit 0) o.enc o.encH
def fuel63m_3 (s : S63m_3) : Nat := s.t13.length + 1
def K63m : Keep := fun _ => ([1, 2, 7, 13, 14, 15], [15])
def L63m : Lam := loopL dec63m_3 st63m_3 fuel63m_3 out63m_3
noncomputable def b63m_3 : Code := (loopsOf (bodyOf Try.f63)).getD 0 .skip
theorem step63m_3 (gl : Gl) (j : Nat) (s : S63m_3) (k : Ex → List PV → Heap → Option R) : unroll (cxo gl (mkG [(66, F66)]) (mkO []) none [] rlT [] [15]) K63m L63m Try.f63.ntmps (Try.f63.ntmps + 16) b63m_3 (j + 1) s.enc s.encH k = st63m_3 s (fun s' => unroll (cxo gl (mkG [(66, F66)]) (mkO []) none [] rlT [] [15]) K63m L63m Try.f63.ntmps (Try.f63.ntmps + 16) b63m_3 j s'.enc s'.encH k) (out63m_3 k) := by kernel_rfl
theorem l63m (gl : Gl) : LoopsOk (cxo gl (mkG [(66, F66)]) (mkO []) none [] rlT [] [15]) K63m L63m Try.f63.ntmps (Try.f63.ntmps + 16) (loopsOf (bodyOf Try.f63)) := by
  refine loopsOk_list (l := [b63m_3]) (by kernel_rfl) ?_
  exact List.forall_mem_cons.2 ⟨loopOk1 (fuel := fuel63m_3) (enc := S63m_3.enc) (encH := S63m_3.encH) (fun vs hs k => by kernel_rfl) dec_enc63m_3 (step63m_3 gl ), (fun _ h => by simp at h)⟩
theorem loop63a (w d : Int) (m : Bool) (es : List Entry) (op : List Bool) (pr : List Proved) (inc w2 d2 : Int) (m2 : Bool) (es2 : List Entry) (op2 : List Bool) (pr2 : List Proved) (hx : es.length ≤ 1000000) (hp : True) : (iter st63a_3 (fuel63a_3 (⟨inc, es, (es.length : Int), 0, ([])⟩ : S63a_3)) (⟨inc, es, (es.length : Int), 0, ([])⟩ : S63a_3) fun o3 => ao (.own 0) [some (.row .int 3 o3.l), none, none, none, none, none, none, none]) = ao (.own 0) [some (.row .int 3 (allL es inc)), none, none, none, none, none, none, none] := by
  refine (iter_each (step := st63a_3) (F := fun k => (⟨inc, es, (es.length : Int), (k : Int), ofL es inc (fun _ => true) k⟩ : S63a_3)) (last := (⟨inc, es, (es.length : Int), (es.length : Int), ofL es inc (fun _ => true) es.length⟩ : S63a_3)) es.length _ (fun k next hk => ?_) (fun next => ?_) _ (Nat.le_refl _) _ rfl).trans rfl
  · have hl := ofL_len es inc (fun _ => true) k
    have hd : decide (((ofL es inc (fun _ => true) k).length + 1) * 8 ≤ 140737488355328) = true := decide_eq_true (by omega)
    skip
    simp only [st63a_3, decLt_nat hk, inB_nat hk, wr_succ (show k ≤ 1000000 by omega), atD, Int.toNat_natCast, Bool.true_or, hd]
    show (match (bif ((atN .entry es k).of_ == inc) then (fun _ => true) (k : Int) else false) with | true => _ | false => _) = next (⟨inc, es, (es.length : Int), ((k + 1 : Nat) : Int), (bif (bif ((atN .entry es k).of_ == inc) then (fun _ => true) (k : Int) else false) then ofL es inc (fun _ => true) k ++ [(k : Int)] else ofL es inc (fun _ => true) k)⟩ : S63a_3)
    cases (bif ((atN .entry es k).of_ == inc) then (fun _ => true) (k : Int) else false) <;> rfl
  · simp only [st63a_3, decLt_self]
theorem fn63 : FnOk 63 Try.f63 := ⟨by kernel_rfl, by kernel_rfl, by kernel_rfl, by kernel_rfl⟩
theorem eo63a (gl : Gl) (w : Int) (d : Int) (m : Bool) (es : List Entry) (op : List Bool) (pr : List Proved) (inc : Int) : evO (cxo gl (mkG [(64, F64)]) (mkO []) none [] rlT [] [15]) K63a L63a 0 Try.f63 [.ptr [.i .i64 w, .i .i64 d, .b m, .sl .entry es, .sl .bool op, .sl .proved pr] 0, .i .i64 inc, .fn (.func 64) [] []] [none, none, none, none, none, none, none, none] = (iter st63a_3 (fuel63a_3 (⟨inc, es, (es.length : Int), 0, ([])⟩ : S63a_3)) (⟨inc, es, (es.length : Int), 0, ([])⟩ : S63a_3) fun o3 => ao (.own 0) [some (.row .int 3 o3.l), none, none, none, none, none, none, none]) := by kernel_rfl
def FO63a : ObjF
  | [.ptr [.i .i64 w, .i .i64 d, .b m, .sl .entry es, .sl .bool op, .sl .proved pr] 0, .i .i64 inc, .fn (.func 64) [] []], [none, none, none, none, none, none, none, none] => some ((decide (es.length ≤ 1000000)), .own 0, [some (.row .int 3 (allL es inc)), none, none, none, none, none, none, none])
  | _, _ => none
theorem so63a {gl : Gl} : OSum gl 63 FO63a := by
  intro ps os r os2 h
  unfold FO63a at h
  split at h
  · rename_i w d m es op pr inc
    obtain ⟨hc, h2_⟩ := Prod.mk.inj (Option.some.inj h)
    obtain ⟨rfl, rfl⟩ := Prod.mk.inj h2_
    refine obj_by (K := K63a) (L := L63a) (bxs := []) (ows := [15]) (n0 := 0) (GOk.cons s64 (GOk.nil)) (OOk.nil) fn63 (l63a gl) (by kernel_rfl) ((eo63a gl w d m es op pr inc).trans ?_)
    exact loop63a w d m es op pr inc 0 0 false [] [] [] (of_decide_eq_true hc) trivial
  · simp at h
theorem loop63m (w d : Int) (m : Bool) (es : List Entry) (op : List Bool) (pr : List Proved) (inc w2 d2 : Int) (m2 : Bool) (es2 : List Entry) (op2 : List Bool) (pr2 : List Proved) (hx : es.length ≤ 1000000) (hp : prC es2 pr2 = true ∧ es.length ≤ es2.length) : (iter st63m_3 (fuel63m_3 (⟨inc, w2, d2, m2, es2, op2, pr2, es, (es.length : Int), 0, ([])⟩ : S63m_3)) (⟨inc, w2, d2, m2, es2, op2, pr2, es, (es.length : Int), 0, ([])⟩ : S63m_3) fun o3 => ao (.own 0) [some (.row .int 3 o3.l), none, none, none, none, none, none, none]) = ao (.own 0) [some (.row .int 3 (missL2 es es2 pr2 inc)), none, none, none, none, none, none, none] := by
  refine (iter_each (step := st63m_3) (F := fun k => (⟨inc, w2, d2, m2, es2, op2, pr2, es, (es.length : Int), (k : Int), ofL es inc (fun n => !(settledE es2 pr2 n)) k⟩ : S63m_3)) (last := (⟨inc, w2, d2, m2, es2, op2, pr2, es, (es.length : Int), (es.length : Int), ofL es inc (fun n => !(settledE es2 pr2 n)) es.length⟩ : S63m_3)) es.length _ (fun k next hk => ?_) (fun next => ?_) _ (Nat.le_refl _) _ rfl).trans rfl
  · have hl := ofL_len es inc (fun n => !(settledE es2 pr2 n)) k
    have hd : decide (((ofL es inc (fun n => !(settledE es2 pr2 n)) k).length + 1) * 8 ≤ 140737488355328) = true := decide_eq_true (by omega)
    have hs := setCs_of hp.1 (show k < es2.length by omega)
    simp only [st63m_3, decLt_nat hk, inB_nat hk, wr_succ (show k ≤ 1000000 by omega), atD, Int.toNat_natCast, Bool.true_or, hd, hs]
    show (match (bif ((atN .entry es k).of_ == inc) then (fun n => !(settledE es2 pr2 n)) (k : Int) else false) with | true => _ | false => _) = next (⟨inc, w2, d2, m2, es2, op2, pr2, es, (es.length : Int), ((k + 1 : Nat) : Int), (bif (bif ((atN .entry es k).of_ == inc) then (fun n => !(settledE es2 pr2 n)) (k : Int) else false) then ofL es inc (fun n => !(settledE es2 pr2 n)) k ++ [(k : Int)] else ofL es inc (fun n => !(settledE es2 pr2 n)) k)⟩ : S63m_3)
    cases (bif ((atN .entry es k).of_ == inc) then (fun n => !(settledE es2 pr2 n)) (k : Int) else false) <;> rfl
  · simp only [st63m_3, decLt_self]
theorem eo63m (gl : Gl) (w : Int) (d : Int) (m : Bool) (es : List Entry) (op : List Bool) (pr : List Proved) (inc : Int) (w2 : Int) (d2 : Int) (m2 : Bool) (es2 : List Entry) (op2 : List Bool) (pr2 : List Proved) : evO (cxo gl (mkG [(66, F66)]) (mkO []) none [] rlT [] [15]) K63m L63m 0 Try.f63 [.ptr [.i .i64 w, .i .i64 d, .b m, .sl .entry es, .sl .bool op, .sl .proved pr] 0, .i .i64 inc, .fn (.func 66) [] [.ptr [.ptr [.i .i64 w2, .i .i64 d2, .b m2, .sl .entry es2, .sl .bool op2, .sl .proved pr2] 0] 0]] [none, none, none, none, none, none, none, none] = (iter st63m_3 (fuel63m_3 (⟨inc, w2, d2, m2, es2, op2, pr2, es, (es.length : Int), 0, ([])⟩ : S63m_3)) (⟨inc, w2, d2, m2, es2, op2, pr2, es, (es.length : Int), 0, ([])⟩ : S63m_3) fun o3 => ao (.own 0) [some (.row .int 3 o3.l), none, none, none, none, none, none, none]) := by kernel_rfl
def FO63m : ObjF
  | [.ptr [.i .i64 w, .i .i64 d, .b m, .sl .entry es, .sl .bool op, .sl .proved pr] 0, .i .i64 inc, .fn (.func 66) [] [.ptr [.ptr [.i .i64 w2, .i .i64 d2, .b m2, .sl .entry es2, .sl .bool op2, .sl .proved pr2] 0] 0]], [none, none, none, none, none, none, none, none] => some ((decide (es.length ≤ 1000000) && (prC es2 pr2 && decide (es.length ≤ es2.length))), .own 0, [some (.row .int 3 (missL2 es es2 pr2 inc)), none, none, none, none, none, none, none])
  | _, _ => none
theorem so63m {gl : Gl} : OSum gl 63 FO63m := by
  intro ps os r os2 h
  unfold FO63m at h
  split at h
  · rename_i w d m es op pr inc w2 d2 m2 es2 op2 pr2
    obtain ⟨hc, h2_⟩ := Prod.mk.inj (Option.some.inj h)
    obtain ⟨rfl, rfl⟩ := Prod.mk.inj h2_
    refine obj_by (K := K63m) (L := L63m) (bxs := []) (ows := [15]) (n0 := 0) (GOk.cons s66 (GOk.nil)) (OOk.nil) fn63 (l63m gl) (by kernel_rfl) ((eo63m gl w d m es op pr inc w2 d2 m2 es2 op2 pr2).trans ?_)
    rw [Bool.and_eq_true, Bool.and_eq_true, decide_eq_true_eq, decide_eq_true_eq] at hc
    exact loop63m w d m es op pr inc w2 d2 m2 es2 op2 pr2 hc.1 hc.2
  · simp at h
theorem fn43 : FnOk 43 Try.f43 := ⟨by kernel_rfl, by kernel_rfl, by kernel_rfl, by kernel_rfl⟩
theorem eo43 (gl : Gl) (w : Int) (d : Int) (m : Bool) (es : List Entry) (op : List Bool) (pr : List Proved) (inc : Int) : evO (cxo gl (mkG []) (mkO [(63, 2, FO63a)]) none [] rlT [] [4]) noK noL 0 Try.f43 [.ptr [.i .i64 w, .i .i64 d, .b m, .sl .entry es, .sl .bool op, .sl .proved pr] 0, .i .i64 inc] [none, none, none, none, none, none, none, none] = (match (decide (es.length ≤ 1000000)) with | true => ao (.own 0) [some (.row .int 3 (allL es inc)), none, none, none, none, none, none, none] | false => none) := by kernel_rfl
def FO43 : ObjF
  | [.ptr [.i .i64 w, .i .i64 d, .b m, .sl .entry es, .sl .bool op, .sl .proved pr] 0, .i .i64 inc], [none, none, none, none, none, none, none, none] => some ((decide (es.length ≤ 1000000)), .own 0, [some (.row .int 3 (allL es inc)), none, none, none, none, none, none, none])
  | _, _ => none
theorem so43 {gl : Gl} : OSum gl 43 FO43 := by
  intro ps os r os2 h
  unfold FO43 at h
  split at h
  · rename_i w d m es op pr inc
    obtain ⟨hc, h2_⟩ := Prod.mk.inj (Option.some.inj h)
    obtain ⟨rfl, rfl⟩ := Prod.mk.inj h2_
    refine obj_by (K := noK) (L := noL) (bxs := []) (ows := [4]) (n0 := 0) (GOk.nil) (OOk.cons so63a (OOk.nil)) fn43 (noLoops (by kernel_rfl)) (by kernel_rfl) ((eo43 gl w d m es op pr inc).trans ?_)
    rw [hc]
    rfl
  · simp at h
theorem fn46 : FnOk 46 Try.f46 := ⟨by kernel_rfl, by kernel_rfl, by kernel_rfl, by kernel_rfl⟩
theorem eo46 (gl : Gl) (w : Int) (d : Int) (m : Bool) (es : List Entry) (op : List Bool) (pr : List Proved) (inc : Int) : evO (cxo gl (mkG []) (mkO [(63, 2, FO63m)]) none [] rlT [2] [4]) noK noL 0 Try.f46 [.ptr [.i .i64 w, .i .i64 d, .b m, .sl .entry es, .sl .bool op, .sl .proved pr] 0, .i .i64 inc] [none, none, none, none, none, none, none, none] = (match (decide (es.length ≤ 1000000) && (prC es pr && decide (es.length ≤ es.length))) with | true => ao (.own 0) [some (.row .int 3 (missL2 es es pr inc)), none, none, none, none, none, none, none] | false => none) := by kernel_rfl
def FO46 : ObjF
  | [.ptr [.i .i64 w, .i .i64 d, .b m, .sl .entry es, .sl .bool op, .sl .proved pr] 0, .i .i64 inc], [none, none, none, none, none, none, none, none] => some ((decide (es.length ≤ 1000000) && prC es pr), .own 0, [some (.row .int 3 (missL es pr inc)), none, none, none, none, none, none, none])
  | _, _ => none
theorem so46 {gl : Gl} : OSum gl 46 FO46 := by
  intro ps os r os2 h
  unfold FO46 at h
  split at h
  · rename_i w d m es op pr inc
    obtain ⟨hc, h2_⟩ := Prod.mk.inj (Option.some.inj h)
    obtain ⟨rfl, rfl⟩ := Prod.mk.inj h2_
    refine obj_by (K := noK) (L := noL) (bxs := [2]) (ows := [4]) (n0 := 0) (GOk.nil) (OOk.cons so63m (OOk.nil)) fn46 (noLoops (by kernel_rfl)) (by kernel_rfl) ((eo46 gl w d m es op pr inc).trans ?_)
    rw [Bool.and_eq_true] at hc
    rw [hc.1, hc.2, decide_eq_true (Nat.le_refl es.length)]
    rfl
  · simp at h
theorem fn11 : FnOk 11 Try.f11 := ⟨by kernel_rfl, by kernel_rfl, by kernel_rfl, by kernel_rfl⟩
theorem eo11v (gl : Gl) (w : Int) (d : Int) : evO (cxo gl (mkG [(29, F29)]) (mkO []) none [] rlT [23] []) noK noL 0 Try.f11 [.i .i64 w, .i .i64 d] [none, none, none, none, none, none, none, none] = (match (!(rulesV w d)) with | true => ao (.tup [.nilp, .i .i64 4]) [none, none, none, none, none, none, none, none] | false => ao (.tup [.ref 0 0, .i .i64 0]) [some (.cells 54 [.i .i64 w, .i .i64 d, .b true, .own 1, .own 2, .own 3]), some (.row .entry 89 ([])), some (.row .bool 4 ([])), some (.row .proved 102 ([])), none, none, none, none]) := by kernel_rfl
def FO11v : ObjF
  | [.i .i64 w, .i .i64 d], [none, none, none, none, none, none, none, none] => some ((rulesV w d), .tup [.ref 0 0, .i .i64 0], [some (.cells 54 [.i .i64 w, .i .i64 d, .b true, .own 1, .own 2, .own 3]), some (.row .entry 89 ([])), some (.row .bool 4 ([])), some (.row .proved 102 ([])), none, none, none, none])
  | _, _ => none
theorem so11v {gl : Gl} : OSum gl 11 FO11v := by
  intro ps os r os2 h
  unfold FO11v at h
  split at h
  · rename_i w d
    obtain ⟨hc, h2_⟩ := Prod.mk.inj (Option.some.inj h)
    obtain ⟨rfl, rfl⟩ := Prod.mk.inj h2_
    refine obj_by (K := noK) (L := noL) (bxs := [23]) (ows := []) (n0 := 0) (GOk.cons s29 (GOk.nil)) (OOk.nil) fn11 (noLoops (by kernel_rfl)) (by kernel_rfl) ((eo11v gl w d).trans ?_)
    rw [hc]
    rfl
  · simp at h
theorem eo11x (gl : Gl) (w : Int) (d : Int) : evO (cxo gl (mkG [(29, F29)]) (mkO []) none [] rlT [23] []) noK noL 0 Try.f11 [.i .i64 w, .i .i64 d] [none, none, none, none, none, none, none, none] = (match (!(rulesV w d)) with | true => ao (.tup [.nilp, .i .i64 4]) [none, none, none, none, none, none, none, none] | false => ao (.tup [.ref 0 0, .i .i64 0]) [some (.cells 54 [.i .i64 w, .i .i64 d, .b true, .own 1, .own 2, .own 3]), some (.row .entry 89 ([])), some (.row .bool 4 ([])), some (.row .proved 102 ([])), none, none, none, none]) := by kernel_rfl
def FO11x : ObjF
  | [.i .i64 w, .i .i64 d], [none, none, none, none, none, none, none, none] => some ((!(rulesV w d)), .tup [.nilp, .i .i64 4], [none, none, none, none, none, none, none, none])
  | _, _ => none
theorem so11x {gl : Gl} : OSum gl 11 FO11x := by
  intro ps os r os2 h
  unfold FO11x at h
  split at h
  · rename_i w d
    obtain ⟨hc, h2_⟩ := Prod.mk.inj (Option.some.inj h)
    obtain ⟨rfl, rfl⟩ := Prod.mk.inj h2_
    refine obj_by (K := noK) (L := noL) (bxs := [23]) (ows := []) (n0 := 0) (GOk.cons s29 (GOk.nil)) (OOk.nil) fn11 (noLoops (by kernel_rfl)) (by kernel_rfl) ((eo11x gl w d).trans ?_)
    rw [hc]
    rfl
  · simp at h
/-- What Close answers, in a book that is one. -/
def closeN (es : List Entry) (op : List Bool) (pr : List Proved) (inc : Int) : Int := bif !(within inc 0 (wr ((op.length : Int) - 1))) then -1 else bif !(atN .bool op (Int.toNat inc)) then -1 else bif decide (((missL es pr inc).length : Int) > 0) then atN .int (missL es pr inc) 0 else -1
def closeE (es : List Entry) (op : List Bool) (pr : List Proved) (inc : Int) : Int := bif !(within inc 0 (wr ((op.length : Int) - 1))) then 7 else bif !(atN .bool op (Int.toNat inc)) then 9 else bif decide (((missL es pr inc).length : Int) > 0) then 9 else 0
def closeO (es : List Entry) (op : List Bool) (pr : List Proved) (inc : Int) : List Bool := bif !(within inc 0 (wr ((op.length : Int) - 1))) then op else bif !(atN .bool op (Int.toNat inc)) then op else bif decide (((missL es pr inc).length : Int) > 0) then op else List.set op (Int.toNat inc) false
theorem inN_of {i n : Nat} (h : i < n) : inN i n = true := inN_nat h
theorem within_in {n : Int} {k : Nat} (hk : k ≤ 1000000) (h : within n 0 (wr ((k : Int) - 1)) = true) : inB n k = true ∧ inN (Int.toNat n) k = true := by
  rw [wr_small (by omega) (by omega), within_iff] at h
  refine ⟨?_, ?_⟩
  · unfold inB
    rw [Bool.and_eq_true, decide_eq_true_eq, decide_eq_true_eq]
    omega
  · exact inN_of (by omega)
theorem fn27 : FnOk 27 Try.f27 := ⟨by kernel_rfl, by kernel_rfl, by kernel_rfl, by kernel_rfl⟩
theorem eo27 (gl : Gl) (inc : Int) (w : Int) (d : Int) (m : Bool) (es : List Entry) (op : List Bool) (pr : List Proved) : evO (cxo gl (mkG [(41, F41J), (42, F42)]) (mkO [(46, 2, FO46)]) none [] rlT [] [14]) noK noL 4 Try.f27 [.ref 0 0, .i .i64 inc] [some (.cells 54 [.i .i64 w, .i .i64 d, .b m, .own 1, .own 2, .own 3]), some (.row .entry 89 es), some (.row .bool 4 op), some (.row .proved 102 pr), none, none, none, none] = (match (!m) with | true => ao (.tup [.i .i64 0, .i .i64 1]) [some (.cells 54 [.i .i64 w, .i .i64 d, .b m, .own 1, .own 2, .own 3]), some (.row .entry 89 es), some (.row .bool 4 op), some (.row .proved 102 pr), none, none, none, none] | false => (match (!(within inc 0 (wr ((op.length : Int) - 1)))) with | true => ao (.tup [.i .i64 (-1), .i .i64 7]) [some (.cells 54 [.i .i64 w, .i .i64 d, .b m, .own 1, .own 2, .own 3]), some (.row .entry 89 es), some (.row .bool 4 op), some (.row .proved 102 pr), none, none, none, none] | false => (match (inB inc op.length) with | true => (match (inN (Int.toNat inc) op.length) with | true => (match (!(atN .bool op (Int.toNat inc))) with | true => ao (.tup [.i .i64 (-1), .i .i64 9]) [some (.cells 54 [.i .i64 w, .i .i64 d, .b m, .own 1, .own 2, .own 3]), some (.row .entry 89 es), some (.row .bool 4 op), some (.row .proved 102 pr), none, none, none, none] | false => (match (decide (es.length ≤ 1000000) && prC es pr) with | true => (match (decide (((missL es pr inc).length : Int) > 0)) with | true => (match (inB 0 ((missL es pr inc).length)) with | true => (match (inN 0 ((missL es pr inc).length)) with | true => ao (.tup [.i .i64 (atN .int (missL es pr inc) 0), .i .i64 9]) [some (.cells 54 [.i .i64 w, .i .i64 d, .b m, .own 1, .own 2, .own 3]), some (.row .entry 89 es), some (.row .bool 4 op), some (.row .proved 102 pr), none, none, none, none] | false => none) | false => none) | false => (match (inB inc op.length) with | true => (match (inN (Int.toNat inc) op.length) with | true => ao (.tup [.i .i64 (-1), .i .i64 0]) [some (.cells 54 [.i .i64 w, .i .i64 d, .b m, .own 1, .own 2, .own 3]), some (.row .entry 89 es), some (.row .bool 4 (List.set op (Int.toNat inc) false)), some (.row .proved 102 pr), none, none, none, none] | false => none) | false => none)) | false => none)) | false => none) | false => none))) := by kernel_rfl
def FO27 : ObjF
  | [.ref 0 0, .i .i64 inc], [some (.cells 54 [.i .i64 w, .i .i64 d, .b m, .own 1, .own 2, .own 3]), some (.row .entry 89 es), some (.row .bool 4 op), some (.row .proved 102 pr), none, none, none, none] => some ((m && ((decide (es.length ≤ 1000000) && decide (op.length ≤ 1000000)) && prC es pr)), .tup [.i .i64 (closeN es op pr inc), .i .i64 (closeE es op pr inc)], [some (.cells 54 [.i .i64 w, .i .i64 d, .b m, .own 1, .own 2, .own 3]), some (.row .entry 89 es), some (.row .bool 4 (closeO es op pr inc)), some (.row .proved 102 pr), none, none, none, none])
  | _, _ => none
theorem so27 {gl : Gl} : OSum gl 27 FO27 := by
  intro ps os r os2 h
  unfold FO27 at h
  split at h
  · rename_i inc w d m es op pr
    obtain ⟨hc, h2_⟩ := Prod.mk.inj (Option.some.inj h)
    obtain ⟨rfl, rfl⟩ := Prod.mk.inj h2_
    refine obj_by (K := noK) (L := noL) (bxs := []) (ows := [14]) (n0 := 4) (GOk.cons s41J (GOk.cons s42 (GOk.nil))) (OOk.cons so46 (OOk.nil)) fn27 (noLoops (by kernel_rfl)) (by kernel_rfl) ((eo27 gl inc w d m es op pr).trans ?_)
    simp only [Bool.and_eq_true, decide_eq_true_eq] at hc
    obtain ⟨rfl, ⟨h1, h2⟩, h3⟩ := hc
    unfold closeN closeE closeO
    cases hw : within inc 0 (wr ((op.length : Int) - 1)) with
    | false => rfl
    | true =>
      obtain ⟨i1, i2⟩ := within_in h2 hw
      rw [i1, i2]
      cases ho : atN .bool op (Int.toNat inc) with
      | false => rfl
      | true =>
        rw [decide_eq_true h1, h3]
        cases hl : decide (((missL es pr inc).length : Int) > 0) with
        | true =>
          have hl' := of_decide_eq_true hl
          rw [show inB 0 (missL es pr inc).length = true from inB_nat (k := 0) (by omega), show inN 0 (missL es pr inc).length = true from inN_of (by omega)]
          rfl
        | false => rfl
  · simp at h
/-- What Take answers, in a book that is one. -/
def takeB (es : List Entry) (r : Report) : Bool := bif !(repOk r) then true else ((es.length : Int) == 500)
def takeN (es : List Entry) (op : List Bool) (r : Report) (w d : Int) : Int := bif takeB es r then 0 else placeI es op r w d
def takeY (es : List Entry) (op : List Bool) (r : Report) (w d : Int) : Int := bif takeB es r then 0 else placeY es op r w d
def takeE (es : List Entry) (r : Report) : Int := bif !(repOk r) then 2 else bif ((es.length : Int) == 500) then 6 else 0
def takeO (es : List Entry) (op : List Bool) (r : Report) (w d : Int) : List Bool := bif takeB es r then op else List.set (bif (placeI es op r w d == (op.length : Int)) then op ++ [true] else op) (Int.toNat (placeI es op r w d)) true
def takeS (es : List Entry) (op : List Bool) (r : Report) (w d : Int) : List Entry := bif takeB es r then es else es ++ [⟨r, placeI es op r w d⟩]
theorem mayL_lt (es : List Entry) (op : List Bool) (r : Report) (w d : Int) : ∀ k, ∀ x ∈ mayL es op r w d k, 0 ≤ x ∧ x < (k : Int)
  | 0 => fun x hx => by simp [mayL] at hx
  | k + 1 => by
    have ih := mayL_lt es op r w d k
    unfold mayL
    cases mayB es op r w d k with
    | true =>
      intro x hx
      rcases List.mem_append.1 hx with h | h
      · have := ih x h; omega
      · simp at h; omega
    | false =>
      intro x hx
      have := ih x hx
      omega
/-- Where a report is put lies inside, or just behind. -/
theorem place_in (es : List Entry) (op : List Bool) (r : Report) (w d : Int) : 0 ≤ placeI es op r w d ∧ placeI es op r w d ≤ (op.length : Int) := by
  unfold placeI
  split
  · rename_i i hi
    have := List.mem_of_find?_eq_some hi
    simp at this
    omega
  · split
    · rename_i i hi
      have := mayL_lt es op r w d op.length i (by rw [hi]; simp)
      omega
    · omega
theorem fn26 : FnOk 26 Try.f26 := ⟨by kernel_rfl, by kernel_rfl, by kernel_rfl, by kernel_rfl⟩
theorem eo26 (gl : Gl) (r : Report) (w : Int) (d : Int) (m : Bool) (es : List Entry) (op : List Bool) (pr : List Proved) : evO (cxo gl (mkG [(41, F41J), (47, F47), (51, F51), (45, F45)]) (mkO []) none [] rlT [] []) noK noL 4 Try.f26 [.ref 0 0, .agg [.i .i64 r.kind, .i .i64 r.time, .s r.source, .s r.about, .sl .spot r.wher, .i .i64 r.souls, .i .i64 r.trust]] [some (.cells 54 [.i .i64 w, .i .i64 d, .b m, .own 1, .own 2, .own 3]), some (.row .entry 89 es), some (.row .bool 4 op), some (.row .proved 102 pr), none, none, none, none] = (match (!m) with | true => ao (.tup [.i .i64 0, .i .i64 0, .i .i64 1]) [some (.cells 54 [.i .i64 w, .i .i64 d, .b m, .own 1, .own 2, .own 3]), some (.row .entry 89 es), some (.row .bool 4 op), some (.row .proved 102 pr), none, none, none, none] | false => (match (!(repOk r)) with | true => ao (.tup [.i .i64 0, .i .i64 0, .i .i64 2]) [some (.cells 54 [.i .i64 w, .i .i64 d, .b m, .own 1, .own 2, .own 3]), some (.row .entry 89 es), some (.row .bool 4 op), some (.row .proved 102 pr), none, none, none, none] | false => (match ((es.length : Int) == 500) with | true => ao (.tup [.i .i64 0, .i .i64 0, .i .i64 6]) [some (.cells 54 [.i .i64 w, .i .i64 d, .b m, .own 1, .own 2, .own 3]), some (.row .entry 89 es), some (.row .bool 4 op), some (.row .proved 102 pr), none, none, none, none] | false => (match ((decide (es.length ≤ 1000000) && List.all es (fun x => cmpOk x.r r w d)) && decide (op.length ≤ 1000000)) with | true => (match ((placeI es op r w d) == (op.length : Int)) with | true => (match (decide ((op.length + 1) * 1 ≤ 140737488355328)) with | true => (match (inB (placeI es op r w d) ((op ++ ([true] : List Bool)).length)) with | true => (match (inN (Int.toNat (placeI es op r w d)) ((op ++ ([true] : List Bool)).length)) with | true => (match (decide (r.wher.length ≤ 1000000)) with | true => (match (decide ((es.length + 1) * 96 ≤ 140737488355328)) with | true => ao (.tup [.i .i64 (placeI es op r w d), .i .i64 (placeY es op r w d), .i .i64 0]) [some (.cells 54 [.i .i64 w, .i .i64 d, .b m, .own 1, .own 2, .own 3]), some (.row .entry 89 (es ++ ([⟨r, (placeI es op r w d)⟩] : List Entry))), some (.row .bool 4 (List.set (op ++ ([true] : List Bool)) (Int.toNat (placeI es op r w d)) true)), some (.row .proved 102 pr), none, none, none, none] | false => none) | false => none) | false => none) | false => none) | false => none) | false => (match (inB (placeI es op r w d) op.length) with | true => (match (inN (Int.toNat (placeI es op r w d)) op.length) with | true => (match (decide (r.wher.length ≤ 1000000)) with | true => (match (decide ((es.length + 1) * 96 ≤ 140737488355328)) with | true => ao (.tup [.i .i64 (placeI es op r w d), .i .i64 (placeY es op r w d), .i .i64 0]) [some (.cells 54 [.i .i64 w, .i .i64 d, .b m, .own 1, .own 2, .own 3]), some (.row .entry 89 (es ++ ([⟨r, (placeI es op r w d)⟩] : List Entry))), some (.row .bool 4 (List.set op (Int.toNat (placeI es op r w d)) true)), some (.row .proved 102 pr), none, none, none, none] | false => none) | false => none) | false => none) | false => none)) | false => none)))) := by kernel_rfl
def FO26 : ObjF
  | [.ref 0 0, .agg rL], [some (.cells 54 [.i .i64 w, .i .i64 d, .b m, .own 1, .own 2, .own 3]), some (.row .entry 89 es), some (.row .bool 4 op), some (.row .proved 102 pr), none, none, none, none] => (ETy.dec .report rL).bind fun r => some ((m && ((decide (es.length ≤ 1000000) && decide (op.length ≤ 1000000)) && prC es pr) && (!(repOk r) || List.all es (fun x => cmpOk x.r r w d))), .tup [.i .i64 (takeN es op r w d), .i .i64 (takeY es op r w d), .i .i64 (takeE es r)], [some (.cells 54 [.i .i64 w, .i .i64 d, .b m, .own 1, .own 2, .own 3]), some (.row .entry 89 (takeS es op r w d)), some (.row .bool 4 (takeO es op r w d)), some (.row .proved 102 pr), none, none, none, none])
  | _, _ => none
theorem so26 {gl : Gl} : OSum gl 26 FO26 := by
  intro ps os r os2 h
  unfold FO26 at h
  split at h
  · rename_i rL w d m es op pr
    obtain ⟨r, hr, h_r⟩ := Option.bind_eq_some_iff.1 h
    obtain rfl := dec_is (by simp) hr
    obtain ⟨hc, h2_⟩ := Prod.mk.inj (Option.some.inj h_r)
    obtain ⟨rfl, rfl⟩ := Prod.mk.inj h2_
    refine obj_by (K := noK) (L := noL) (bxs := []) (ows := []) (n0 := 4) (GOk.cons s41J (GOk.cons s47 (GOk.cons s51 (GOk.cons s45 (GOk.nil))))) (OOk.nil) fn26 (noLoops (by kernel_rfl)) (by kernel_rfl) ((eo26 gl r w d m es op pr).trans ?_)
    simp only [Bool.and_eq_true, decide_eq_true_eq] at hc
    obtain ⟨⟨rfl, ⟨h1, h2⟩, h3⟩, h4⟩ := hc
    unfold takeN takeY takeE takeO takeS takeB
    cases hr : repOk r with
    | false => rfl
    | true =>
      cases hf : ((es.length : Int) == 500) with
      | true => rfl
      | false =>
        rw [hr] at h4
        have h4' : (List.all es fun x => cmpOk x.r r w d) = true := by simpa using h4
        have hp := place_in es op r w d
        have hl := (repP hr).area.n12
        rw [decide_eq_true h1, decide_eq_true h2, h4', decide_eq_true (show r.wher.length ≤ 1000000 by omega), decide_eq_true (show (es.length + 1) * 96 ≤ 140737488355328 by omega), decide_eq_true (show (op.length + 1) * 1 ≤ 140737488355328 by omega)]
        cases he : (placeI es op r w d == (op.length : Int)) with
        | true =>
          rw [show inB (placeI es op r w d) (op ++ ([true] : List Bool)).length = true by unfold inB; rw [Bool.and_eq_true, decide_eq_true_eq, decide_eq_true_eq, List.length_append]; simp; omega,
            show inN (Int.toNat (placeI es op r w d)) (op ++ ([true] : List Bool)).length = true from inN_of (by rw [List.length_append]; simp; omega)]
          rfl
        | false =>
          have hne : placeI es op r w d ≠ (op.length : Int) := fun h => by rw [h, beq_self_eq_true] at he; exact Bool.noConfusion he
          rw [show inB (placeI es op r w d) op.length = true by unfold inB; rw [Bool.and_eq_true, decide_eq_true_eq, decide_eq_true_eq]; omega,
            show inN (Int.toNat (placeI es op r w d)) op.length = true from inN_of (by omega)]
          rfl
  · simp at h
end Go.Proofs.Ytklgaodfakdjpaa.Ev
/- Summaries of functions, printed by a program out of a list, and what is made of them. -/
namespace Go.Proofs.Ytklgaodfakdjpaa.Ev
open Go Go.RowKit Go.Proofs
theorem fn52 : FnOk 52 Try.f52 := ⟨by kernel_rfl, by kernel_rfl, by kernel_rfl, by kernel_rfl⟩
def rightR (p : Proof) (r : Report) : Bool := bif (bif (bif (within p.kind 1 5) then (repOk (⟨2, p.time, p.by_, (⟨#[]⟩ : ByteArray), p.wher, p.count, 0⟩ : Report)) else false) then (decide (p.time ≥ r.time)) else false) then (decide (p.count ≥ 0)) else false
theorem e52 (gl : Gl) (p : Proof) (r : Report) : evFn (cx gl (mkG [(44, F44), (47, F47)]) [] []) noK noL Try.f52 [.agg [.i .i64 p.kind, .i .i64 p.report, .i .i64 p.time, .s p.by_, .sl .spot p.wher, .i .i64 p.count], .agg [.i .i64 r.kind, .i .i64 r.time, .s r.source, .s r.about, .sl .spot r.wher, .i .i64 r.souls, .i .i64 r.trust]] noObjs = an (.b (bif (bif (bif (within p.kind 1 5) then (repOk (⟨2, p.time, p.by_, (⟨#[]⟩ : ByteArray), p.wher, p.count, 0⟩ : Report)) else false) then (decide (p.time ≥ r.time)) else false) then (decide (p.count ≥ 0)) else false)) := by kernel_rfl
def F52 : List PV → Option (Bool × PV)
  | [.agg pL, .agg rL] => (ETy.dec .proof pL).bind fun p => (ETy.dec .report rL).bind fun r => some (true, .b (rightR p r))
  | _ => none
theorem s52 {gl : Gl} : Sum gl 52 F52 := by
  intro ps r h
  unfold F52 at h
  split at h
  · rename_i pL rL
    obtain ⟨p, hp, h_p⟩ := Option.bind_eq_some_iff.1 h
    obtain rfl := dec_is (by simp) hp
    obtain ⟨r, hr, h_r⟩ := Option.bind_eq_some_iff.1 h_p
    obtain rfl := dec_is (by simp) hr
    obtain ⟨hc, rfl⟩ := Prod.mk.inj (Option.some.inj h_r)
    refine call_by (K := noK) (L := noL) (bxs := []) (ows := []) (GOk.cons s44 (GOk.cons s47 (GOk.nil))) fn52 (noLoops (by kernel_rfl)) (by kernel_rfl) (evF_some ((e52 gl p r).trans ?_))
    try unfold rightR
    rfl
  · simp at h
theorem fn119 : FnOk 119 Try.f119 := ⟨by kernel_rfl, by kernel_rfl, by kernel_rfl, by kernel_rfl⟩
def fit1 (c : Int) (r : Report) : Bool := enoughR c r
theorem e119 (gl : Gl) (c : Int) (w : Int) (d : Int) (r : Report) : evFn (cx gl (mkG [(81, F81)]) [] []) noK noL Try.f119 [.agg [.i .i64 c], .agg [.i .i64 w, .i .i64 d], .agg [.i .i64 r.kind, .i .i64 r.time, .s r.source, .s r.about, .sl .spot r.wher, .i .i64 r.souls, .i .i64 r.trust]] noObjs = an (.b (enoughR c r)) := by kernel_rfl
def F119 : List PV → Option (Bool × PV)
  | [.agg [.i .i64 c], .agg [.i .i64 w, .i .i64 d], .agg rL] => (ETy.dec .report rL).bind fun r => some (true, .b (fit1 c r))
  | _ => none
theorem s119 {gl : Gl} : Sum gl 119 F119 := by
  intro ps r h
  unfold F119 at h
  split at h
  · rename_i c w d rL
    obtain ⟨r, hr, h_r⟩ := Option.bind_eq_some_iff.1 h
    obtain rfl := dec_is (by simp) hr
    obtain ⟨hc, rfl⟩ := Prod.mk.inj (Option.some.inj h_r)
    refine call_by (K := noK) (L := noL) (bxs := []) (ows := []) (GOk.cons s81 (GOk.nil)) fn119 (noLoops (by kernel_rfl)) (by kernel_rfl) (evF_some ((e119 gl c w d r).trans ?_))
    try unfold fit1
    rfl
  · simp at h
theorem fn120 : FnOk 120 Try.f120 := ⟨by kernel_rfl, by kernel_rfl, by kernel_rfl, by kernel_rfl⟩
def fit2 (b : ByteArray) (r : Report) : Bool := bif (r.kind == 1) then (r.about.toList == b.toList) else false
theorem e120 (gl : Gl) (b : ByteArray) (w : Int) (d : Int) (r : Report) : evFn (cx gl (mkG []) [] []) noK noL Try.f120 [.agg [.s b], .agg [.i .i64 w, .i .i64 d], .agg [.i .i64 r.kind, .i .i64 r.time, .s r.source, .s r.about, .sl .spot r.wher, .i .i64 r.souls, .i .i64 r.trust]] noObjs = an (.b (bif (r.kind == 1) then (r.about.toList == b.toList) else false)) := by kernel_rfl
def F120 : List PV → Option (Bool × PV)
  | [.agg [.s b], .agg [.i .i64 w, .i .i64 d], .agg rL] => (ETy.dec .report rL).bind fun r => some (true, .b (fit2 b r))
  | _ => none
theorem s120 {gl : Gl} : Sum gl 120 F120 := by
  intro ps r h
  unfold F120 at h
  split at h
  · rename_i b w d rL
    obtain ⟨r, hr, h_r⟩ := Option.bind_eq_some_iff.1 h
    obtain rfl := dec_is (by simp) hr
    obtain ⟨hc, rfl⟩ := Prod.mk.inj (Option.some.inj h_r)
    refine call_by (K := noK) (L := noL) (bxs := []) (ows := []) (GOk.nil) fn120 (noLoops (by kernel_rfl)) (by kernel_rfl) (evF_some ((e120 gl b w d r).trans ?_))
    try unfold fit2
    rfl
  · simp at h
theorem fn121 : FnOk 121 Try.f121 := ⟨by kernel_rfl, by kernel_rfl, by kernel_rfl, by kernel_rfl⟩
def fit3 (b : ByteArray) (r : Report) : Bool := bif (bif (r.kind == 4) then (!(r.about.toList == (⟨#[]⟩ : ByteArray).toList)) else false) then (!(r.source.toList == b.toList)) else false
theorem e121 (gl : Gl) (b : ByteArray) (w : Int) (d : Int) (r : Report) : evFn (cx gl (mkG []) [] []) noK noL Try.f121 [.agg [.s b], .agg [.i .i64 w, .i .i64 d], .agg [.i .i64 r.kind, .i .i64 r.time, .s r.source, .s r.about, .sl .spot r.wher, .i .i64 r.souls, .i .i64 r.trust]] noObjs = an (.b (bif (bif (r.kind == 4) then (!(r.about.toList == (⟨#[]⟩ : ByteArray).toList)) else false) then (!(r.source.toList == b.toList)) else false)) := by kernel_rfl
def F121 : List PV → Option (Bool × PV)
  | [.agg [.s b], .agg [.i .i64 w, .i .i64 d], .agg rL] => (ETy.dec .report rL).bind fun r => some (true, .b (fit3 b r))
  | _ => none
theorem s121 {gl : Gl} : Sum gl 121 F121 := by
  intro ps r h
  unfold F121 at h
  split at h
  · rename_i b w d rL
    obtain ⟨r, hr, h_r⟩ := Option.bind_eq_some_iff.1 h
    obtain rfl := dec_is (by simp) hr
    obtain ⟨hc, rfl⟩ := Prod.mk.inj (Option.some.inj h_r)
    refine call_by (K := noK) (L := noL) (bxs := []) (ows := []) (GOk.nil) fn121 (noLoops (by kernel_rfl)) (by kernel_rfl) (evF_some ((e121 gl b w d r).trans ?_))
    try unfold fit3
    rfl
  · simp at h
theorem fn122 : FnOk 122 Try.f122 := ⟨by kernel_rfl, by kernel_rfl, by kernel_rfl, by kernel_rfl⟩
def fit4 (b : ByteArray) (r : Report) : Bool := bif (bif (r.kind == 2) then true else (r.kind == 3)) then (r.source.toList == b.toList) else false
theorem e122 (gl : Gl) (b : ByteArray) (w : Int) (d : Int) (r : Report) : evFn (cx gl (mkG []) [] []) noK noL Try.f122 [.agg [.s b], .agg [.i .i64 w, .i .i64 d], .agg [.i .i64 r.kind, .i .i64 r.time, .s r.source, .s r.about, .sl .spot r.wher, .i .i64 r.souls, .i .i64 r.trust]] noObjs = an (.b (bif (bif (r.kind == 2) then true else (r.kind == 3)) then (r.source.toList == b.toList) else false)) := by kernel_rfl
def F122 : List PV → Option (Bool × PV)
  | [.agg [.s b], .agg [.i .i64 w, .i .i64 d], .agg rL] => (ETy.dec .report rL).bind fun r => some (true, .b (fit4 b r))
  | _ => none
theorem s122 {gl : Gl} : Sum gl 122 F122 := by
  intro ps r h
  unfold F122 at h
  split at h
  · rename_i b w d rL
    obtain ⟨r, hr, h_r⟩ := Option.bind_eq_some_iff.1 h
    obtain rfl := dec_is (by simp) hr
    obtain ⟨hc, rfl⟩ := Prod.mk.inj (Option.some.inj h_r)
    refine call_by (K := noK) (L := noL) (bxs := []) (ows := []) (GOk.nil) fn122 (noLoops (by kernel_rfl)) (by kernel_rfl) (evF_some ((e122 gl b w d r).trans ?_))
    try unfold fit4
    rfl
  · simp at h
theorem fn123 : FnOk 123 Try.f123 := ⟨by kernel_rfl, by kernel_rfl, by kernel_rfl, by kernel_rfl⟩
def fit5 (l : List Spot) (t : Int) (w : Int) (r : Report) : Bool := bif (bif (r.kind == 3) then (meetV r.wher l 0) else false) then (decide ((distV r.time t) ≤ w)) else false
def c123 (l : List Spot) (r : Report) : Bool := (c95 r.wher l) || ((!(r.kind == 3)) || false)
theorem e123 (gl : Gl) (l : List Spot) (t : Int) (w : Int) (d : Int) (r : Report) : evFn (cx gl (mkG [(95, F95), (93, F93)]) [] []) noK noL Try.f123 [.agg [.sl .spot l, .i .i64 t], .agg [.i .i64 w, .i .i64 d], .agg [.i .i64 r.kind, .i .i64 r.time, .s r.source, .s r.about, .sl .spot r.wher, .i .i64 r.souls, .i .i64 r.trust]] noObjs = (match ((c95 r.wher l) || ((!(r.kind == 3)) || false)) with | true => an (.b (bif (bif (r.kind == 3) then (meetV r.wher l 0) else false) then (decide ((distV r.time t) ≤ w)) else false)) | false => none) := by kernel_rfl
def F123 : List PV → Option (Bool × PV)
  | [.agg [.sl .spot l, .i .i64 t], .agg [.i .i64 w, .i .i64 d], .agg rL] => (ETy.dec .report rL).bind fun r => some ((c123 l r), .b (fit5 l t w r))
  | _ => none
theorem s123 {gl : Gl} : Sum gl 123 F123 := by
  intro ps r h
  unfold F123 at h
  split at h
  · rename_i l t w d rL
    obtain ⟨r, hr, h_r⟩ := Option.bind_eq_some_iff.1 h
    obtain rfl := dec_is (by simp) hr
    obtain ⟨hc, rfl⟩ := Prod.mk.inj (Option.some.inj h_r)
    refine call_by (K := noK) (L := noL) (bxs := []) (ows := []) (GOk.cons s95 (GOk.cons s93 (GOk.nil))) fn123 (noLoops (by kernel_rfl)) (by kernel_rfl) (evF_some ((e123 gl l t w d r).trans ?_))
    try unfold fit5 at hc
    try unfold c123 at hc
    try unfold fit5
    try unfold c123
    revert hc
    generalize (((c95 r.wher l) || ((!(r.kind == 3)) || false))) = b_
    cases b_
    · intro hc
      exact Bool.noConfusion (show false = true from hc)
    · intro hc
      rfl
  · simp at h
/-- What is kept of a proof. -/
def madeR (p : Proof) : PrV := bif (p.kind == 1) then .found p.count else bif (p.kind == 2) then .owner p.by_ else bif (p.kind == 3) then .arrived p.by_ else bif (p.kind == 4) then .withdrawn p.by_ else .exercise
def fitR (p : Proof) (w : Int) (r : Report) : Bool := bif (p.kind == 1) then fit1 p.count r else bif (p.kind == 2) then fit2 p.by_ r else bif (p.kind == 3) then fit3 p.by_ r else bif (p.kind == 4) then fit4 p.by_ r else fit5 p.wher p.time w r
def badPr (p : Proof) (w : Int) (r : Report) : Bool := bif (bif (p.kind == 1) then false else (p.count != 0)) then true else !(fitR p w r)
/-- What Prove answers, in a book that is one. -/
def provE (es : List Entry) (pr : List Proved) (w : Int) (p : Proof) : Int := bif !(within p.report 0 (wr ((es.length : Int) - 1))) then 7 else bif !(rightR p ((atN .entry es (Int.toNat p.report)).r)) then 2 else bif badPr p w ((atN .entry es (Int.toNat p.report)).r) then 2 else bif ((pr.length : Int) == 500) then 6 else 0
def provS (es : List Entry) (pr : List Proved) (w : Int) (p : Proof) : List Proved := bif !(within p.report 0 (wr ((es.length : Int) - 1))) then pr else bif !(rightR p ((atN .entry es (Int.toNat p.report)).r)) then pr else bif badPr p w ((atN .entry es (Int.toNat p.report)).r) then pr else bif ((pr.length : Int) == 500) then pr else pr ++ [⟨p.report, p.time, madeR p⟩]
theorem prC_len {es : List Entry} {pr : List Proved} (h : prC es pr = true) : pr.length ≤ 1000000 := by
  unfold prC at h
  rw [Bool.and_eq_true, decide_eq_true_eq] at h
  exact h.1
theorem right_area {p : Proof} {r : Report} (h : rightR p r = true) : AreaP p.wher := by
  unfold rightR at h
  simp only [bif_f, Bool.and_eq_true] at h
  exact (repP h.1.1.2).area
theorem c95_ok {a b : List Spot} (ha : AreaP a) (hb : AreaP b) : c95 a b = true := by
  have := ha.n1
  have := ha.n12
  have := hb.n1
  have := hb.n12
  unfold c95
  rw [decide_eq_true (show 1 ≤ a.length by omega), decide_eq_true (show a.length ≤ 1000000 by omega), decide_eq_true (show 1 ≤ b.length by omega), decide_eq_true (show b.length ≤ 1000000 by omega)]
  rfl
theorem at_ok {es : List Entry} (h : List.all es (fun x => repOk x.r) = true) {n : Nat} (hn : inN n es.length = true) : repOk (atN .entry es n).r = true := by
  have hl : n < es.length := Nat.le_of_ble_eq_true hn
  have := List.all_eq_true.1 h (es[n]) (List.getElem_mem hl)
  rw [atN_nat (T := .entry) hl]
  exact this
theorem fn53 : FnOk 53 Try.f53 := ⟨by kernel_rfl, by kernel_rfl, by kernel_rfl, by kernel_rfl⟩
theorem e53a (gl : Gl) (p : Proof) : evFn (cx gl (mkG []) [] []) noK noL Try.f53 [.agg [.i .i64 p.kind, .i .i64 p.report, .i .i64 p.time, .s p.by_, .sl .spot p.wher, .i .i64 p.count]] noObjs = (match (p.kind == 1) with | true => an (.iface 99 (.agg [.i .i64 p.count])) | false => (match (p.kind == 2) with | true => an (.iface 122 (.agg [.s p.by_])) | false => (match (p.kind == 3) with | true => an (.iface 123 (.agg [.s p.by_])) | false => (match (p.kind == 4) with | true => an (.iface 124 (.agg [.s p.by_])) | false => an (.iface 126 (.agg [.sl .spot p.wher, .i .i64 p.time])))))) := by kernel_rfl
def F53a : List PV → Option (Bool × PV)
  | [.agg pL] => (ETy.dec .proof pL).bind fun p => some ((p.kind == 1), .iface 99 (.agg [.i .i64 p.count]))
  | _ => none
theorem s53a {gl : Gl} : Sum gl 53 F53a := by
  intro ps r h
  unfold F53a at h
  split at h
  · rename_i pL
    obtain ⟨p, hp, h_p⟩ := Option.bind_eq_some_iff.1 h
    obtain rfl := dec_is (by simp) hp
    obtain ⟨hc, rfl⟩ := Prod.mk.inj (Option.some.inj h_p)
    refine call_by (K := noK) (L := noL) (bxs := []) (ows := []) (GOk.nil) fn53 (noLoops (by kernel_rfl)) (by kernel_rfl) (evF_some ((e53a gl p).trans ?_))
    try simp only [Bool.and_eq_true, Bool.not_eq_true'] at hc
    rw [hc]
    rfl
  · simp at h
theorem fn28 : FnOk 28 Try.f28 := ⟨by kernel_rfl, by kernel_rfl, by kernel_rfl, by kernel_rfl⟩
theorem eo28a (gl : Gl) (p : Proof) (w : Int) (d : Int) (m : Bool) (es : List Entry) (op : List Bool) (pr : List Proved) : evO (cxo gl (mkG [(41, F41J), (44, F44), (52, F52), (53, F53a), (119, F119)]) (mkO []) none [] rlT [11, 13] []) noK noL 4 Try.f28 [.ref 0 0, .agg [.i .i64 p.kind, .i .i64 p.report, .i .i64 p.time, .s p.by_, .sl .spot p.wher, .i .i64 p.count]] [some (.cells 54 [.i .i64 w, .i .i64 d, .b m, .own 1, .own 2, .own 3]), some (.row .entry 89 es), some (.row .bool 4 op), some (.row .proved 102 pr), none, none, none, none] = (match (!m) with | true => ao (.i .i64 1) [some (.cells 54 [.i .i64 w, .i .i64 d, .b m, .own 1, .own 2, .own 3]), some (.row .entry 89 es), some (.row .bool 4 op), some (.row .proved 102 pr), none, none, none, none] | false => (match (!(within p.report 0 (wr ((es.length : Int) - 1)))) with | true => ao (.i .i64 7) [some (.cells 54 [.i .i64 w, .i .i64 d, .b m, .own 1, .own 2, .own 3]), some (.row .entry 89 es), some (.row .bool 4 op), some (.row .proved 102 pr), none, none, none, none] | false => (match (inB p.report es.length) with | true => (match (inN (Int.toNat p.report) es.length) with | true => (match (!(rightR p ((atN .entry es (Int.toNat p.report)).r))) with | true => ao (.i .i64 2) [some (.cells 54 [.i .i64 w, .i .i64 d, .b m, .own 1, .own 2, .own 3]), some (.row .entry 89 es), some (.row .bool 4 op), some (.row .proved 102 pr), none, none, none, none] | false => (match (p.kind == 1) with | true => (match (!(fit1 p.count ((atN .entry es (Int.toNat p.report)).r))) with | true => ao (.i .i64 2) [some (.cells 54 [.i .i64 w, .i .i64 d, .b m, .own 1, .own 2, .own 3]), some (.row .entry 89 es), some (.row .bool 4 op), some (.row .proved 102 pr), none, none, none, none] | false => (match ((pr.length : Int) == 500) with | true => ao (.i .i64 6) [some (.cells 54 [.i .i64 w, .i .i64 d, .b m, .own 1, .own 2, .own 3]), some (.row .entry 89 es), some (.row .bool 4 op), some (.row .proved 102 pr), none, none, none, none] | false => (match (decide ((pr.length + 1) * 32 ≤ 140737488355328)) with | true => ao (.i .i64 0) [some (.cells 54 [.i .i64 w, .i .i64 d, .b m, .own 1, .own 2, .own 3]), some (.row .entry 89 es), some (.row .bool 4 op), some (.row .proved 102 (pr ++ ([⟨p.report, p.time, .found p.count⟩] : List Proved))), none, none, none, none] | false => none))) | false => none)) | false => none) | false => none))) := by kernel_rfl
def FO28a : ObjF
  | [.ref 0 0, .agg pL], [some (.cells 54 [.i .i64 w, .i .i64 d, .b m, .own 1, .own 2, .own 3]), some (.row .entry 89 es), some (.row .bool 4 op), some (.row .proved 102 pr), none, none, none, none] => (ETy.dec .proof pL).bind fun p => some (((p.kind == 1) && (m && ((decide (es.length ≤ 1000000) && decide (op.length ≤ 1000000)) && prC es pr) && List.all es (fun x => repOk x.r))), .i .i64 (provE es pr w p), [some (.cells 54 [.i .i64 w, .i .i64 d, .b m, .own 1, .own 2, .own 3]), some (.row .entry 89 es), some (.row .bool 4 op), some (.row .proved 102 (provS es pr w p)), none, none, none, none])
  | _, _ => none
theorem so28a {gl : Gl} : OSum gl 28 FO28a := by
  intro ps os r os2 h
  unfold FO28a at h
  split at h
  · rename_i pL w d m es op pr
    obtain ⟨p, hp, h_p⟩ := Option.bind_eq_some_iff.1 h
    obtain rfl := dec_is (by simp) hp
    obtain ⟨hc, h2_⟩ := Prod.mk.inj (Option.some.inj h_p)
    obtain ⟨rfl, rfl⟩ := Prod.mk.inj h2_
    refine obj_by (K := noK) (L := noL) (bxs := [11, 13]) (ows := []) (n0 := 4) (GOk.cons s41J (GOk.cons s44 (GOk.cons s52 (GOk.cons s53a (GOk.cons s119 (GOk.nil)))))) (OOk.nil) fn28 (noLoops (by kernel_rfl)) (by kernel_rfl) ((eo28a gl p w d m es op pr).trans ?_)
    simp only [Bool.and_eq_true, decide_eq_true_eq, Bool.not_eq_true'] at hc
    obtain ⟨k0, ⟨rfl, ⟨h1, h2⟩, h3⟩, h4⟩ := hc
    have hl3 := prC_len h3
    unfold provE provS badPr fitR madeR
    simp only [k0]
    cases hw : within p.report 0 (wr ((es.length : Int) - 1)) with
    | false => rfl
    | true =>
      obtain ⟨i1, i2⟩ := within_in h1 hw
      rw [i1, i2]
      cases hr : rightR p ((atN .entry es (Int.toNat p.report)).r) with
      | false => rfl
      | true =>
        have hcc : c123 p.wher ((atN .entry es (Int.toNat p.report)).r) = true := by
          unfold c123
          rw [c95_ok (repP (at_ok h4 i2)).area (right_area hr)]
          rfl
        have hd : decide ((pr.length + 1) * 32 ≤ 140737488355328) = true := decide_eq_true (by omega)
        simp only [hcc, hd]
        cases hc0 : (p.count != 0) <;> cases hf : fit1 p.count ((atN .entry es (Int.toNat p.report)).r) <;> cases h5 : ((pr.length : Int) == 500) <;> rfl
  · simp at h
theorem e53b (gl : Gl) (p : Proof) : evFn (cx gl (mkG []) [] []) noK noL Try.f53 [.agg [.i .i64 p.kind, .i .i64 p.report, .i .i64 p.time, .s p.by_, .sl .spot p.wher, .i .i64 p.count]] noObjs = (match (p.kind == 1) with | true => an (.iface 99 (.agg [.i .i64 p.count])) | false => (match (p.kind == 2) with | true => an (.iface 122 (.agg [.s p.by_])) | false => (match (p.kind == 3) with | true => an (.iface 123 (.agg [.s p.by_])) | false => (match (p.kind == 4) with | true => an (.iface 124 (.agg [.s p.by_])) | false => an (.iface 126 (.agg [.sl .spot p.wher, .i .i64 p.time])))))) := by kernel_rfl
def F53b : List PV → Option (Bool × PV)
  | [.agg pL] => (ETy.dec .proof pL).bind fun p => some (((!(p.kind == 1)) && (p.kind == 2)), .iface 122 (.agg [.s p.by_]))
  | _ => none
theorem s53b {gl : Gl} : Sum gl 53 F53b := by
  intro ps r h
  unfold F53b at h
  split at h
  · rename_i pL
    obtain ⟨p, hp, h_p⟩ := Option.bind_eq_some_iff.1 h
    obtain rfl := dec_is (by simp) hp
    obtain ⟨hc, rfl⟩ := Prod.mk.inj (Option.some.inj h_p)
    refine call_by (K := noK) (L := noL) (bxs := []) (ows := []) (GOk.nil) fn53 (noLoops (by kernel_rfl)) (by kernel_rfl) (evF_some ((e53b gl p).trans ?_))
    try simp only [Bool.and_eq_true, Bool.not_eq_true'] at hc
    obtain ⟨k0, k1⟩ := hc
    rw [k0, k1]
    rfl
  · simp at h
theorem eo28b (gl : Gl) (p : Proof) (w : Int) (d : Int) (m : Bool) (es : List Entry) (op : List Bool) (pr : List Proved) : evO (cxo gl (mkG [(41, F41J), (44, F44), (52, F52), (53, F53b), (120, F120)]) (mkO []) none [] rlT [11, 13] []) noK noL 4 Try.f28 [.ref 0 0, .agg [.i .i64 p.kind, .i .i64 p.report, .i .i64 p.time, .s p.by_, .sl .spot p.wher, .i .i64 p.count]] [some (.cells 54 [.i .i64 w, .i .i64 d, .b m, .own 1, .own 2, .own 3]), some (.row .entry 89 es), some (.row .bool 4 op), some (.row .proved 102 pr), none, none, none, none] = (match (!m) with | true => ao (.i .i64 1) [some (.cells 54 [.i .i64 w, .i .i64 d, .b m, .own 1, .own 2, .own 3]), some (.row .entry 89 es), some (.row .bool 4 op), some (.row .proved 102 pr), none, none, none, none] | false => (match (!(within p.report 0 (wr ((es.length : Int) - 1)))) with | true => ao (.i .i64 7) [some (.cells 54 [.i .i64 w, .i .i64 d, .b m, .own 1, .own 2, .own 3]), some (.row .entry 89 es), some (.row .bool 4 op), some (.row .proved 102 pr), none, none, none, none] | false => (match (inB p.report es.length) with | true => (match (inN (Int.toNat p.report) es.length) with | true => (match (!(rightR p ((atN .entry es (Int.toNat p.report)).r))) with | true => ao (.i .i64 2) [some (.cells 54 [.i .i64 w, .i .i64 d, .b m, .own 1, .own 2, .own 3]), some (.row .entry 89 es), some (.row .bool 4 op), some (.row .proved 102 pr), none, none, none, none] | false => (match ((!(p.kind == 1)) && (p.kind == 2)) with | true => (match (p.count != 0) with | true => ao (.i .i64 2) [some (.cells 54 [.i .i64 w, .i .i64 d, .b m, .own 1, .own 2, .own 3]), some (.row .entry 89 es), some (.row .bool 4 op), some (.row .proved 102 pr), none, none, none, none] | false => (match (!(fit2 p.by_ ((atN .entry es (Int.toNat p.report)).r))) with | true => ao (.i .i64 2) [some (.cells 54 [.i .i64 w, .i .i64 d, .b m, .own 1, .own 2, .own 3]), some (.row .entry 89 es), some (.row .bool 4 op), some (.row .proved 102 pr), none, none, none, none] | false => (match ((pr.length : Int) == 500) with | true => ao (.i .i64 6) [some (.cells 54 [.i .i64 w, .i .i64 d, .b m, .own 1, .own 2, .own 3]), some (.row .entry 89 es), some (.row .bool 4 op), some (.row .proved 102 pr), none, none, none, none] | false => (match (decide ((pr.length + 1) * 32 ≤ 140737488355328)) with | true => ao (.i .i64 0) [some (.cells 54 [.i .i64 w, .i .i64 d, .b m, .own 1, .own 2, .own 3]), some (.row .entry 89 es), some (.row .bool 4 op), some (.row .proved 102 (pr ++ ([⟨p.report, p.time, .owner p.by_⟩] : List Proved))), none, none, none, none] | false => none)))) | false => none)) | false => none) | false => none))) := by kernel_rfl
def FO28b : ObjF
  | [.ref 0 0, .agg pL], [some (.cells 54 [.i .i64 w, .i .i64 d, .b m, .own 1, .own 2, .own 3]), some (.row .entry 89 es), some (.row .bool 4 op), some (.row .proved 102 pr), none, none, none, none] => (ETy.dec .proof pL).bind fun p => some ((((!(p.kind == 1)) && (p.kind == 2)) && (m && ((decide (es.length ≤ 1000000) && decide (op.length ≤ 1000000)) && prC es pr) && List.all es (fun x => repOk x.r))), .i .i64 (provE es pr w p), [some (.cells 54 [.i .i64 w, .i .i64 d, .b m, .own 1, .own 2, .own 3]), some (.row .entry 89 es), some (.row .bool 4 op), some (.row .proved 102 (provS es pr w p)), none, none, none, none])
  | _, _ => none
theorem so28b {gl : Gl} : OSum gl 28 FO28b := by
  intro ps os r os2 h
  unfold FO28b at h
  split at h
  · rename_i pL w d m es op pr
    obtain ⟨p, hp, h_p⟩ := Option.bind_eq_some_iff.1 h
    obtain rfl := dec_is (by simp) hp
    obtain ⟨hc, h2_⟩ := Prod.mk.inj (Option.some.inj h_p)
    obtain ⟨rfl, rfl⟩ := Prod.mk.inj h2_
    refine obj_by (K := noK) (L := noL) (bxs := [11, 13]) (ows := []) (n0 := 4) (GOk.cons s41J (GOk.cons s44 (GOk.cons s52 (GOk.cons s53b (GOk.cons s120 (GOk.nil)))))) (OOk.nil) fn28 (noLoops (by kernel_rfl)) (by kernel_rfl) ((eo28b gl p w d m es op pr).trans ?_)
    simp only [Bool.and_eq_true, decide_eq_true_eq, Bool.not_eq_true'] at hc
    obtain ⟨⟨k0, k1⟩, ⟨rfl, ⟨h1, h2⟩, h3⟩, h4⟩ := hc
    have hl3 := prC_len h3
    unfold provE provS badPr fitR madeR
    simp only [k0, k1]
    cases hw : within p.report 0 (wr ((es.length : Int) - 1)) with
    | false => rfl
    | true =>
      obtain ⟨i1, i2⟩ := within_in h1 hw
      rw [i1, i2]
      cases hr : rightR p ((atN .entry es (Int.toNat p.report)).r) with
      | false => rfl
      | true =>
        have hcc : c123 p.wher ((atN .entry es (Int.toNat p.report)).r) = true := by
          unfold c123
          rw [c95_ok (repP (at_ok h4 i2)).area (right_area hr)]
          rfl
        have hd : decide ((pr.length + 1) * 32 ≤ 140737488355328) = true := decide_eq_true (by omega)
        simp only [hcc, hd]
        cases hc0 : (p.count != 0) <;> cases hf : fit2 p.by_ ((atN .entry es (Int.toNat p.report)).r) <;> cases h5 : ((pr.length : Int) == 500) <;> rfl
  · simp at h
theorem e53c (gl : Gl) (p : Proof) : evFn (cx gl (mkG []) [] []) noK noL Try.f53 [.agg [.i .i64 p.kind, .i .i64 p.report, .i .i64 p.time, .s p.by_, .sl .spot p.wher, .i .i64 p.count]] noObjs = (match (p.kind == 1) with | true => an (.iface 99 (.agg [.i .i64 p.count])) | false => (match (p.kind == 2) with | true => an (.iface 122 (.agg [.s p.by_])) | false => (match (p.kind == 3) with | true => an (.iface 123 (.agg [.s p.by_])) | false => (match (p.kind == 4) with | true => an (.iface 124 (.agg [.s p.by_])) | false => an (.iface 126 (.agg [.sl .spot p.wher, .i .i64 p.time])))))) := by kernel_rfl
def F53c : List PV → Option (Bool × PV)
  | [.agg pL] => (ETy.dec .proof pL).bind fun p => some (((!(p.kind == 1)) && ((!(p.kind == 2)) && (p.kind == 3))), .iface 123 (.agg [.s p.by_]))
  | _ => none
theorem s53c {gl : Gl} : Sum gl 53 F53c := by
  intro ps r h
  unfold F53c at h
  split at h
  · rename_i pL
    obtain ⟨p, hp, h_p⟩ := Option.bind_eq_some_iff.1 h
    obtain rfl := dec_is (by simp) hp
    obtain ⟨hc, rfl⟩ := Prod.mk.inj (Option.some.inj h_p)
    refine call_by (K := noK) (L := noL) (bxs := []) (ows := []) (GOk.nil) fn53 (noLoops (by kernel_rfl)) (by kernel_rfl) (evF_some ((e53c gl p).trans ?_))
    try simp only [Bool.and_eq_true, Bool.not_eq_true'] at hc
    obtain ⟨k0, k1, k2⟩ := hc
    rw [k0, k1, k2]
    rfl
  · simp at h
theorem eo28c (gl : Gl) (p : Proof) (w : Int) (d : Int) (m : Bool) (es : List Entry) (op : List Bool) (pr : List Proved) : evO (cxo gl (mkG [(41, F41J), (44, F44), (52, F52), (53, F53c), (121, F121)]) (mkO []) none [] rlT [11, 13] []) noK noL 4 Try.f28 [.ref 0 0, .agg [.i .i64 p.kind, .i .i64 p.report, .i .i64 p.time, .s p.by_, .sl .spot p.wher, .i .i64 p.count]] [some (.cells 54 [.i .i64 w, .i .i64 d, .b m, .own 1, .own 2, .own 3]), some (.row .entry 89 es), some (.row .bool 4 op), some (.row .proved 102 pr), none, none, none, none] = (match (!m) with | true => ao (.i .i64 1) [some (.cells 54 [.i .i64 w, .i .i64 d, .b m, .own 1, .own 2, .own 3]), some (.row .entry 89 es), some (.row .bool 4 op), some (.row .proved 102 pr), none, none, none, none] | false => (match (!(within p.report 0 (wr ((es.length : Int) - 1)))) with | true => ao (.i .i64 7) [some (.cells 54 [.i .i64 w, .i .i64 d, .b m, .own 1, .own 2, .own 3]), some (.row .entry 89 es), some (.row .bool 4 op), some (.row .proved 102 pr), none, none, none, none] | false => (match (inB p.report es.length) with | true => (match (inN (Int.toNat p.report) es.length) with | true => (match (!(rightR p ((atN .entry es (Int.toNat p.report)).r))) with | true => ao (.i .i64 2) [some (.cells 54 [.i .i64 w, .i .i64 d, .b m, .own 1, .own 2, .own 3]), some (.row .entry 89 es), some (.row .bool 4 op), some (.row .proved 102 pr), none, none, none, none] | false => (match ((!(p.kind == 1)) && ((!(p.kind == 2)) && (p.kind == 3))) with | true => (match (p.count != 0) with | true => ao (.i .i64 2) [some (.cells 54 [.i .i64 w, .i .i64 d, .b m, .own 1, .own 2, .own 3]), some (.row .entry 89 es), some (.row .bool 4 op), some (.row .proved 102 pr), none, none, none, none] | false => (match (!(fit3 p.by_ ((atN .entry es (Int.toNat p.report)).r))) with | true => ao (.i .i64 2) [some (.cells 54 [.i .i64 w, .i .i64 d, .b m, .own 1, .own 2, .own 3]), some (.row .entry 89 es), some (.row .bool 4 op), some (.row .proved 102 pr), none, none, none, none] | false => (match ((pr.length : Int) == 500) with | true => ao (.i .i64 6) [some (.cells 54 [.i .i64 w, .i .i64 d, .b m, .own 1, .own 2, .own 3]), some (.row .entry 89 es), some (.row .bool 4 op), some (.row .proved 102 pr), none, none, none, none] | false => (match (decide ((pr.length + 1) * 32 ≤ 140737488355328)) with | true => ao (.i .i64 0) [some (.cells 54 [.i .i64 w, .i .i64 d, .b m, .own 1, .own 2, .own 3]), some (.row .entry 89 es), some (.row .bool 4 op), some (.row .proved 102 (pr ++ ([⟨p.report, p.time, .arrived p.by_⟩] : List Proved))), none, none, none, none] | false => none)))) | false => none)) | false => none) | false => none))) := by kernel_rfl
def FO28c : ObjF
  | [.ref 0 0, .agg pL], [some (.cells 54 [.i .i64 w, .i .i64 d, .b m, .own 1, .own 2, .own 3]), some (.row .entry 89 es), some (.row .bool 4 op), some (.row .proved 102 pr), none, none, none, none] => (ETy.dec .proof pL).bind fun p => some ((((!(p.kind == 1)) && ((!(p.kind == 2)) && (p.kind == 3))) && (m && ((decide (es.length ≤ 1000000) && decide (op.length ≤ 1000000)) && prC es pr) && List.all es (fun x => repOk x.r))), .i .i64 (provE es pr w p), [some (.cells 54 [.i .i64 w, .i .i64 d, .b m, .own 1, .own 2, .own 3]), some (.row .entry 89 es), some (.row .bool 4 op), some (.row .proved 102 (provS es pr w p)), none, none, none, none])
  | _, _ => none
theorem so28c {gl : Gl} : OSum gl 28 FO28c := by
  intro ps os r os2 h
  unfold FO28c at h
  split at h
  · rename_i pL w d m es op pr
    obtain ⟨p, hp, h_p⟩ := Option.bind_eq_some_iff.1 h
    obtain rfl := dec_is (by simp) hp
    obtain ⟨hc, h2_⟩ := Prod.mk.inj (Option.some.inj h_p)
    obtain ⟨rfl, rfl⟩ := Prod.mk.inj h2_
    refine obj_by (K := noK) (L := noL) (bxs := [11, 13]) (ows := []) (n0 := 4) (GOk.cons s41J (GOk.cons s44 (GOk.cons s52 (GOk.cons s53c (GOk.cons s121 (GOk.nil)))))) (OOk.nil) fn28 (noLoops (by kernel_rfl)) (by kernel_rfl) ((eo28c gl p w d m es op pr).trans ?_)
    simp only [Bool.and_eq_true, decide_eq_true_eq, Bool.not_eq_true'] at hc
    obtain ⟨⟨k0, k1, k2⟩, ⟨rfl, ⟨h1, h2⟩, h3⟩, h4⟩ := hc
    have hl3 := prC_len h3
    unfold provE provS badPr fitR madeR
    simp only [k0, k1, k2]
    cases hw : within p.report 0 (wr ((es.length : Int) - 1)) with
    | false => rfl
    | true =>
      obtain ⟨i1, i2⟩ := within_in h1 hw
      rw [i1, i2]
      cases hr : rightR p ((atN .entry es (Int.toNat p.report)).r) with
      | false => rfl
      | true =>
        have hcc : c123 p.wher ((atN .entry es (Int.toNat p.report)).r) = true := by
          unfold c123
          rw [c95_ok (repP (at_ok h4 i2)).area (right_area hr)]
          rfl
        have hd : decide ((pr.length + 1) * 32 ≤ 140737488355328) = true := decide_eq_true (by omega)
        simp only [hcc, hd]
        cases hc0 : (p.count != 0) <;> cases hf : fit3 p.by_ ((atN .entry es (Int.toNat p.report)).r) <;> cases h5 : ((pr.length : Int) == 500) <;> rfl
  · simp at h
theorem e53d (gl : Gl) (p : Proof) : evFn (cx gl (mkG []) [] []) noK noL Try.f53 [.agg [.i .i64 p.kind, .i .i64 p.report, .i .i64 p.time, .s p.by_, .sl .spot p.wher, .i .i64 p.count]] noObjs = (match (p.kind == 1) with | true => an (.iface 99 (.agg [.i .i64 p.count])) | false => (match (p.kind == 2) with | true => an (.iface 122 (.agg [.s p.by_])) | false => (match (p.kind == 3) with | true => an (.iface 123 (.agg [.s p.by_])) | false => (match (p.kind == 4) with | true => an (.iface 124 (.agg [.s p.by_])) | false => an (.iface 126 (.agg [.sl .spot p.wher, .i .i64 p.time])))))) := by kernel_rfl
def F53d : List PV → Option (Bool × PV)
  | [.agg pL] => (ETy.dec .proof pL).bind fun p => some (((!(p.kind == 1)) && ((!(p.kind == 2)) && ((!(p.kind == 3)) && (p.kind == 4)))), .iface 124 (.agg [.s p.by_]))
  | _ => none
theorem s53d {gl : Gl} : Sum gl 53 F53d := by
  intro ps r h
  unfold F53d at h
  split at h
  · rename_i pL
    obtain ⟨p, hp, h_p⟩ := Option.bind_eq_some_iff.1 h
    obtain rfl := dec_is (by simp) hp
    obtain ⟨hc, rfl⟩ := Prod.mk.inj (Option.some.inj h_p)
    refine call_by (K := noK) (L := noL) (bxs := []) (ows := []) (GOk.nil) fn53 (noLoops (by kernel_rfl)) (by kernel_rfl) (evF_some ((e53d gl p).trans ?_))
    try simp only [Bool.and_eq_true, Bool.not_eq_true'] at hc
    obtain ⟨k0, k1, k2, k3⟩ := hc
    rw [k0, k1, k2, k3]
    rfl
  · simp at h
theorem eo28d (gl : Gl) (p : Proof) (w : Int) (d : Int) (m : Bool) (es : List Entry) (op : List Bool) (pr : List Proved) : evO (cxo gl (mkG [(41, F41J), (44, F44), (52, F52), (53, F53d), (122, F122)]) (mkO []) none [] rlT [11, 13] []) noK noL 4 Try.f28 [.ref 0 0, .agg [.i .i64 p.kind, .i .i64 p.report, .i .i64 p.time, .s p.by_, .sl .spot p.wher, .i .i64 p.count]] [some (.cells 54 [.i .i64 w, .i .i64 d, .b m, .own 1, .own 2, .own 3]), some (.row .entry 89 es), some (.row .bool 4 op), some (.row .proved 102 pr), none, none, none, none] = (match (!m) with | true => ao (.i .i64 1) [some (.cells 54 [.i .i64 w, .i .i64 d, .b m, .own 1, .own 2, .own 3]), some (.row .entry 89 es), some (.row .bool 4 op), some (.row .proved 102 pr), none, none, none, none] | false => (match (!(within p.report 0 (wr ((es.length : Int) - 1)))) with | true => ao (.i .i64 7) [some (.cells 54 [.i .i64 w, .i .i64 d, .b m, .own 1, .own 2, .own 3]), some (.row .entry 89 es), some (.row .bool 4 op), some (.row .proved 102 pr), none, none, none, none] | false => (match (inB p.report es.length) with | true => (match (inN (Int.toNat p.report) es.length) with | true => (match (!(rightR p ((atN .entry es (Int.toNat p.report)).r))) with | true => ao (.i .i64 2) [some (.cells 54 [.i .i64 w, .i .i64 d, .b m, .own 1, .own 2, .own 3]), some (.row .entry 89 es), some (.row .bool 4 op), some (.row .proved 102 pr), none, none, none, none] | false => (match ((!(p.kind == 1)) && ((!(p.kind == 2)) && ((!(p.kind == 3)) && (p.kind == 4)))) with | true => (match (p.count != 0) with | true => ao (.i .i64 2) [some (.cells 54 [.i .i64 w, .i .i64 d, .b m, .own 1, .own 2, .own 3]), some (.row .entry 89 es), some (.row .bool 4 op), some (.row .proved 102 pr), none, none, none, none] | false => (match (!(fit4 p.by_ ((atN .entry es (Int.toNat p.report)).r))) with | true => ao (.i .i64 2) [some (.cells 54 [.i .i64 w, .i .i64 d, .b m, .own 1, .own 2, .own 3]), some (.row .entry 89 es), some (.row .bool 4 op), some (.row .proved 102 pr), none, none, none, none] | false => (match ((pr.length : Int) == 500) with | true => ao (.i .i64 6) [some (.cells 54 [.i .i64 w, .i .i64 d, .b m, .own 1, .own 2, .own 3]), some (.row .entry 89 es), some (.row .bool 4 op), some (.row .proved 102 pr), none, none, none, none] | false => (match (decide ((pr.length + 1) * 32 ≤ 140737488355328)) with | true => ao (.i .i64 0) [some (.cells 54 [.i .i64 w, .i .i64 d, .b m, .own 1, .own 2, .own 3]), some (.row .entry 89 es), some (.row .bool 4 op), some (.row .proved 102 (pr ++ ([⟨p.report, p.time, .withdrawn p.by_⟩] : List Proved))), none, none, none, none] | false => none)))) | false => none)) | false => none) | false => none))) := by kernel_rfl
def FO28d : ObjF
  | [.ref 0 0, .agg pL], [some (.cells 54 [.i .i64 w, .i .i64 d, .b m, .own 1, .own 2, .own 3]), some (.row .entry 89 es), some (.row .bool 4 op), some (.row .proved 102 pr), none, none, none, none] => (ETy.dec .proof pL).bind fun p => some ((((!(p.kind == 1)) && ((!(p.kind == 2)) && ((!(p.kind == 3)) && (p.kind == 4)))) && (m && ((decide (es.length ≤ 1000000) && decide (op.length ≤ 1000000)) && prC es pr) && List.all es (fun x => repOk x.r))), .i .i64 (provE es pr w p), [some (.cells 54 [.i .i64 w, .i .i64 d, .b m, .own 1, .own 2, .own 3]), some (.row .entry 89 es), some (.row .bool 4 op), some (.row .proved 102 (provS es pr w p)), none, none, none, none])
  | _, _ => none
theorem so28d {gl : Gl} : OSum gl 28 FO28d := by
  intro ps os r os2 h
  unfold FO28d at h
  split at h
  · rename_i pL w d m es op pr
    obtain ⟨p, hp, h_p⟩ := Option.bind_eq_some_iff.1 h
    obtain rfl := dec_is (by simp) hp
    obtain ⟨hc, h2_⟩ := Prod.mk.inj (Option.some.inj h_p)
    obtain ⟨rfl, rfl⟩ := Prod.mk.inj h2_
    refine obj_by (K := noK) (L := noL) (bxs := [11, 13]) (ows := []) (n0 := 4) (GOk.cons s41J (GOk.cons s44 (GOk.cons s52 (GOk.cons s53d (GOk.cons s122 (GOk.nil)))))) (OOk.nil) fn28 (noLoops (by kernel_rfl)) (by kernel_rfl) ((eo28d gl p w d m es op pr).trans ?_)
    simp only [Bool.and_eq_true, decide_eq_true_eq, Bool.not_eq_true'] at hc
    obtain ⟨⟨k0, k1, k2, k3⟩, ⟨rfl, ⟨h1, h2⟩, h3⟩, h4⟩ := hc
    have hl3 := prC_len h3
    unfold provE provS badPr fitR madeR
    simp only [k0, k1, k2, k3]
    cases hw : within p.report 0 (wr ((es.length : Int) - 1)) with
    | false => rfl
    | true =>
      obtain ⟨i1, i2⟩ := within_in h1 hw
      rw [i1, i2]
      cases hr : rightR p ((atN .entry es (Int.toNat p.report)).r) with
      | false => rfl
      | true =>
        have hcc : c123 p.wher ((atN .entry es (Int.toNat p.report)).r) = true := by
          unfold c123
          rw [c95_ok (repP (at_ok h4 i2)).area (right_area hr)]
          rfl
        have hd : decide ((pr.length + 1) * 32 ≤ 140737488355328) = true := decide_eq_true (by omega)
        simp only [hcc, hd]
        cases hc0 : (p.count != 0) <;> cases hf : fit4 p.by_ ((atN .entry es (Int.toNat p.report)).r) <;> cases h5 : ((pr.length : Int) == 500) <;> rfl
  · simp at h
theorem e53e (gl : Gl) (p : Proof) : evFn (cx gl (mkG []) [] []) noK noL Try.f53 [.agg [.i .i64 p.kind, .i .i64 p.report, .i .i64 p.time, .s p.by_, .sl .spot p.wher, .i .i64 p.count]] noObjs = (match (p.kind == 1) with | true => an (.iface 99 (.agg [.i .i64 p.count])) | false => (match (p.kind == 2) with | true => an (.iface 122 (.agg [.s p.by_])) | false => (match (p.kind == 3) with | true => an (.iface 123 (.agg [.s p.by_])) | false => (match (p.kind == 4) with | true => an (.iface 124 (.agg [.s p.by_])) | false => an (.iface 126 (.agg [.sl .spot p.wher, .i .i64 p.time])))))) := by kernel_rfl
def F53e : List PV → Option (Bool × PV)
  | [.agg pL] => (ETy.dec .proof pL).bind fun p => some (((!(p.kind == 1)) && ((!(p.kind == 2)) && ((!(p.kind == 3)) && (!(p.kind == 4))))), .iface 126 (.agg [.sl .spot p.wher, .i .i64 p.time]))
  | _ => none
theorem s53e {gl : Gl} : Sum gl 53 F53e := by
  intro ps r h
  unfold F53e at h
  split at h
  · rename_i pL
    obtain ⟨p, hp, h_p⟩ := Option.bind_eq_some_iff.1 h
    obtain rfl := dec_is (by simp) hp
    obtain ⟨hc, rfl⟩ := Prod.mk.inj (Option.some.inj h_p)
    refine call_by (K := noK) (L := noL) (bxs := []) (ows := []) (GOk.nil) fn53 (noLoops (by kernel_rfl)) (by kernel_rfl) (evF_some ((e53e gl p).trans ?_))
    try simp only [Bool.and_eq_true, Bool.not_eq_true'] at hc
    obtain ⟨k0, k1, k2, k3⟩ := hc
    rw [k0, k1, k2, k3]
    rfl
  · simp at h
theorem eo28e (gl : Gl) (p : Proof) (w : Int) (d : Int) (m : Bool) (es : List Entry) (op : List Bool) (pr : List Proved) : evO (cxo gl (mkG [(41, F41J), (44, F44), (52, F52), (53, F53e), (123, F123)]) (mkO []) none [] rlT [11, 13] []) noK noL 4 Try.f28 [.ref 0 0, .agg [.i .i64 p.kind, .i .i64 p.report, .i .i64 p.time, .s p.by_, .sl .spot p.wher, .i .i64 p.count]] [some (.cells 54 [.i .i64 w, .i .i64 d, .b m, .own 1, .own 2, .own 3]), some (.row .entry 89 es), some (.row .bool 4 op), some (.row .proved 102 pr), none, none, none, none] = (match (!m) with | true => ao (.i .i64 1) [some (.cells 54 [.i .i64 w, .i .i64 d, .b m, .own 1, .own 2, .own 3]), some (.row .entry 89 es), some (.row .bool 4 op), some (.row .proved 102 pr), none, none, none, none] | false => (match (!(within p.report 0 (wr ((es.length : Int) - 1)))) with | true => ao (.i .i64 7) [some (.cells 54 [.i .i64 w, .i .i64 d, .b m, .own 1, .own 2, .own 3]), some (.row .entry 89 es), some (.row .bool 4 op), some (.row .proved 102 pr), none, none, none, none] | false => (match (inB p.report es.length) with | true => (match (inN (Int.toNat p.report) es.length) with | true => (match (!(rightR p ((atN .entry es (Int.toNat p.report)).r))) with | true => ao (.i .i64 2) [some (.cells 54 [.i .i64 w, .i .i64 d, .b m, .own 1, .own 2, .own 3]), some (.row .entry 89 es), some (.row .bool 4 op), some (.row .proved 102 pr), none, none, none, none] | false => (match ((!(p.kind == 1)) && ((!(p.kind == 2)) && ((!(p.kind == 3)) && (!(p.kind == 4))))) with | true => (match (p.count != 0) with | true => ao (.i .i64 2) [some (.cells 54 [.i .i64 w, .i .i64 d, .b m, .own 1, .own 2, .own 3]), some (.row .entry 89 es), some (.row .bool 4 op), some (.row .proved 102 pr), none, none, none, none] | false => (match (c123 p.wher ((atN .entry es (Int.toNat p.report)).r)) with | true => (match (!(fit5 p.wher p.time w ((atN .entry es (Int.toNat p.report)).r))) with | true => ao (.i .i64 2) [some (.cells 54 [.i .i64 w, .i .i64 d, .b m, .own 1, .own 2, .own 3]), some (.row .entry 89 es), some (.row .bool 4 op), some (.row .proved 102 pr), none, none, none, none] | false => (match ((pr.length : Int) == 500) with | true => ao (.i .i64 6) [some (.cells 54 [.i .i64 w, .i .i64 d, .b m, .own 1, .own 2, .own 3]), some (.row .entry 89 es), some (.row .bool 4 op), some (.row .proved 102 pr), none, none, none, none] | false => (match (decide ((pr.length + 1) * 32 ≤ 140737488355328)) with | true => ao (.i .i64 0) [some (.cells 54 [.i .i64 w, .i .i64 d, .b m, .own 1, .own 2, .own 3]), some (.row .entry 89 es), some (.row .bool 4 op), some (.row .proved 102 (pr ++ ([⟨p.report, p.time, .exercise⟩] : List Proved))), none, none, none, none] | false => none))) | false => none)) | false => none)) | false => none) | false => none))) := by kernel_rfl
def FO28e : ObjF
  | [.ref 0 0, .agg pL], [some (.cells 54 [.i .i64 w, .i .i64 d, .b m, .own 1, .own 2, .own 3]), some (.row .entry 89 es), some (.row .bool 4 op), some (.row .proved 102 pr), none, none, none, none] => (ETy.dec .proof pL).bind fun p => some ((((!(p.kind == 1)) && ((!(p.kind == 2)) && ((!(p.kind == 3)) && (!(p.kind == 4))))) && (m && ((decide (es.length ≤ 1000000) && decide (op.length ≤ 1000000)) && prC es pr) && List.all es (fun x => repOk x.r))), .i .i64 (provE es pr w p), [some (.cells 54 [.i .i64 w, .i .i64 d, .b m, .own 1, .own 2, .own 3]), some (.row .entry 89 es), some (.row .bool 4 op), some (.row .proved 102 (provS es pr w p)), none, none, none, none])
  | _, _ => none
theorem so28e {gl : Gl} : OSum gl 28 FO28e := by
  intro ps os r os2 h
  unfold FO28e at h
  split at h
  · rename_i pL w d m es op pr
    obtain ⟨p, hp, h_p⟩ := Option.bind_eq_some_iff.1 h
    obtain rfl := dec_is (by simp) hp
    obtain ⟨hc, h2_⟩ := Prod.mk.inj (Option.some.inj h_p)
    obtain ⟨rfl, rfl⟩ := Prod.mk.inj h2_
    refine obj_by (K := noK) (L := noL) (bxs := [11, 13]) (ows := []) (n0 := 4) (GOk.cons s41J (GOk.cons s44 (GOk.cons s52 (GOk.cons s53e (GOk.cons s123 (GOk.nil)))))) (OOk.nil) fn28 (noLoops (by kernel_rfl)) (by kernel_rfl) ((eo28e gl p w d m es op pr).trans ?_)
    simp only [Bool.and_eq_true, decide_eq_true_eq, Bool.not_eq_true'] at hc
    obtain ⟨⟨k0, k1, k2, k3⟩, ⟨rfl, ⟨h1, h2⟩, h3⟩, h4⟩ := hc
    have hl3 := prC_len h3
    unfold provE provS badPr fitR madeR
    simp only [k0, k1, k2, k3]
    cases hw : within p.report 0 (wr ((es.length : Int) - 1)) with
    | false => rfl
    | true =>
      obtain ⟨i1, i2⟩ := within_in h1 hw
      rw [i1, i2]
      cases hr : rightR p ((atN .entry es (Int.toNat p.report)).r) with
      | false => rfl
      | true =>
        have hcc : c123 p.wher ((atN .entry es (Int.toNat p.report)).r) = true := by
          unfold c123
          rw [c95_ok (repP (at_ok h4 i2)).area (right_area hr)]
          rfl
        have hd : decide ((pr.length + 1) * 32 ≤ 140737488355328) = true := decide_eq_true (by omega)
        simp only [hcc, hd]
        cases hc0 : (p.count != 0) <;> cases hf : fit5 p.wher p.time w ((atN .entry es (Int.toNat p.report)).r) <;> cases h5 : ((pr.length : Int) == 500) <;> rfl
  · simp at h
end Go.Proofs.Ytklgaodfakdjpaa.Ev
/- Summaries of functions, printed by a program out of a list, and what is made of them. -/
namespace Go.Proofs.Ytklgaodfakdjpaa.Ev
open Go Go.RowKit Go.Proofs
def FO28 : ObjF
  | [.ref 0 0, .agg pL], [some (.cells 54 [.i .i64 w, .i .i64 d, .b m, .own 1, .own 2, .own 3]), some (.row .entry 89 es), some (.row .bool 4 op), some (.row .proved 102 pr), none, none, none, none] => (ETy.dec .proof pL).bind fun p => some ((m && ((decide (es.length ≤ 1000000) && decide (op.length ≤ 1000000)) && prC es pr) && List.all es (fun x => repOk x.r)), .i .i64 (provE es pr w p), [some (.cells 54 [.i .i64 w, .i .i64 d, .b m, .own 1, .own 2, .own 3]), some (.row .entry 89 es), some (.row .bool 4 op), some (.row .proved 102 (provS es pr w p)), none, none, none, none])
  | _, _ => none
theorem so28 {gl : Gl} : OSum gl 28 FO28 := by
  intro ps os r os2 h
  unfold FO28 at h
  split at h
  · rename_i pL w d m es op pr
    obtain ⟨p, hp, h_p⟩ := Option.bind_eq_some_iff.1 h
    obtain rfl := dec_is (by simp) hp
    obtain ⟨hc, h2_⟩ := Prod.mk.inj (Option.some.inj h_p)
    obtain ⟨rfl, rfl⟩ := Prod.mk.inj h2_
    cases k0 : (p.kind == 1) with
    | true => exact so28a _ _ _ _ ((show FO28a [.ref 0 0, .agg (ETy.cells .proof p)] [some (.cells 54 [.i .i64 w, .i .i64 d, .b m, .own 1, .own 2, .own 3]), some (.row .entry 89 es), some (.row .bool 4 op), some (.row .proved 102 pr), none, none, none, none] = some (((p.kind == 1) && (m && ((decide (es.length ≤ 1000000) && decide (op.length ≤ 1000000)) && prC es pr) && List.all es (fun x => repOk x.r))), .i .i64 (provE es pr w p), [some (.cells 54 [.i .i64 w, .i .i64 d, .b m, .own 1, .own 2, .own 3]), some (.row .entry 89 es), some (.row .bool 4 op), some (.row .proved 102 (provS es pr w p)), none, none, none, none]) by kernel_rfl).trans (by rw [k0, hc]; rfl))
    | false =>
      cases k1 : (p.kind == 2) with
      | true => exact so28b _ _ _ _ ((show FO28b [.ref 0 0, .agg (ETy.cells .proof p)] [some (.cells 54 [.i .i64 w, .i .i64 d, .b m, .own 1, .own 2, .own 3]), some (.row .entry 89 es), some (.row .bool 4 op), some (.row .proved 102 pr), none, none, none, none] = some ((((!(p.kind == 1)) && (p.kind == 2)) && (m && ((decide (es.length ≤ 1000000) && decide (op.length ≤ 1000000)) && prC es pr) && List.all es (fun x => repOk x.r))), .i .i64 (provE es pr w p), [some (.cells 54 [.i .i64 w, .i .i64 d, .b m, .own 1, .own 2, .own 3]), some (.row .entry 89 es), some (.row .bool 4 op), some (.row .proved 102 (provS es pr w p)), none, none, none, none]) by kernel_rfl).trans (by rw [k0, k1, hc]; rfl))
      | false =>
        cases k2 : (p.kind == 3) with
        | true => exact so28c _ _ _ _ ((show FO28c [.ref 0 0, .agg (ETy.cells .proof p)] [some (.cells 54 [.i .i64 w, .i .i64 d, .b m, .own 1, .own 2, .own 3]), some (.row .entry 89 es), some (.row .bool 4 op), some (.row .proved 102 pr), none, none, none, none] = some ((((!(p.kind == 1)) && ((!(p.kind == 2)) && (p.kind == 3))) && (m && ((decide (es.length ≤ 1000000) && decide (op.length ≤ 1000000)) && prC es pr) && List.all es (fun x => repOk x.r))), .i .i64 (provE es pr w p), [some (.cells 54 [.i .i64 w, .i .i64 d, .b m, .own 1, .own 2, .own 3]), some (.row .entry 89 es), some (.row .bool 4 op), some (.row .proved 102 (provS es pr w p)), none, none, none, none]) by kernel_rfl).trans (by rw [k0, k1, k2, hc]; rfl))
        | false =>
          cases k3 : (p.kind == 4) with
          | true => exact so28d _ _ _ _ ((show FO28d [.ref 0 0, .agg (ETy.cells .proof p)] [some (.cells 54 [.i .i64 w, .i .i64 d, .b m, .own 1, .own 2, .own 3]), some (.row .entry 89 es), some (.row .bool 4 op), some (.row .proved 102 pr), none, none, none, none] = some ((((!(p.kind == 1)) && ((!(p.kind == 2)) && ((!(p.kind == 3)) && (p.kind == 4)))) && (m && ((decide (es.length ≤ 1000000) && decide (op.length ≤ 1000000)) && prC es pr) && List.all es (fun x => repOk x.r))), .i .i64 (provE es pr w p), [some (.cells 54 [.i .i64 w, .i .i64 d, .b m, .own 1, .own 2, .own 3]), some (.row .entry 89 es), some (.row .bool 4 op), some (.row .proved 102 (provS es pr w p)), none, none, none, none]) by kernel_rfl).trans (by rw [k0, k1, k2, k3, hc]; rfl))
          | false => exact so28e _ _ _ _ ((show FO28e [.ref 0 0, .agg (ETy.cells .proof p)] [some (.cells 54 [.i .i64 w, .i .i64 d, .b m, .own 1, .own 2, .own 3]), some (.row .entry 89 es), some (.row .bool 4 op), some (.row .proved 102 pr), none, none, none, none] = some ((((!(p.kind == 1)) && ((!(p.kind == 2)) && ((!(p.kind == 3)) && (!(p.kind == 4))))) && (m && ((decide (es.length ≤ 1000000) && decide (op.length ≤ 1000000)) && prC es pr) && List.all es (fun x => repOk x.r))), .i .i64 (provE es pr w p), [some (.cells 54 [.i .i64 w, .i .i64 d, .b m, .own 1, .own 2, .own 3]), some (.row .entry 89 es), some (.row .bool 4 op), some (.row .proved 102 (provS es pr w p)), none, none, none, none]) by kernel_rfl).trans (by rw [k0, k1, k2, k3, hc]; rfl))
  · simp at h
theorem fn25 : FnOk 25 Try.f25 := ⟨by kernel_rfl, by kernel_rfl, by kernel_rfl, by kernel_rfl⟩
def v25 (x : Int) (y : Int) : List Spot := ([⟨x, y⟩] : List Spot)
theorem e25 (gl : Gl) (t : Int) (x : Int) (y : Int) (by_ : ByteArray) : evFn (cx gl (mkG []) [] []) noK noL Try.f25 [.i .i64 t, .i .i64 x, .i .i64 y, .s by_] noObjs = an (.agg [.i .i64 2, .i .i64 t, .s by_, .s (⟨#[]⟩ : ByteArray), .sl .spot ([⟨x, y⟩] : List Spot), .i .i64 (-1), .i .i64 0]) := by kernel_rfl
def F25 : List PV → Option (Bool × PV)
  | [.i .i64 t, .i .i64 x, .i .i64 y, .s by_] => some (true, .agg [.i .i64 2, .i .i64 t, .s by_, .s (⟨#[]⟩ : ByteArray), .sl .spot (v25 x y), .i .i64 (-1), .i .i64 0])
  | _ => none
theorem s25 {gl : Gl} : Sum gl 25 F25 := by
  intro ps r h
  unfold F25 at h
  split at h
  · rename_i t x y by_
    obtain ⟨hc, rfl⟩ := Prod.mk.inj (Option.some.inj h)
    refine call_by (K := noK) (L := noL) (bxs := []) (ows := []) (GOk.nil) fn25 (noLoops (by kernel_rfl)) (by kernel_rfl) (evF_some ((e25 gl t x y by_).trans ?_))
    try unfold v25
    rfl
  · simp at h
theorem fn10 : FnOk 10 Try.f10 := ⟨by kernel_rfl, by kernel_rfl, by kernel_rfl, by kernel_rfl⟩
theorem e10 (gl : Gl)  : evFn (cxo gl (mkG [(25, F25), (22, F22)]) (mkO [(11, 2, FO11v), (26, 1, FO26), (27, 1, FO27), (28, 1, FO28)]) none [] rlT [7, 8] []) noK noL Try.f10 [] noObjs = an (.b true) := by kernel_rfl
def F10 : List PV → Option (Bool × PV)
  | [] => some (true, .b true)
  | _ => none
theorem s10 {gl : Gl} : Sum gl 10 F10 := by
  intro ps r h
  unfold F10 at h
  split at h
  · skip
    obtain ⟨hc, rfl⟩ := Prod.mk.inj (Option.some.inj h)
    refine call_byO (K := noK) (L := noL) (bxs := [7, 8]) (ows := []) (GOk.cons s25 (GOk.cons s22 (GOk.nil))) (OOk.cons so11v (OOk.cons so26 (OOk.cons so27 (OOk.cons so28 (OOk.nil))))) fn10 (noLoops (by kernel_rfl)) (by kernel_rfl) (evF_some ((e10 gl ).trans ?_))
    rfl
  · simp at h
theorem fn5 : FnOk 5 Try.f5 := ⟨by kernel_rfl, by kernel_rfl, by kernel_rfl, by kernel_rfl⟩
theorem e5 (gl : Gl) (a : Report) (b : Report) (w : Int) (d : Int) : evFn (cx gl (mkG [(21, F21), (10, F10), (22, F22), (23, F23)]) [] []) noK noL Try.f5 [.agg [.i .i64 a.kind, .i .i64 a.time, .s a.source, .s a.about, .sl .spot a.wher, .i .i64 a.souls, .i .i64 a.trust], .agg [.i .i64 b.kind, .i .i64 b.time, .s b.source, .s b.about, .sl .spot b.wher, .i .i64 b.souls, .i .i64 b.trust], .i .i64 w, .i .i64 d] noObjs = (match (bif (greatR a) then true else (greatR b)) with | true => an (.b true) | false => an (.b (bif (bif (bif (bif ((cmpN a b w d) == (cmpN a b w d)) then ((cmpE a b w d) == (cmpE a b w d)) else false) then ((cmpN b a w d) == (cmpN a b w d)) else false) then ((cmpE b a w d) == (cmpE a b w d)) else false) then true else false))) := by kernel_rfl
def F5 : List PV → Option (Bool × PV)
  | [.agg aL, .agg bL, .i .i64 w, .i .i64 d] => (ETy.dec .report aL).bind fun a => (ETy.dec .report bL).bind fun b => some (true, .b true)
  | _ => none
theorem s5 {gl : Gl} : Sum gl 5 F5 := by
  intro ps r h
  unfold F5 at h
  split at h
  · rename_i aL bL w d
    obtain ⟨a, ha, h_a⟩ := Option.bind_eq_some_iff.1 h
    obtain rfl := dec_is (by simp) ha
    obtain ⟨b, hb, h_b⟩ := Option.bind_eq_some_iff.1 h_a
    obtain rfl := dec_is (by simp) hb
    obtain ⟨hc, rfl⟩ := Prod.mk.inj (Option.some.inj h_b)
    refine call_by (K := noK) (L := noL) (bxs := []) (ows := []) (GOk.cons s21 (GOk.cons s10 (GOk.cons s22 (GOk.cons s23 (GOk.nil))))) fn5 (noLoops (by kernel_rfl)) (by kernel_rfl) (evF_some ((e5 gl a b w d).trans ?_))
    rw [← (cmpN_comm a b w d).1, ← (cmpN_comm a b w d).2]
    simp only [beq_self_eq_true]
    show (match (bif (greatR a) then true else (greatR b)) with | true => _ | false => _) = _
    cases (bif (greatR a) then true else (greatR b)) <;> rfl
  · simp at h
end Go.Proofs.Ytklgaodfakdjpaa.Ev
