/- Summaries of functions, printed by a program out of a list, and what is made of them. -/
import Derived.Test.YtklgaodfakdjpaaLc
set_option linter.unusedVariables false
set_option linter.unusedSimpArgs false
set_option maxRecDepth 100000
namespace Go.Proofs.Ytklgaodfakdjpaa.Ev
open Go Go.RowKit Go.Proofs
/-- A book as it comes to be. -/
def bookOk (w d : Int) (m : Bool) (es : List Entry) (op : List Bool) (pr : List Proved) : Bool := m && (rulesR w d && (decide (es.length ≤ 500) && (decide (op.length ≤ es.length) && (decide (pr.length ≤ 500) && (List.all es (fun x => repOk x.r && inB x.of_ op.length) && List.all pr (fun q => inB q.report es.length))))))
structure BookP (w d : Int) (m : Bool) (es : List Entry) (op : List Bool) (pr : List Proved) : Prop where
  made : m = true
  rules : rulesR w d = true
  les : es.length ≤ 500
  lop2 : op.length ≤ es.length
  lpr : pr.length ≤ 500
  rep : ∀ x ∈ es, repOk x.r = true
  of_ : ∀ x ∈ es, inB x.of_ op.length = true
  prs : ∀ q ∈ pr, inB q.report es.length = true
theorem book_iff {w d : Int} {m : Bool} {es : List Entry} {op : List Bool} {pr : List Proved} : bookOk w d m es op pr = true ↔ BookP w d m es op pr := by
  unfold bookOk
  simp only [Bool.and_eq_true, decide_eq_true_eq, List.all_eq_true]
  exact ⟨fun ⟨a, b, c, d, e, f, g⟩ => ⟨a, b, c, d, e, fun x hx => (f x hx).1, fun x hx => (f x hx).2, g⟩, fun h => ⟨h.made, h.rules, h.les, h.lop2, h.lpr, fun x hx => ⟨h.rep x hx, h.of_ x hx⟩, h.prs⟩⟩
theorem BookP.lop {w d : Int} {m : Bool} {es : List Entry} {op : List Bool} {pr : List Proved} (h : BookP w d m es op pr) : op.length ≤ 500 := Nat.le_trans h.lop2 h.les
theorem BookP.pc {w d : Int} {m : Bool} {es : List Entry} {op : List Bool} {pr : List Proved} (h : BookP w d m es op pr) : prC es pr = true := by
  unfold Ev.prC
  rw [decide_eq_true (show pr.length ≤ 1000000 by have := h.lpr; omega)]
  exact List.all_eq_true.2 h.prs
theorem BookP.cmp {w d : Int} {m : Bool} {es : List Entry} {op : List Bool} {pr : List Proved} (h : BookP w d m es op pr) {r : Report} (hr : repOk r = true) : (List.all es fun x => cmpOk x.r r w d) = true :=
  List.all_eq_true.2 fun x hx => by
    unfold cmpOk
    rw [h.rules, h.rep x hx, hr]
    rfl
/-- The incidents that are open. -/
def openL (op : List Bool) : Nat → List Int
  | 0 => []
  | k + 1 => bif atN .bool op k then openL op k ++ [(k : Int)] else openL op k
def openA (op : List Bool) : List Int := openL op op.length
theorem openL_len (op : List Bool) : ∀ k, (openL op k).length ≤ k
  | 0 => Nat.le_refl _
  | k + 1 => by
    have := openL_len op k
    unfold openL
    cases atN .bool op k with
    | true =>
      show (openL op k ++ [(k : Int)]).length ≤ k + 1
      rw [List.length_append]
      simp
      omega
    | false =>
      show (openL op k).length ≤ k + 1
      omega
/-- One incident put to another one. -/
def mvE (a b : Int) (x : Entry) : Entry := bif (x.of_ == b) then ⟨x.r, a⟩ else x
def mvL (a b : Int) (es : List Entry) (k : Nat) : List Entry := (es.take k).map (mvE a b) ++ es.drop k
theorem set_mid {α : Type} (l : List α) (x y : α) (r : List α) : (l ++ x :: r).set l.length y = l ++ y :: r := by
  induction l with
  | nil => rfl
  | cons z l ih => simp [ih]
theorem get_mid {α : Type} (l : List α) (x : α) (r : List α) : (l ++ x :: r)[l.length]? = some x := by
  induction l with
  | nil => rfl
  | cons z l ih => simp
theorem mvL_len (a b : Int) (es : List Entry) (k : Nat) : (mvL a b es k).length = es.length := by
  unfold mvL
  simp
  omega
theorem mvL_at {a b : Int} {es : List Entry} {k : Nat} (hk : k < es.length) : atN .entry (mvL a b es k) k = es[k] := by
  have h1 : ((es.take k).map (mvE a b)).length = k := by simp; omega
  have h2 : (mvL a b es k)[k]? = some es[k] := by
    unfold mvL
    rw [List.drop_eq_getElem_cons hk]
    have := get_mid ((es.take k).map (mvE a b)) es[k] (es.drop (k + 1))
    rw [h1] at this
    exact this
  have h3 : k < (mvL a b es k).length := by rw [mvL_len]; exact hk
  rw [atN_nat (T := .entry) h3]
  rw [List.getElem?_eq_getElem h3] at h2
  exact Option.some.inj h2
theorem mvL_succ {a b : Int} {es : List Entry} {k : Nat} (hk : k < es.length) : mvL a b es (k + 1) = bif ((es[k]).of_ == b) then (mvL a b es k).set k ⟨(es[k]).r, a⟩ else mvL a b es k := by
  have h1 : ((es.take k).map (mvE a b)).length = k := by simp; omega
  have h2 : mvL a b es (k + 1) = (es.take k).map (mvE a b) ++ mvE a b es[k] :: es.drop (k + 1) := by
    unfold mvL
    rw [List.take_succ_eq_append_getElem hk, List.map_append, List.append_assoc]
    rfl
  have h3 : mvL a b es k = (es.take k).map (mvE a b) ++ es[k] :: es.drop (k + 1) := by
    unfold mvL
    rw [List.drop_eq_getElem_cons hk]
  rw [h2, h3]
  have := set_mid ((es.take k).map (mvE a b)) es[k] ⟨(es[k]).r, a⟩ (es.drop (k + 1))
  rw [h1] at this
  unfold mvE at *
  cases hb : ((es[k]).of_ == b) with
  | true =>
    rw [hb] at *
    exact this.symm
  | false => rfl
def joinB (es : List Entry) (w d a b : Int) : Bool := List.any es (fun x => bif (x.of_ == a) then hasE es b x.r 2 w d else false)
def joinE (es : List Entry) (w d a b : Int) : Int := bif (bif (((allL es a).length : Int) == 0) then true else (((allL es b).length : Int) == 0)) then 7 else bif (a == b) then 2 else bif joinB es w d a b then 9 else 0
def joinS (es : List Entry) (w d a b : Int) : List Entry := bif (joinE es w d a b == 0) then es.map (mvE a b) else es
def joinO (es : List Entry) (op : List Bool) (w d a b : Int) : List Bool := bif (joinE es w d a b == 0) then List.set (List.set op (Int.toNat a) true) (Int.toNat b) false else op
theorem ofL_mem {es : List Entry} {inc : Int} {p : Int → Bool} : ∀ {k : Nat}, ofL es inc p k ≠ [] → ∃ j, j < k ∧ (atN .entry es j).of_ = inc
  | 0, h => absurd rfl h
  | k + 1, h => by
    unfold ofL at h
    cases hb : (bif ((atN .entry es k).of_ == inc) then p (k : Int) else false) with
    | true =>
      refine ⟨k, by omega, ?_⟩
      cases hx : ((atN .entry es k).of_ == inc) with
      | true => exact beq_iff_eq.1 hx
      | false => rw [hx] at hb; exact absurd hb (by simp)
    | false =>
      rw [hb] at h
      obtain ⟨j, h1, h2⟩ := ofL_mem h
      exact ⟨j, by omega, h2⟩
theorem BookP.inc {w d : Int} {m : Bool} {es : List Entry} {op : List Bool} {pr : List Proved} (h : BookP w d m es op pr) {a : Int} (ha : (((allL es a).length : Int) == 0) = false) : inB a op.length = true := by
  have hne : allL es a ≠ [] := fun e => by rw [e] at ha; simp at ha
  obtain ⟨j, h1, h2⟩ := ofL_mem hne
  rw [atN_nat (T := .entry) h1] at h2
  rw [← h2]
  exact h.of_ _ (List.getElem_mem h1)
theorem inB_inN {a : Int} {n : Nat} (h : inB a n = true) : inN (Int.toNat a) n = true := by
  unfold inB at h
  rw [Bool.and_eq_true, decide_eq_true_eq, decide_eq_true_eq] at h
  exact inN_of (by omega)
structure S31_8 where
  a : Int
  b : Int
  t6 : Int
  t33 : Int
  t34 : Int
  h0 : Int
  h02 : Int
  h03 : Bool
  h1 : List Entry
  h2 : List Bool
  h3 : List Proved
def S31_8.enc (s : S31_8) : List PV := [.ref 0 0, .i .i64 s.a, .i .i64 s.b, .i .i64 s.t6, .own 1, .i .i64 s.t33, .i .i64 s.t34]
def S31_8.encH (s : S31_8) : Heap := [some (.cells 54 [.i .i64 s.h0, .i .i64 s.h02, .b s.h03, .own 1, .own 2, .own 3]), some (.row .entry 89 s.h1), some (.row .bool 4 s.h2), some (.row .proved 102 s.h3)]
def dec31_8 : List PV → Heap → Option S31_8
  | [.ref 0 0, .i .i64 a_, .i .i64 b_, .i .i64 t6_, .own 1, .i .i64 t33_, .i .i64 t34_], [some (.cells 54 [.i .i64 h0_, .i .i64 h02_, .b h03_, .own 1, .own 2, .own 3]), some (.row .entry 89 h1_), some (.row .bool 4 h2_), some (.row .proved 102 h3_)] => some ⟨a_, b_, t6_, t33_, t34_, h0_, h02_, h03_, h1_, h2_, h3_⟩
  | _, _ => none
theorem dec_enc31_8 (vs : List PV) (hs : Heap) (s : S31_8) (h : dec31_8 vs hs = some s) : vs = s.enc ∧ hs = s.encH := by
  unfold dec31_8 at h
  split at h
  · obtain rfl := Option.some.inj h
    exact ⟨rfl, rfl⟩
  · simp at h
def st31_8 {ρ : Type} (s : S31_8) (next : S31_8 → Option ρ) (out : S31_8 × Bool → Option ρ) : Option ρ := (match (decide (s.t34 < s.t33)) with | true => (match (inB s.t34 s.h1.length) with | true => (match (inN (Int.toNat s.t34) s.h1.length) with | true => (match ((decide (s.h1.length ≤ 1000000) && List.all s.h1 (fun x => cmpOk x.r ((atN .entry s.h1 (Int.toNat s.t34)).r) s.h0 s.h02)) || ((!(((atN .entry s.h1 (Int.toNat s.t34)).of_) == s.a)) || false)) with | true => (match (bif (((atN .entry s.h1 (Int.toNat s.t34)).of_) == s.a) then (hasE s.h1 s.b ((atN .entry s.h1 (Int.toNat s.t34)).r) 2 s.h0 s.h02) else false) with | true => out (⟨s.a, s.b, 9, s.t33, s.t34, s.h0, s.h02, s.h03, s.h1, s.h2, s.h3⟩, true) | false => next ⟨s.a, s.b, s.t6, s.t33, (wr (s.t34 + 1)), s.h0, s.h02, s.h03, s.h1, s.h2, s.h3⟩) | false => none) | false => none) | false => none) | false => out (s, false))
def out31_8 (k : Ex → List PV → Heap → Option R) (o : S31_8 × Bool) : Option R := match o.2 with
  | true => k .ret o.1.enc o.1.encH
  | false => k (.exit 0) o.1.enc o.1.encH
def fuel31_8 (s : S31_8) : Nat := s.h1.length + 1
structure S31_14 where
  a : Int
  b : Int
  t54 : Int
  t55 : Int
  h0 : Int
  h02 : Int
  h03 : Bool
  h1 : List Entry
  h2 : List Bool
  h3 : List Proved
def S31_14.enc (s : S31_14) : List PV := [.ref 0 0, .i .i64 s.a, .i .i64 s.b, .i .i64 s.t54, .i .i64 s.t55]
def S31_14.encH (s : S31_14) : Heap := [some (.cells 54 [.i .i64 s.h0, .i .i64 s.h02, .b s.h03, .own 1, .own 2, .own 3]), some (.row .entry 89 s.h1), some (.row .bool 4 s.h2), some (.row .proved 102 s.h3)]
def dec31_14 : List PV → Heap → Option S31_14
  | [.ref 0 0, .i .i64 a_, .i .i64 b_, .i .i64 t54_, .i .i64 t55_], [some (.cells 54 [.i .i64 h0_, .i .i64 h02_, .b h03_, .own 1, .own 2, .own 3]), some (.row .entry 89 h1_), some (.row .bool 4 h2_), some (.row .proved 102 h3_)] => some ⟨a_, b_, t54_, t55_, h0_, h02_, h03_, h1_, h2_, h3_⟩
  | _, _ => none
theorem dec_enc31_14 (vs : List PV) (hs : Heap) (s : S31_14) (h : dec31_14 vs hs = some s) : vs = s.enc ∧ hs = s.encH := by
  unfold dec31_14 at h
  split at h
  · obtain rfl := Option.some.inj h
    exact ⟨rfl, rfl⟩
  · simp at h
def st31_14 {ρ : Type} (s : S31_14) (next : S31_14 → Option ρ) (out : S31_14 → Option ρ) : Option ρ := (match (decide (s.t55 < s.t54)) with | true => (match (inB s.t55 s.h1.length) with | true => (match (inN (Int.toNat s.t55) s.h1.length) with | true => (match (((atN .entry s.h1 (Int.toNat s.t55)).of_) == s.b) with | true => (match (inN (Int.toNat s.t55) s.h1.length) with | true => next ⟨s.a, s.b, s.t54, (wr (s.t55 + 1)), s.h0, s.h02, s.h03, (List.set s.h1 (Int.toNat s.t55) ⟨(atN .entry s.h1 (Int.toNat s.t55)).r, s.a⟩), s.h2, s.h3⟩ | false => none) | false => next ⟨s.a, s.b, s.t54, (wr (s.t55 + 1)), s.h0, s.h02, s.h03, s.h1, s.h2, s.h3⟩) | false => none) | false => none) | false => out s)
def out31_14 (k : Ex → List PV → Heap → Option R) (o : S31_14) : Option R := k (.exit 2) o.enc o.encH
def fuel31_14 (s : S31_14) : Nat := s.h1.length + 1
def K31 : Keep := fun i => match i with
  | 8 => ([0, 1, 2, 6, 32, 33, 34], [0, 1, 2, 3])
  | 14 => ([0, 1, 2, 54, 55], [0, 1, 2, 3])
  | _ => ([], [])
def L31 : Lam := fun b vs hs k => match loopId b with
  | 8 => loopL dec31_8 st31_8 fuel31_8 out31_8 b vs hs k
  | 14 => loopL dec31_14 st31_14 fuel31_14 out31_14 b vs hs k
  | _ => none
noncomputable def b31_8 : Code := (loopsOf (bodyOf Try.f31)).getD 0 .skip
noncomputable def b31_14 : Code := (loopsOf (bodyOf Try.f31)).getD 1 .skip
theorem step31_8 (gl : Gl) (j : Nat) (s : S31_8) (k : Ex → List PV → Heap → Option R) : unroll (cxo gl (mkG [(54, F54), (41, F41J)]) (mkO [(43, 2, FO43)]) none [] rlT [] []) K31 L31 Try.f31.ntmps (Try.f31.ntmps + 16) b31_8 (j + 1) s.enc s.encH k = st31_8 s (fun s' => unroll (cxo gl (mkG [(54, F54), (41, F41J)]) (mkO [(43, 2, FO43)]) none [] rlT [] []) K31 L31 Try.f31.ntmps (Try.f31.ntmps + 16) b31_8 j s'.enc s'.encH k) (out31_8 k) := by kernel_rfl
theorem step31_14 (gl : Gl) (j : Nat) (s : S31_14) (k : Ex → List PV → Heap → Option R) : unroll (cxo gl (mkG [(54, F54), (41, F41J)]) (mkO [(43, 2, FO43)]) none [] rlT [] []) K31 L31 Try.f31.ntmps (Try.f31.ntmps + 16) b31_14 (j + 1) s.enc s.encH k = st31_14 s (fun s' => unroll (cxo gl (mkG [(54, F54), (41, F41J)]) (mkO [(43, 2, FO43)]) none [] rlT [] []) K31 L31 Try.f31.ntmps (Try.f31.ntmps + 16) b31_14 j s'.enc s'.encH k) (out31_14 k) := by kernel_rfl
theorem l31 (gl : Gl) : LoopsOk (cxo gl (mkG [(54, F54), (41, F41J)]) (mkO [(43, 2, FO43)]) none [] rlT [] []) K31 L31 Try.f31.ntmps (Try.f31.ntmps + 16) (loopsOf (bodyOf Try.f31)) := by
  refine loopsOk_list (l := [b31_8, b31_14]) (by kernel_rfl) ?_
  exact List.forall_mem_cons.2 ⟨loopOk1 (fuel := fuel31_8) (enc := S31_8.enc) (encH := S31_8.encH) (fun vs hs k => by kernel_rfl) dec_enc31_8 (step31_8 gl ), List.forall_mem_cons.2 ⟨loopOk1 (fuel := fuel31_14) (enc := S31_14.enc) (encH := S31_14.encH) (fun vs hs k => by kernel_rfl) dec_enc31_14 (step31_14 gl ), (fun _ h => by simp at h)⟩⟩
theorem loop31b (a b : Int) (w d : Int) (m : Bool) (es : List Entry) (op : List Bool) (pr : List Proved) (hx : es.length ≤ 1000000) (out : S31_14 → Option R) :
    iter st31_14 (fuel31_14 (⟨a, b, (es.length : Int), 0, w, d, m, es, op, pr⟩ : S31_14)) (⟨a, b, (es.length : Int), 0, w, d, m, es, op, pr⟩ : S31_14) out = out ⟨a, b, (es.length : Int), (es.length : Int), w, d, m, es.map (mvE a b), op, pr⟩ := by
  have hlast : mvL a b es es.length = es.map (mvE a b) := by unfold mvL; simp
  rw [← hlast]
  refine iter_each (step := st31_14) (F := fun k => (⟨a, b, (es.length : Int), (k : Int), w, d, m, mvL a b es k, op, pr⟩ : S31_14)) (last := (⟨a, b, (es.length : Int), (es.length : Int), w, d, m, mvL a b es es.length, op, pr⟩ : S31_14)) es.length _ (fun k next hk => ?_) (fun next => ?_) _ (Nat.le_refl _) _ rfl
  · simp only [st31_14, decLt_nat hk, mvL_len, inB_nat hk, inN_nat hk, wr_succ (show k ≤ 1000000 by omega), Int.toNat_natCast, mvL_at hk, mvL_succ hk]
    cases ((es[k]).of_ == b) <;> rfl
  · simp only [st31_14, decLt_self]
theorem loop31a (a b : Int) (w d : Int) (m : Bool) (es : List Entry) (op : List Bool) (pr : List Proved) (hx : BookP w d m es op pr) (X Y : Option R) (out : S31_8 × Bool → Option R)
    (hX : ∀ k : Nat, out ((⟨a, b, 9, (es.length : Int), (k : Int), w, d, m, es, op, pr⟩ : S31_8), true) = X) (hY : out ((⟨a, b, 0, (es.length : Int), (es.length : Int), w, d, m, es, op, pr⟩ : S31_8), false) = Y) :
    iter st31_8 (fuel31_8 (⟨a, b, 0, (es.length : Int), 0, w, d, m, es, op, pr⟩ : S31_8)) (⟨a, b, 0, (es.length : Int), 0, w, d, m, es, op, pr⟩ : S31_8) out = bif joinB es w d a b then X else Y := by
  have hl := hx.les
  refine (iter_all (step := st31_8) (F := fun k => (⟨a, b, 0, (es.length : Int), (k : Int), w, d, m, es, op, pr⟩ : S31_8)) (stop := fun k => bif (bif ((atN .entry es k).of_ == a) then hasE es b (atN .entry es k).r 2 w d else false) then some ((⟨a, b, 9, (es.length : Int), (k : Int), w, d, m, es, op, pr⟩ : S31_8), true) else none) (last := ((⟨a, b, 0, (es.length : Int), (es.length : Int), w, d, m, es, op, pr⟩ : S31_8), false)) es.length _ (fun k next hk => ?_) (fun next => ?_) _ (Nat.le_refl _) _ rfl).trans ?_
  · have hr : repOk (atN .entry es k).r = true := hx.rep _ (atN_nat (T := .entry) hk ▸ List.getElem_mem hk)
    simp only [st31_8, decLt_nat hk, inB_nat hk, inN_nat hk, wr_succ (show k ≤ 1000000 by omega), Int.toNat_natCast, hx.cmp hr, decide_eq_true (show es.length ≤ 1000000 by omega), Bool.true_and, Bool.true_or]
    cases (bif ((atN .entry es k).of_ == a) then hasE es b (atN .entry es k).r 2 w d else false) <;> rfl
  · simp only [st31_8, decLt_self]
  · rw [runTo_find (fun x : Entry => bif (x.of_ == a) then hasE es b x.r 2 w d else false) (fun k => ((⟨a, b, 9, (es.length : Int), (k : Int), w, d, m, es, op, pr⟩ : S31_8), true)) _ _ es (fun k hk => by rw [atN_nat hk]) es.length 0 (by omega), List.drop_zero]
    unfold joinB
    rw [← find_any (fun x : Entry => bif (x.of_ == a) then hasE es b x.r 2 w d else false) es]
    cases List.findIdx? (fun x : Entry => bif (x.of_ == a) then hasE es b x.r 2 w d else false) es with
    | none => exact hY
    | some k => exact hX _
theorem fn31 : FnOk 31 Try.f31 := ⟨by kernel_rfl, by kernel_rfl, by kernel_rfl, by kernel_rfl⟩
theorem eo31 (gl : Gl) (a : Int) (b : Int) (w : Int) (d : Int) (m : Bool) (es : List Entry) (op : List Bool) (pr : List Proved) : evO (cxo gl (mkG [(54, F54), (41, F41J)]) (mkO [(43, 2, FO43)]) none [] rlT [] []) K31 L31 4 Try.f31 [.ref 0 0, .i .i64 a, .i .i64 b] [some (.cells 54 [.i .i64 w, .i .i64 d, .b m, .own 1, .own 2, .own 3]), some (.row .entry 89 es), some (.row .bool 4 op), some (.row .proved 102 pr), none, none, none, none] = (match (!m) with | true => ao (.i .i64 1) [some (.cells 54 [.i .i64 w, .i .i64 d, .b m, .own 1, .own 2, .own 3]), some (.row .entry 89 es), some (.row .bool 4 op), some (.row .proved 102 pr), none, none, none, none] | false => (match (decide (es.length ≤ 1000000)) with | true => (match ((decide (es.length ≤ 1000000)) || ((((allL es a).length : Int) == 0) || false)) with | true => (match (bif (((allL es a).length : Int) == 0) then true else (((allL es b).length : Int) == 0)) with | true => ao (.i .i64 7) [some (.cells 54 [.i .i64 w, .i .i64 d, .b m, .own 1, .own 2, .own 3]), some (.row .entry 89 es), some (.row .bool 4 op), some (.row .proved 102 pr), none, none, none, none] | false => (match (a == b) with | true => ao (.i .i64 2) [some (.cells 54 [.i .i64 w, .i .i64 d, .b m, .own 1, .own 2, .own 3]), some (.row .entry 89 es), some (.row .bool 4 op), some (.row .proved 102 pr), none, none, none, none] | false => (iter st31_8 (fuel31_8 (⟨a, b, 0, (es.length : Int), 0, w, d, m, es, op, pr⟩ : S31_8)) (⟨a, b, 0, (es.length : Int), 0, w, d, m, es, op, pr⟩ : S31_8) fun o8 => (match o8.2 with | true => ao (.i .i64 o8.1.t6) [some (.cells 54 [.i .i64 o8.1.h0, .i .i64 o8.1.h02, .b o8.1.h03, .own 1, .own 2, .own 3]), some (.row .entry 89 o8.1.h1), some (.row .bool 4 o8.1.h2), some (.row .proved 102 o8.1.h3), none, none, none, none] | false => (iter st31_14 (fuel31_14 (⟨o8.1.a, o8.1.b, (o8.1.h1.length : Int), 0, o8.1.h0, o8.1.h02, o8.1.h03, o8.1.h1, o8.1.h2, o8.1.h3⟩ : S31_14)) (⟨o8.1.a, o8.1.b, (o8.1.h1.length : Int), 0, o8.1.h0, o8.1.h02, o8.1.h03, o8.1.h1, o8.1.h2, o8.1.h3⟩ : S31_14) fun o14 => (match (inB o14.a o14.h2.length) with | true => (match (inN (Int.toNat o14.a) o14.h2.length) with | true => (match (inB o14.b ((List.set o14.h2 (Int.toNat o14.a) true).length)) with | true => (match (inN (Int.toNat o14.b) ((List.set o14.h2 (Int.toNat o14.a) true).length)) with | true => ao (.i .i64 0) [some (.cells 54 [.i .i64 o14.h0, .i .i64 o14.h02, .b o14.h03, .own 1, .own 2, .own 3]), some (.row .entry 89 o14.h1), some (.row .bool 4 (List.set (List.set o14.h2 (Int.toNat o14.a) true) (Int.toNat o14.b) false)), some (.row .proved 102 o14.h3), none, none, none, none] | false => none) | false => none) | false => none) | false => none)))))) | false => none) | false => none)) := by kernel_rfl
def FO31 : ObjF
  | [.ref 0 0, .i .i64 a, .i .i64 b], [some (.cells 54 [.i .i64 w, .i .i64 d, .b m, .own 1, .own 2, .own 3]), some (.row .entry 89 es), some (.row .bool 4 op), some (.row .proved 102 pr), none, none, none, none] => some ((bookOk w d m es op pr), .i .i64 (joinE es w d a b), [some (.cells 54 [.i .i64 w, .i .i64 d, .b m, .own 1, .own 2, .own 3]), some (.row .entry 89 (joinS es w d a b)), some (.row .bool 4 (joinO es op w d a b)), some (.row .proved 102 pr), none, none, none, none])
  | _, _ => none
theorem so31 {gl : Gl} : OSum gl 31 FO31 := by
  intro ps os r os2 h
  unfold FO31 at h
  split at h
  · rename_i a b w d m es op pr
    obtain ⟨hc, h2_⟩ := Prod.mk.inj (Option.some.inj h)
    obtain ⟨rfl, rfl⟩ := Prod.mk.inj h2_
    refine obj_by (K := K31) (L := L31) (bxs := []) (ows := []) (n0 := 4) (GOk.cons s54 (GOk.cons s41J (GOk.nil))) (OOk.cons so43 (OOk.nil)) fn31 (l31 gl) (by kernel_rfl) ((eo31 gl a b w d m es op pr).trans ?_)
    have hB := book_iff.1 hc
    have hl := hB.les
    obtain rfl := hB.made
    rw [decide_eq_true (show es.length ≤ 1000000 by omega)]
    unfold joinS joinO joinE
    cases ha : (((allL es a).length : Int) == 0) with
    | true => rfl
    | false =>
      cases hb : (((allL es b).length : Int) == 0) with
      | true => rfl
      | false =>
        cases hab : (a == b) with
        | true => rfl
        | false =>
          refine (loop31a a b w d true es op pr hB (ao (.i .i64 9) [some (.cells 54 [.i .i64 w, .i .i64 d, .b true, .own 1, .own 2, .own 3]), some (.row .entry 89 es), some (.row .bool 4 op), some (.row .proved 102 pr), none, none, none, none]) _ _ (fun k => rfl) rfl).trans ?_
          cases joinB es w d a b with
          | true => rfl
          | false =>
            refine (loop31b a b w d true es op pr (by omega) _).trans ?_
            have i1 := hB.inc ha
            have i2 := hB.inc hb
            have i2 : inB b (List.set op (Int.toNat a) true).length = true := by rw [List.length_set]; exact i2
            simp only [i1, inB_inN i1, i2, inB_inN i2]
            rfl
  · simp at h
structure S19_4 where
  t11 : List Bool
  t12 : Int
  t13 : Int
  l : List Int
def S19_4.enc (s : S19_4) : List PV := [.own 11, .sl .bool s.t11, .i .i64 s.t12, .i .i64 s.t13]
def S19_4.encH (s : S19_4) : Heap := [some (.row .int 3 s.l)]
def dec19_4 : List PV → Heap → Option S19_4
  | [.own 11, .sl .bool t11_, .i .i64 t12_, .i .i64 t13_], [some (.row .int 3 l_)] => some ⟨t11_, t12_, t13_, l_⟩
  | _, _ => none
theorem dec_enc19_4 (vs : List PV) (hs : Heap) (s : S19_4) (h : dec19_4 vs hs = some s) : vs = s.enc ∧ hs = s.encH := by
  unfold dec19_4 at h
  split at h
  · obtain rfl := Option.some.inj h
    exact ⟨rfl, rfl⟩
  · simp at h
def st19_4 {ρ : Type} (s : S19_4) (next : S19_4 → Option ρ) (out : S19_4 → Option ρ) : Option ρ := (match (decide (s.t13 < s.t12)) with | true => (match (inB s.t13 s.t11.length) with | true => (match (atD .bool s.t11 s.t13) with | true => (match (decide ((s.l.length + 1) * 8 ≤ 140737488355328)) with | true => next ⟨s.t11, s.t12, (wr (s.t13 + 1)), (s.l ++ ([s.t13] : List Int))⟩ | false => none) | false => next ⟨s.t11, s.t12, (wr (s.t13 + 1)), s.l⟩) | false => none) | false => out s)
def out19_4 (k : Ex → List PV → Heap → Option R) (o : S19_4) : Option R := k (.exit 0) o.enc o.encH
def fuel19_4 (s : S19_4) : Nat := s.t11.length + 1
def K19 : Keep := fun _ => ([3, 11, 12, 13], [11])
def L19 : Lam := loopL dec19_4 st19_4 fuel19_4 out19_4
noncomputable def b19_4 : Code := (loopsOf (bodyOf Try.f19)).getD 0 .skip
theorem step19_4 (gl : Gl) (j : Nat) (s : S19_4) (k : Ex → List PV → Heap → Option R) : unroll (cxo gl (mkG [(41, F41J)]) (mkO []) none [] rlT [] [10, 11]) K19 L19 Try.f19.ntmps (Try.f19.ntmps + 16) b19_4 (j + 1) s.enc s.encH k = st19_4 s (fun s' => unroll (cxo gl (mkG [(41, F41J)]) (mkO []) none [] rlT [] [10, 11]) K19 L19 Try.f19.ntmps (Try.f19.ntmps + 16) b19_4 j s'.enc s'.encH k) (out19_4 k) := by kernel_rfl
theorem l19 (gl : Gl) : LoopsOk (cxo gl (mkG [(41, F41J)]) (mkO []) none [] rlT [] [10, 11]) K19 L19 Try.f19.ntmps (Try.f19.ntmps + 16) (loopsOf (bodyOf Try.f19)) := by
  refine loopsOk_list (l := [b19_4]) (by kernel_rfl) ?_
  exact List.forall_mem_cons.2 ⟨loopOk1 (fuel := fuel19_4) (enc := S19_4.enc) (encH := S19_4.encH) (fun vs hs k => by kernel_rfl) dec_enc19_4 (step19_4 gl ), (fun _ h => by simp at h)⟩
theorem loop19 (op : List Bool) (hx : op.length ≤ 1000000) (out : S19_4 → Option R) : iter st19_4 (fuel19_4 (⟨op, (op.length : Int), 0, ([])⟩ : S19_4)) (⟨op, (op.length : Int), 0, ([])⟩ : S19_4) out = out ⟨op, (op.length : Int), (op.length : Int), openA op⟩ := by
  refine iter_each (step := st19_4) (F := fun k => (⟨op, (op.length : Int), (k : Int), openL op k⟩ : S19_4)) (last := (⟨op, (op.length : Int), (op.length : Int), openA op⟩ : S19_4)) op.length _ (fun k next hk => ?_) (fun next => ?_) _ (Nat.le_refl _) _ rfl
  · have hl := openL_len op k
    simp only [st19_4, decLt_nat hk, inB_nat hk, wr_succ (show k ≤ 1000000 by omega), atD, Int.toNat_natCast, decide_eq_true (show ((openL op k).length + 1) * 8 ≤ 140737488355328 by omega)]
    show (match atN .bool op k with | true => _ | false => _) = next (⟨op, (op.length : Int), ((k + 1 : Nat) : Int), (bif atN .bool op k then openL op k ++ [(k : Int)] else openL op k)⟩ : S19_4)
    cases atN .bool op k <;> rfl
  · simp only [st19_4, decLt_self]
    rfl
theorem fn19 : FnOk 19 Try.f19 := ⟨by kernel_rfl, by kernel_rfl, by kernel_rfl, by kernel_rfl⟩
theorem eo19 (gl : Gl) (w : Int) (d : Int) (m : Bool) (es : List Entry) (op : List Bool) (pr : List Proved) : evO (cxo gl (mkG [(41, F41J)]) (mkO []) none [] rlT [] [10, 11]) K19 L19 0 Try.f19 [.ptr [.i .i64 w, .i .i64 d, .b m, .sl .entry es, .sl .bool op, .sl .proved pr] 0] [none, none, none, none, none, none, none, none] = (match m with | true => (iter st19_4 (fuel19_4 (⟨op, (op.length : Int), 0, ([])⟩ : S19_4)) (⟨op, (op.length : Int), 0, ([])⟩ : S19_4) fun o4 => ao (.own 0) [some (.row .int 3 o4.l), none, none, none, none, none, none, none]) | false => ao (.own 0) [some (.row .int 3 ([])), none, none, none, none, none, none, none]) := by kernel_rfl
def FO19 : ObjF
  | [.ptr [.i .i64 w, .i .i64 d, .b m, .sl .entry es, .sl .bool op, .sl .proved pr] 0], [none, none, none, none, none, none, none, none] => some ((bookOk w d m es op pr), .own 0, [some (.row .int 3 (openA op)), none, none, none, none, none, none, none])
  | _, _ => none
theorem so19 {gl : Gl} : OSum gl 19 FO19 := by
  intro ps os r os2 h
  unfold FO19 at h
  split at h
  · rename_i w d m es op pr
    obtain ⟨hc, h2_⟩ := Prod.mk.inj (Option.some.inj h)
    obtain ⟨rfl, rfl⟩ := Prod.mk.inj h2_
    refine obj_by (K := K19) (L := L19) (bxs := []) (ows := [10, 11]) (n0 := 0) (GOk.cons s41J (GOk.nil)) (OOk.nil) fn19 (l19 gl) (by kernel_rfl) ((eo19 gl w d m es op pr).trans ?_)
    have hB := book_iff.1 hc
    have hl := hB.lop
    obtain rfl := hB.made
    exact loop19 op (by omega) _
  · simp at h
def reportsL (es : List Entry) (op : List Bool) (inc : Int) : List Int := bif !(within inc 0 (wr ((op.length : Int) - 1))) then [] else allL es inc
def missA (es : List Entry) (op : List Bool) (pr : List Proved) (inc : Int) : List Int := bif !(within inc 0 (wr ((op.length : Int) - 1))) then [] else missL es pr inc
def incE (op : List Bool) (inc : Int) : Int := bif !(within inc 0 (wr ((op.length : Int) - 1))) then 7 else 0
def repE (es : List Entry) (n : Int) : Int := bif !(within n 0 (wr ((es.length : Int) - 1))) then 7 else 0
def repO (es : List Entry) (n : Int) : Int := bif !(within n 0 (wr ((es.length : Int) - 1))) then 0 else (atN .entry es (Int.toNat n)).of_
def noRep : Report := ⟨0, 0, ⟨#[]⟩, ⟨#[]⟩, [], 0, 0⟩
def repR (es : List Entry) (n : Int) : Report := bif !(within n 0 (wr ((es.length : Int) - 1))) then noRep else (atN .entry es (Int.toNat n)).r
theorem fn16 : FnOk 16 Try.f16 := ⟨by kernel_rfl, by kernel_rfl, by kernel_rfl, by kernel_rfl⟩
theorem eo16 (gl : Gl) (w : Int) (d : Int) (m : Bool) (es : List Entry) (op : List Bool) (pr : List Proved) (inc : Int) : evO (cxo gl (mkG [(41, F41J), (42, F42)]) (mkO [(43, 2, FO43)]) none [] rlT [] [12]) noK noL 0 Try.f16 [.ptr [.i .i64 w, .i .i64 d, .b m, .sl .entry es, .sl .bool op, .sl .proved pr] 0, .i .i64 inc] [none, none, none, none, none, none, none, none] = (match (!m) with | true => ao (.tup [.own 0, .i .i64 1]) [some (.row .int 3 ([])), none, none, none, none, none, none, none] | false => (match (!(within inc 0 (wr ((op.length : Int) - 1)))) with | true => ao (.tup [.own 0, .i .i64 7]) [some (.row .int 3 ([])), none, none, none, none, none, none, none] | false => (match (decide (es.length ≤ 1000000)) with | true => ao (.tup [.own 0, .i .i64 0]) [some (.row .int 3 (allL es inc)), none, none, none, none, none, none, none] | false => none))) := by kernel_rfl
def FO16 : ObjF
  | [.ptr [.i .i64 w, .i .i64 d, .b m, .sl .entry es, .sl .bool op, .sl .proved pr] 0, .i .i64 inc], [none, none, none, none, none, none, none, none] => some ((bookOk w d m es op pr), .tup [.own 0, .i .i64 (incE op inc)], [some (.row .int 3 (reportsL es op inc)), none, none, none, none, none, none, none])
  | _, _ => none
theorem so16 {gl : Gl} : OSum gl 16 FO16 := by
  intro ps os r os2 h
  unfold FO16 at h
  split at h
  · rename_i w d m es op pr inc
    obtain ⟨hc, h2_⟩ := Prod.mk.inj (Option.some.inj h)
    obtain ⟨rfl, rfl⟩ := Prod.mk.inj h2_
    refine obj_by (K := noK) (L := noL) (bxs := []) (ows := [12]) (n0 := 0) (GOk.cons s41J (GOk.cons s42 (GOk.nil))) (OOk.cons so43 (OOk.nil)) fn16 (noLoops (by kernel_rfl)) (by kernel_rfl) ((eo16 gl w d m es op pr inc).trans ?_)
    have hB := book_iff.1 hc
    have hl := hB.les
    have hp := hB.pc
    obtain rfl := hB.made
    unfold reportsL incE
    rw [decide_eq_true (show es.length ≤ 1000000 by omega)]
    try rw [hp]
    cases within inc 0 (wr ((op.length : Int) - 1)) <;> rfl
  · simp at h
theorem fn18 : FnOk 18 Try.f18 := ⟨by kernel_rfl, by kernel_rfl, by kernel_rfl, by kernel_rfl⟩
theorem eo18 (gl : Gl) (w : Int) (d : Int) (m : Bool) (es : List Entry) (op : List Bool) (pr : List Proved) (inc : Int) : evO (cxo gl (mkG [(41, F41J), (42, F42)]) (mkO [(46, 2, FO46)]) none [] rlT [] [12]) noK noL 0 Try.f18 [.ptr [.i .i64 w, .i .i64 d, .b m, .sl .entry es, .sl .bool op, .sl .proved pr] 0, .i .i64 inc] [none, none, none, none, none, none, none, none] = (match (!m) with | true => ao (.tup [.own 0, .i .i64 1]) [some (.row .int 3 ([])), none, none, none, none, none, none, none] | false => (match (!(within inc 0 (wr ((op.length : Int) - 1)))) with | true => ao (.tup [.own 0, .i .i64 7]) [some (.row .int 3 ([])), none, none, none, none, none, none, none] | false => (match (decide (es.length ≤ 1000000) && prC es pr) with | true => ao (.tup [.own 0, .i .i64 0]) [some (.row .int 3 (missL es pr inc)), none, none, none, none, none, none, none] | false => none))) := by kernel_rfl
def FO18 : ObjF
  | [.ptr [.i .i64 w, .i .i64 d, .b m, .sl .entry es, .sl .bool op, .sl .proved pr] 0, .i .i64 inc], [none, none, none, none, none, none, none, none] => some ((bookOk w d m es op pr), .tup [.own 0, .i .i64 (incE op inc)], [some (.row .int 3 (missA es op pr inc)), none, none, none, none, none, none, none])
  | _, _ => none
theorem so18 {gl : Gl} : OSum gl 18 FO18 := by
  intro ps os r os2 h
  unfold FO18 at h
  split at h
  · rename_i w d m es op pr inc
    obtain ⟨hc, h2_⟩ := Prod.mk.inj (Option.some.inj h)
    obtain ⟨rfl, rfl⟩ := Prod.mk.inj h2_
    refine obj_by (K := noK) (L := noL) (bxs := []) (ows := [12]) (n0 := 0) (GOk.cons s41J (GOk.cons s42 (GOk.nil))) (OOk.cons so46 (OOk.nil)) fn18 (noLoops (by kernel_rfl)) (by kernel_rfl) ((eo18 gl w d m es op pr inc).trans ?_)
    have hB := book_iff.1 hc
    have hl := hB.les
    have hp := hB.pc
    obtain rfl := hB.made
    unfold missA incE
    rw [decide_eq_true (show es.length ≤ 1000000 by omega)]
    try rw [hp]
    cases within inc 0 (wr ((op.length : Int) - 1)) <;> rfl
  · simp at h
theorem fn17 : FnOk 17 Try.f17 := ⟨by kernel_rfl, by kernel_rfl, by kernel_rfl, by kernel_rfl⟩
theorem eo17 (gl : Gl) (n : Int) (w : Int) (d : Int) (m : Bool) (es : List Entry) (op : List Bool) (pr : List Proved) : evO (cxo gl (mkG [(41, F41J), (44, F44), (45, F45)]) (mkO []) none [] rlT [] []) noK noL 4 Try.f17 [.ref 0 0, .i .i64 n] [some (.cells 54 [.i .i64 w, .i .i64 d, .b m, .own 1, .own 2, .own 3]), some (.row .entry 89 es), some (.row .bool 4 op), some (.row .proved 102 pr), none, none, none, none] = (match (!m) with | true => ao (.tup [.agg [.i .i64 0, .i .i64 0, .s (⟨#[]⟩ : ByteArray), .s (⟨#[]⟩ : ByteArray), .sl .spot ([] : List Spot), .i .i64 0, .i .i64 0], .i .i64 0, .i .i64 1]) [some (.cells 54 [.i .i64 w, .i .i64 d, .b m, .own 1, .own 2, .own 3]), some (.row .entry 89 es), some (.row .bool 4 op), some (.row .proved 102 pr), none, none, none, none] | false => (match (!(within n 0 (wr ((es.length : Int) - 1)))) with | true => ao (.tup [.agg [.i .i64 0, .i .i64 0, .s (⟨#[]⟩ : ByteArray), .s (⟨#[]⟩ : ByteArray), .sl .spot ([] : List Spot), .i .i64 0, .i .i64 0], .i .i64 0, .i .i64 7]) [some (.cells 54 [.i .i64 w, .i .i64 d, .b m, .own 1, .own 2, .own 3]), some (.row .entry 89 es), some (.row .bool 4 op), some (.row .proved 102 pr), none, none, none, none] | false => (match (inB n es.length) with | true => (match (inN (Int.toNat n) es.length) with | true => (match (decide (((atN .entry es (Int.toNat n)).r).wher.length ≤ 1000000)) with | true => (match (inB n es.length) with | true => (match (inN (Int.toNat n) es.length) with | true => ao (.tup [.agg [.i .i64 (((atN .entry es (Int.toNat n)).r).kind), .i .i64 (((atN .entry es (Int.toNat n)).r).time), .s (((atN .entry es (Int.toNat n)).r).source), .s (((atN .entry es (Int.toNat n)).r).about), .sl .spot (((atN .entry es (Int.toNat n)).r).wher), .i .i64 (((atN .entry es (Int.toNat n)).r).souls), .i .i64 (((atN .entry es (Int.toNat n)).r).trust)], .i .i64 ((atN .entry es (Int.toNat n)).of_), .i .i64 0]) [some (.cells 54 [.i .i64 w, .i .i64 d, .b m, .own 1, .own 2, .own 3]), some (.row .entry 89 es), some (.row .bool 4 op), some (.row .proved 102 pr), none, none, none, none] | false => none) | false => none) | false => none) | false => none) | false => none))) := by kernel_rfl
def FO17 : ObjF
  | [.ref 0 0, .i .i64 n], [some (.cells 54 [.i .i64 w, .i .i64 d, .b m, .own 1, .own 2, .own 3]), some (.row .entry 89 es), some (.row .bool 4 op), some (.row .proved 102 pr), none, none, none, none] => some ((bookOk w d m es op pr), .tup [.agg [.i .i64 ((repR es n).kind), .i .i64 ((repR es n).time), .s ((repR es n).source), .s ((repR es n).about), .sl .spot ((repR es n).wher), .i .i64 ((repR es n).souls), .i .i64 ((repR es n).trust)], .i .i64 (repO es n), .i .i64 (repE es n)], [some (.cells 54 [.i .i64 w, .i .i64 d, .b m, .own 1, .own 2, .own 3]), some (.row .entry 89 es), some (.row .bool 4 op), some (.row .proved 102 pr), none, none, none, none])
  | _, _ => none
theorem so17 {gl : Gl} : OSum gl 17 FO17 := by
  intro ps os r os2 h
  unfold FO17 at h
  split at h
  · rename_i n w d m es op pr
    obtain ⟨hc, h2_⟩ := Prod.mk.inj (Option.some.inj h)
    obtain ⟨rfl, rfl⟩ := Prod.mk.inj h2_
    refine obj_by (K := noK) (L := noL) (bxs := []) (ows := []) (n0 := 4) (GOk.cons s41J (GOk.cons s44 (GOk.cons s45 (GOk.nil)))) (OOk.nil) fn17 (noLoops (by kernel_rfl)) (by kernel_rfl) ((eo17 gl n w d m es op pr).trans ?_)
    have hB := book_iff.1 hc
    have hl := hB.les
    obtain rfl := hB.made
    unfold repR repO repE
    cases hw : within n 0 (wr ((es.length : Int) - 1)) with
    | false => rfl
    | true =>
      obtain ⟨i1, i2⟩ := within_in (show es.length ≤ 1000000 by omega) hw
      have hr : repOk (atN .entry es (Int.toNat n)).r = true := at_ok (List.all_eq_true.2 hB.rep) i2
      have := (repP hr).area.n12
      rw [i1, i2, decide_eq_true (show (atN .entry es (Int.toNat n)).r.wher.length ≤ 1000000 by omega)]
      rfl
  · simp at h
end Go.Proofs.Ytklgaodfakdjpaa.Ev
/- Summaries of functions, printed by a program out of a list, and what is made of them. -/
namespace Go.Proofs.Ytklgaodfakdjpaa.Ev
open Go Go.RowKit Go.Proofs
/-- What a call answers, and what becomes of the book. -/
def doesN (es : List Entry) (op : List Bool) (pr : List Proved) (w d : Int) (a : Act') : Int := bif (a.what == 1) then 0 else bif (a.what == 2) then closeN es op pr a.n else bif (a.what == 3) then 0 else takeN es op a.r w d
def doesM (es : List Entry) (op : List Bool) (w d : Int) (a : Act') : Int := bif (a.what == 1) then 0 else bif (a.what == 2) then 0 else bif (a.what == 3) then 0 else takeY es op a.r w d
def doesE (es : List Entry) (op : List Bool) (pr : List Proved) (w d : Int) (a : Act') : Int := bif (a.what == 1) then provE es pr w a.p else bif (a.what == 2) then closeE es op pr a.n else bif (a.what == 3) then joinE es w d a.n a.m else takeE es a.r
def doesS (es : List Entry) (op : List Bool) (w d : Int) (a : Act') : List Entry := bif (a.what == 1) then es else bif (a.what == 2) then es else bif (a.what == 3) then joinS es w d a.n a.m else takeS es op a.r w d
def doesO (es : List Entry) (op : List Bool) (pr : List Proved) (w d : Int) (a : Act') : List Bool := bif (a.what == 1) then op else bif (a.what == 2) then closeO es op pr a.n else bif (a.what == 3) then joinO es op w d a.n a.m else takeO es op a.r w d
def doesP (es : List Entry) (pr : List Proved) (w : Int) (a : Act') : List Proved := bif (a.what == 1) then provS es pr w a.p else bif (a.what == 2) then pr else bif (a.what == 3) then pr else pr
theorem BookP.b1 {w d : Int} {m : Bool} {es : List Entry} {op : List Bool} {pr : List Proved} (h : BookP w d m es op pr) : (m && ((decide (es.length ≤ 1000000) && decide (op.length ≤ 1000000)) && prC es pr)) = true := by
  rw [h.made, decide_eq_true (show es.length ≤ 1000000 by have := h.les; omega), decide_eq_true (show op.length ≤ 1000000 by have := h.lop; omega), h.pc]
  rfl
theorem BookP.b2 {w d : Int} {m : Bool} {es : List Entry} {op : List Bool} {pr : List Proved} (h : BookP w d m es op pr) (r : Report) : (m && ((decide (es.length ≤ 1000000) && decide (op.length ≤ 1000000)) && prC es pr) && (!(repOk r) || List.all es (fun x => cmpOk x.r r w d))) = true := by
  rw [h.b1]
  cases hr : repOk r with
  | false => rfl
  | true => rw [h.cmp hr]; rfl
theorem BookP.b3 {w d : Int} {m : Bool} {es : List Entry} {op : List Bool} {pr : List Proved} (h : BookP w d m es op pr) : (m && ((decide (es.length ≤ 1000000) && decide (op.length ≤ 1000000)) && prC es pr) && List.all es (fun x => repOk x.r)) = true := by
  rw [h.b1, List.all_eq_true.2 h.rep]
  rfl
theorem fn13 : FnOk 13 Try.f13 := ⟨by kernel_rfl, by kernel_rfl, by kernel_rfl, by kernel_rfl⟩
theorem eo13 (gl : Gl) (a : Act') (w : Int) (d : Int) (m : Bool) (es : List Entry) (op : List Bool) (pr : List Proved) : evO (cxo gl (mkG []) (mkO [(28, 1, FO28), (27, 1, FO27), (31, 1, FO31), (26, 1, FO26)]) none [] rlT [] []) noK noL 4 Try.f13 [.ref 0 0, .agg [.i .i64 a.what, .i .i64 a.n, .i .i64 a.m, .i .i64 a.r.kind, .i .i64 a.r.time, .s a.r.source, .s a.r.about, .sl .spot a.r.wher, .i .i64 a.r.souls, .i .i64 a.r.trust, .i .i64 a.p.kind, .i .i64 a.p.report, .i .i64 a.p.time, .s a.p.by_, .sl .spot a.p.wher, .i .i64 a.p.count]] [some (.cells 54 [.i .i64 w, .i .i64 d, .b m, .own 1, .own 2, .own 3]), some (.row .entry 89 es), some (.row .bool 4 op), some (.row .proved 102 pr), none, none, none, none] = (match (a.what == 1) with | true => (match (m && ((decide (es.length ≤ 1000000) && decide (op.length ≤ 1000000)) && prC es pr) && List.all es (fun x => repOk x.r)) with | true => ao (.tup [.i .i64 0, .i .i64 0, .i .i64 (provE es pr w a.p)]) [some (.cells 54 [.i .i64 w, .i .i64 d, .b m, .own 1, .own 2, .own 3]), some (.row .entry 89 es), some (.row .bool 4 op), some (.row .proved 102 (provS es pr w a.p)), none, none, none, none] | false => none) | false => (match (a.what == 2) with | true => (match (m && ((decide (es.length ≤ 1000000) && decide (op.length ≤ 1000000)) && prC es pr)) with | true => ao (.tup [.i .i64 (closeN es op pr a.n), .i .i64 0, .i .i64 (closeE es op pr a.n)]) [some (.cells 54 [.i .i64 w, .i .i64 d, .b m, .own 1, .own 2, .own 3]), some (.row .entry 89 es), some (.row .bool 4 (closeO es op pr a.n)), some (.row .proved 102 pr), none, none, none, none] | false => none) | false => (match (a.what == 3) with | true => (match (bookOk w d m es op pr) with | true => ao (.tup [.i .i64 0, .i .i64 0, .i .i64 (joinE es w d a.n a.m)]) [some (.cells 54 [.i .i64 w, .i .i64 d, .b m, .own 1, .own 2, .own 3]), some (.row .entry 89 (joinS es w d a.n a.m)), some (.row .bool 4 (joinO es op w d a.n a.m)), some (.row .proved 102 pr), none, none, none, none] | false => none) | false => (match (m && ((decide (es.length ≤ 1000000) && decide (op.length ≤ 1000000)) && prC es pr) && (!(repOk a.r) || List.all es (fun x => cmpOk x.r a.r w d))) with | true => ao (.tup [.i .i64 (takeN es op a.r w d), .i .i64 (takeY es op a.r w d), .i .i64 (takeE es a.r)]) [some (.cells 54 [.i .i64 w, .i .i64 d, .b m, .own 1, .own 2, .own 3]), some (.row .entry 89 (takeS es op a.r w d)), some (.row .bool 4 (takeO es op a.r w d)), some (.row .proved 102 pr), none, none, none, none] | false => none)))) := by kernel_rfl
def FO13 : ObjF
  | [.ref 0 0, .agg aL], [some (.cells 54 [.i .i64 w, .i .i64 d, .b m, .own 1, .own 2, .own 3]), some (.row .entry 89 es), some (.row .bool 4 op), some (.row .proved 102 pr), none, none, none, none] => (ETy.dec .act aL).bind fun a => some ((bookOk w d m es op pr), .tup [.i .i64 (doesN es op pr w d a), .i .i64 (doesM es op w d a), .i .i64 (doesE es op pr w d a)], [some (.cells 54 [.i .i64 w, .i .i64 d, .b m, .own 1, .own 2, .own 3]), some (.row .entry 89 (doesS es op w d a)), some (.row .bool 4 (doesO es op pr w d a)), some (.row .proved 102 (doesP es pr w a)), none, none, none, none])
  | _, _ => none
theorem so13 {gl : Gl} : OSum gl 13 FO13 := by
  intro ps os r os2 h
  unfold FO13 at h
  split at h
  · rename_i aL w d m es op pr
    obtain ⟨a, ha, h_a⟩ := Option.bind_eq_some_iff.1 h
    obtain rfl := dec_is (by simp) ha
    obtain ⟨hc, h2_⟩ := Prod.mk.inj (Option.some.inj h_a)
    obtain ⟨rfl, rfl⟩ := Prod.mk.inj h2_
    refine obj_by (K := noK) (L := noL) (bxs := []) (ows := []) (n0 := 4) (GOk.nil) (OOk.cons so28 (OOk.cons so27 (OOk.cons so31 (OOk.cons so26 (OOk.nil))))) fn13 (noLoops (by kernel_rfl)) (by kernel_rfl) ((eo13 gl a w d m es op pr).trans ?_)
    have hB := book_iff.1 hc
    have h1 := hB.b1
    have h2 := hB.b2 a.r
    have h3 := hB.b3
    unfold doesN doesM doesE doesS doesO doesP
    rw [h2]
    try rw [h3]
    simp only [h1, hc]
    cases (a.what == 1) with
    | true => rfl
    | false =>
      cases (a.what == 2) with
      | true => rfl
      | false => cases (a.what == 3) <;> rfl
  · simp at h
structure S9_4 where
  l : List Act'
  t2 : Bool
  i : Int
def S9_4.enc (s : S9_4) : List PV := [.sl .act s.l, .b s.t2, .i .i64 s.i]
def S9_4.encH (s : S9_4) : Heap := []
def dec9_4 : List PV → Heap → Option S9_4
  | [.sl .act l_, .b t2_, .i .i64 i_], [] => some ⟨l_, t2_, i_⟩
  | _, _ => none
theorem dec_enc9_4 (vs : List PV) (hs : Heap) (s : S9_4) (h : dec9_4 vs hs = some s) : vs = s.enc ∧ hs = s.encH := by
  unfold dec9_4 at h
  split at h
  · obtain rfl := Option.some.inj h
    exact ⟨rfl, rfl⟩
  · simp at h
def st9_4 {ρ : Type} (s : S9_4) (next : S9_4 → Option ρ) (out : S9_4 × Bool → Option ρ) : Option ρ := (match (decide (s.i < (s.l.length : Int))) with | true => (match (inB s.i s.l.length) with | true => (match ((inB s.i s.l.length) || ((greatR ((atD .act s.l s.i).r)) || false)) with | true => (match ((inB s.i s.l.length) || ((bif (greatR ((atD .act s.l s.i).r)) then true else (decide ((((atD .act s.l s.i).p.by_).size : Int) > 100))) || false)) with | true => (match (bif (bif (greatR ((atD .act s.l s.i).r)) then true else (decide ((((atD .act s.l s.i).p.by_).size : Int) > 100))) then true else (decide ((((atD .act s.l s.i).p.wher).length : Int) > 30))) with | true => out (⟨s.l, true, s.i⟩, true) | false => next ⟨s.l, s.t2, (wr (s.i + 1))⟩) | false => none) | false => none) | false => none) | false => out (s, false))
def out9_4 (k : Ex → List PV → Heap → Option R) (o : S9_4 × Bool) : Option R := match o.2 with
  | true => k .ret o.1.enc o.1.encH
  | false => k (.exit 0) o.1.enc o.1.encH
def fuel9_4 (s : S9_4) : Nat := 61
def K9 : Keep := fun _ => ([0, 2, 3], [])
def L9 : Lam := loopL dec9_4 st9_4 fuel9_4 out9_4
noncomputable def b9_4 : Code := (loopsOf (bodyOf Try.f9)).getD 0 .skip
theorem step9_4 (gl : Gl) (j : Nat) (s : S9_4) (k : Ex → List PV → Heap → Option R) : unroll (cx gl (mkG [(21, F21)]) [] []) K9 L9 Try.f9.ntmps (Try.f9.ntmps + 16) b9_4 (j + 1) s.enc s.encH k = st9_4 s (fun s' => unroll (cx gl (mkG [(21, F21)]) [] []) K9 L9 Try.f9.ntmps (Try.f9.ntmps + 16) b9_4 j s'.enc s'.encH k) (out9_4 k) := by kernel_rfl
theorem l9 (gl : Gl) : LoopsOk (cx gl (mkG [(21, F21)]) [] []) K9 L9 Try.f9.ntmps (Try.f9.ntmps + 16) (loopsOf (bodyOf Try.f9)) := by
  refine loopsOk_list (l := [b9_4]) (by kernel_rfl) ?_
  exact List.forall_mem_cons.2 ⟨loopOk1 (fuel := fuel9_4) (enc := S9_4.enc) (encH := S9_4.encH) (fun vs hs k => by kernel_rfl) dec_enc9_4 (step9_4 gl ), (fun _ h => by simp at h)⟩
/-- Is it too much for a statement? -/
def badAct (a : Act') : Bool := bif (bif (greatR a.r) then true else (decide (((a.p.by_).size : Int) > 100))) then true else (decide (((a.p.wher).length : Int) > 30))
def greatL (l : List Act') : Bool := bif (decide ((l.length : Int) > 60)) then true else List.any l badAct
theorem fn9 : FnOk 9 Try.f9 := ⟨by kernel_rfl, by kernel_rfl, by kernel_rfl, by kernel_rfl⟩
theorem e9 (gl : Gl) (l : List Act') : evFn (cx gl (mkG [(21, F21)]) [] []) K9 L9 Try.f9 [.sl .act l] noObjs = (match (decide ((l.length : Int) > 60)) with | true => an (.b true) | false => (iter st9_4 (fuel9_4 (⟨l, false, 0⟩ : S9_4)) (⟨l, false, 0⟩ : S9_4) fun o4 => (match o4.2 with | true => an (.b o4.1.t2) | false => an (.b false)))) := by kernel_rfl
def F9 : List PV → Option (Bool × PV)
  | [.sl .act l] => some (true, .b (greatL l))
  | _ => none
theorem s9 {gl : Gl} : Sum gl 9 F9 := by
  intro ps r h
  unfold F9 at h
  split at h
  · rename_i l
    obtain ⟨hc, rfl⟩ := Prod.mk.inj (Option.some.inj h)
    refine call_by (K := K9) (L := L9) (bxs := []) (ows := []) (GOk.cons s21 (GOk.nil)) fn9 (l9 gl) (by kernel_rfl) (evF_some ((e9 gl l).trans ?_))
    unfold greatL
    cases hl : decide ((l.length : Int) > 60) with
    | true => rfl
    | false =>
      have hx : l.length ≤ 60 := by have := of_decide_eq_false hl; omega
      refine (iter_all (step := st9_4) (F := fun k => (⟨l, false, (k : Int)⟩ : S9_4)) (stop := fun k => bif badAct (atN .act l k) then some ((⟨l, true, (k : Int)⟩ : S9_4), true) else none) (last := ((⟨l, false, (l.length : Int)⟩ : S9_4), false)) l.length _ (fun k next hk => ?_) (fun next => ?_) _ (show l.length + 1 ≤ 61 by omega) _ rfl).trans ?_
      · simp only [st9_4, decLt_nat hk, inB_nat hk, wr_succ (show k ≤ 1000000 by omega), atD, Int.toNat_natCast, Bool.true_or]
        show (match badAct (atN .act l k) with | true => _ | false => _) = _
        cases badAct (atN .act l k) <;> rfl
      · simp only [st9_4, decLt_self]
      · rw [runTo_find badAct (fun k => ((⟨l, true, (k : Int)⟩ : S9_4), true)) _ _ l (fun k hk => by rw [atN_nat hk]) l.length 0 (by omega), List.drop_zero]
        show _ = an (.b (List.any l badAct))
        rw [show List.any l badAct = (bif List.any l badAct then true else false) by cases List.any l badAct <;> rfl, ← find_any badAct l]
        cases List.findIdx? badAct l with
        | none => rfl
        | some k => rfl
  · simp at h
structure S24_2 where
  l : List Int
  n : Int
  t4 : Bool
  i : Int
def S24_2.enc (s : S24_2) : List PV := [.sl .int s.l, .i .i64 s.n, .b s.t4, .i .i64 s.i]
def S24_2.encH (s : S24_2) : Heap := []
def dec24_2 : List PV → Heap → Option S24_2
  | [.sl .int l_, .i .i64 n_, .b t4_, .i .i64 i_], [] => some ⟨l_, n_, t4_, i_⟩
  | _, _ => none
theorem dec_enc24_2 (vs : List PV) (hs : Heap) (s : S24_2) (h : dec24_2 vs hs = some s) : vs = s.enc ∧ hs = s.encH := by
  unfold dec24_2 at h
  split at h
  · obtain rfl := Option.some.inj h
    exact ⟨rfl, rfl⟩
  · simp at h
def st24_2 {ρ : Type} (s : S24_2) (next : S24_2 → Option ρ) (out : S24_2 × Bool → Option ρ) : Option ρ := (match (decide (s.i < (s.l.length : Int))) with | true => (match (inB s.i s.l.length) with | true => (match ((atD .int s.l s.i) == s.n) with | true => out (⟨s.l, s.n, true, s.i⟩, true) | false => next ⟨s.l, s.n, s.t4, (wr (s.i + 1))⟩) | false => none) | false => out (s, false))
def out24_2 (k : Ex → List PV → Heap → Option R) (o : S24_2 × Bool) : Option R := match o.2 with
  | true => k .ret o.1.enc o.1.encH
  | false => k (.exit 0) o.1.enc o.1.encH
def fuel24_2 (s : S24_2) : Nat := s.l.length + 1
def K24 : Keep := fun _ => ([0, 1, 4, 5], [])
def L24 : Lam := loopL dec24_2 st24_2 fuel24_2 out24_2
noncomputable def b24_2 : Code := (loopsOf (bodyOf Try.f24)).getD 0 .skip
theorem step24_2 (gl : Gl) (j : Nat) (s : S24_2) (k : Ex → List PV → Heap → Option R) : unroll (cx gl (mkG []) [] []) K24 L24 Try.f24.ntmps (Try.f24.ntmps + 16) b24_2 (j + 1) s.enc s.encH k = st24_2 s (fun s' => unroll (cx gl (mkG []) [] []) K24 L24 Try.f24.ntmps (Try.f24.ntmps + 16) b24_2 j s'.enc s'.encH k) (out24_2 k) := by kernel_rfl
theorem l24 (gl : Gl) : LoopsOk (cx gl (mkG []) [] []) K24 L24 Try.f24.ntmps (Try.f24.ntmps + 16) (loopsOf (bodyOf Try.f24)) := by
  refine loopsOk_list (l := [b24_2]) (by kernel_rfl) ?_
  exact List.forall_mem_cons.2 ⟨loopOk1 (fuel := fuel24_2) (enc := S24_2.enc) (encH := S24_2.encH) (fun vs hs k => by kernel_rfl) dec_enc24_2 (step24_2 gl ), (fun _ h => by simp at h)⟩
theorem fn24 : FnOk 24 Try.f24 := ⟨by kernel_rfl, by kernel_rfl, by kernel_rfl, by kernel_rfl⟩
theorem e24 (gl : Gl) (l : List Int) (n : Int) : evFn (cx gl (mkG []) [] []) K24 L24 Try.f24 [.sl .int l, .i .i64 n] noObjs = (iter st24_2 (fuel24_2 (⟨l, n, false, 0⟩ : S24_2)) (⟨l, n, false, 0⟩ : S24_2) fun o2 => (match o2.2 with | true => an (.b o2.1.t4) | false => an (.b false))) := by kernel_rfl
def F24 : List PV → Option (Bool × PV)
  | [.sl .int l, .i .i64 n] => some ((decide (l.length ≤ 1000000)), .b (List.any l (fun x => x == n)))
  | _ => none
theorem s24 {gl : Gl} : Sum gl 24 F24 := by
  intro ps r h
  unfold F24 at h
  split at h
  · rename_i l n
    obtain ⟨hc, rfl⟩ := Prod.mk.inj (Option.some.inj h)
    refine call_by (K := K24) (L := L24) (bxs := []) (ows := []) (GOk.nil) fn24 (l24 gl) (by kernel_rfl) (evF_some ((e24 gl l n).trans ?_))
    have hx := of_decide_eq_true hc
    refine (iter_all (step := st24_2) (F := fun k => (⟨l, n, false, (k : Int)⟩ : S24_2)) (stop := fun k => bif (atN .int l k == n) then some ((⟨l, n, true, (k : Int)⟩ : S24_2), true) else none) (last := ((⟨l, n, false, (l.length : Int)⟩ : S24_2), false)) l.length _ (fun k next hk => ?_) (fun next => ?_) _ (Nat.le_refl _) _ rfl).trans ?_
    · simp only [st24_2, decLt_nat hk, inB_nat hk, wr_succ (show k ≤ 1000000 by omega), atD, Int.toNat_natCast]
      generalize (atN .int l k == n) = b_
      cases b_ <;> rfl
    · simp only [st24_2, decLt_self]
    · rw [runTo_find (fun x : Int => x == n) (fun k => ((⟨l, n, true, (k : Int)⟩ : S24_2), true)) _ _ l (fun k hk => by rw [atN_nat (T := .int) hk]) l.length 0 (by omega), List.drop_zero]
      rw [show List.any l (fun x => x == n) = (bif List.any l (fun x => x == n) then true else false) by cases List.any l (fun x => x == n) <;> rfl, ← find_any (fun x : Int => x == n) l]
      cases List.findIdx? (fun x : Int => x == n) l with
      | none => rfl
      | some k => rfl
  · simp at h
theorem noneLoops {C : Cx} {K : Keep} {n m : Nat} {l : List Code} : LoopsOk C K noL n m l := fun b hb vs hs k r h => by simp [noL] at h
theorem fn8 : FnOk 8 Try.f8 := ⟨by kernel_rfl, by kernel_rfl, by kernel_rfl, by kernel_rfl⟩
theorem e8x (gl : Gl) (w : Int) (d : Int) (l : List Act') : evFn (cxo gl (mkG [(9, F9), (10, F10)]) (mkO [(11, 2, FO11x)]) none [] rlT [] []) noK noL Try.f8 [.i .i64 w, .i .i64 d, .sl .act l] noObjs = (match (greatL l) with | true => an (.b true) | false => (match (!(rulesV w d)) with | true => an (.b true) | false => none)) := by kernel_rfl
def F8x : List PV → Option (Bool × PV)
  | [.i .i64 w, .i .i64 d, .sl .act l] => some ((!(rulesV w d)), .b true)
  | _ => none
theorem s8x {gl : Gl} : Sum gl 8 F8x := by
  intro ps r h
  unfold F8x at h
  split at h
  · rename_i w d l
    obtain ⟨hc, rfl⟩ := Prod.mk.inj (Option.some.inj h)
    refine call_byO (K := noK) (L := noL) (bxs := []) (ows := []) (GOk.cons s9 (GOk.cons s10 (GOk.nil))) (OOk.cons so11x (OOk.nil)) fn8 (noneLoops) (by kernel_rfl) (evF_some ((e8x gl w d l).trans ?_))
    rw [hc]
    show (match greatL l with | true => _ | false => _) = _
    cases greatL l <;> rfl
  · simp at h
structure S8v_14 where
  l : List Act'
  t6 : Bool
  i : Int
  g : Int
  f : Int
  j : Int
  h34 : Int
  h342 : Int
  h343 : Bool
  h51 : List Int
  h59 : List Int
  h73 : List Int
  h153 : List Entry
  h152 : List Bool
  h151 : List Proved
def S8v_14.enc (s : S8v_14) : List PV := [.sl .act s.l, .b s.t6, .ref 34 0, .i .i64 s.i, .own 51, .own 59, .i .i64 s.g, .i .i64 s.f, .own 73, .i .i64 s.j]
def S8v_14.encH (s : S8v_14) : Heap := [some (.cells 54 [.i .i64 s.h34, .i .i64 s.h342, .b s.h343, .own 153, .own 152, .own 151]), some (.row .int 3 s.h51), some (.row .int 3 s.h59), some (.row .int 3 s.h73), some (.row .entry 89 s.h153), some (.row .bool 4 s.h152), some (.row .proved 102 s.h151)]
def dec8v_14 : List PV → Heap → Option S8v_14
  | [.sl .act l_, .b t6_, .ref 34 0, .i .i64 i_, .own 51, .own 59, .i .i64 g_, .i .i64 f_, .own 73, .i .i64 j_], [some (.cells 54 [.i .i64 h34_, .i .i64 h342_, .b h343_, .own 153, .own 152, .own 151]), some (.row .int 3 h51_), some (.row .int 3 h59_), some (.row .int 3 h73_), some (.row .entry 89 h153_), some (.row .bool 4 h152_), some (.row .proved 102 h151_)] => some ⟨l_, t6_, i_, g_, f_, j_, h34_, h342_, h343_, h51_, h59_, h73_, h153_, h152_, h151_⟩
  | _, _ => none
theorem dec_enc8v_14 (vs : List PV) (hs : Heap) (s : S8v_14) (h : dec8v_14 vs hs = some s) : vs = s.enc ∧ hs = s.encH := by
  unfold dec8v_14 at h
  split at h
  · obtain rfl := Option.some.inj h
    exact ⟨rfl, rfl⟩
  · simp at h
def st8v_14 {ρ : Type} (s : S8v_14) (next : S8v_14 → Option ρ) (out : S8v_14 × Bool → Option ρ) : Option ρ := (match (decide (s.j < (s.h51.length : Int))) with | true => (match (inB s.j s.h51.length) with | true => (match (inN (Int.toNat s.j) s.h51.length) with | true => (match (decide (s.h73.length ≤ 1000000)) with | true => (match (List.any s.h73 (fun x => x == (atN .int s.h51 (Int.toNat s.j)))) with | true => next ⟨s.l, s.t6, s.i, s.g, s.f, (wr (s.j + 1)), s.h34, s.h342, s.h343, s.h51, s.h59, s.h73, s.h153, s.h152, s.h151⟩ | false => (match (inB s.i s.l.length) with | true => (match ((inB s.i s.l.length) || ((!(((atD .act s.l s.i).what) == 2)) || false)) with | true => (match ((inB s.j s.h51.length) || ((!(((atD .act s.l s.i).what) == 2)) || false)) with | true => (match ((inN (Int.toNat s.j) s.h51.length) || ((!(((atD .act s.l s.i).what) == 2)) || false)) with | true => (match (inB s.i s.l.length) with | true => (match ((inB s.i s.l.length) || ((!(((atD .act s.l s.i).what) == 3)) || false)) with | true => (match ((inB s.j s.h51.length) || ((!(((atD .act s.l s.i).what) == 3)) || false)) with | true => (match ((inN (Int.toNat s.j) s.h51.length) || ((!(((atD .act s.l s.i).what) == 3)) || false)) with | true => (match (bif (!(bif (bif (bif (bif (((atD .act s.l s.i).what) == 2) then (((atD .act s.l s.i).n) == (atN .int s.h51 (Int.toNat s.j))) else false) then (s.f == 0) else false) then (s.g == 0) else false) then ((s.h59.length : Int) == 0) else false)) then (!(bif (bif (((atD .act s.l s.i).what) == 3) then (((atD .act s.l s.i).m) == (atN .int s.h51 (Int.toNat s.j))) else false) then (s.f == 0) else false)) else false) with | true => out (⟨s.l, false, s.i, s.g, s.f, s.j, s.h34, s.h342, s.h343, s.h51, s.h59, s.h73, s.h153, s.h152, s.h151⟩, true) | false => next ⟨s.l, s.t6, s.i, s.g, s.f, (wr (s.j + 1)), s.h34, s.h342, s.h343, s.h51, s.h59, s.h73, s.h153, s.h152, s.h151⟩) | false => none) | false => none) | false => none) | false => none) | false => none) | false => none) | false => none) | false => none)) | false => none) | false => none) | false => none) | false => out (s, false))
def out8v_14 (k : Ex → List PV → Heap → Option R) (o : S8v_14 × Bool) : Option R := match o.2 with
  | true => k .ret o.1.enc o.1.encH
  | false => k (.exit 2) o.1.enc o.1.encH
def fuel8v_14 (s : S8v_14) : Nat := s.h51.length + 1
structure S8v_7 where
  l : List Act'
  t6 : Bool
  i : Int
  h34 : Int
  h342 : Int
  h343 : Bool
  h153 : List Entry
  h152 : List Bool
  h151 : List Proved
def S8v_7.enc (s : S8v_7) : List PV := [.sl .act s.l, .b s.t6, .ref 34 0, .i .i64 s.i]
def S8v_7.encH (s : S8v_7) : Heap := [some (.cells 54 [.i .i64 s.h34, .i .i64 s.h342, .b s.h343, .own 153, .own 152, .own 151]), some (.row .entry 89 s.h153), some (.row .bool 4 s.h152), some (.row .proved 102 s.h151)]
def dec8v_7 : List PV → Heap → Option S8v_7
  | [.sl .act l_, .b t6_, .ref 34 0, .i .i64 i_], [some (.cells 54 [.i .i64 h34_, .i .i64 h342_, .b h343_, .own 153, .own 152, .own 151]), some (.row .entry 89 h153_), some (.row .bool 4 h152_), some (.row .proved 102 h151_)] => some ⟨l_, t6_, i_, h34_, h342_, h343_, h153_, h152_, h151_⟩
  | _, _ => none
theorem dec_enc8v_7 (vs : List PV) (hs : Heap) (s : S8v_7) (h : dec8v_7 vs hs = some s) : vs = s.enc ∧ hs = s.encH := by
  unfold dec8v_7 at h
  split at h
  · obtain rfl := Option.some.inj h
    exact ⟨rfl, rfl⟩
  · simp at h
def st8v_7 {ρ : Type} (s : S8v_7) (next : S8v_7 → Option ρ) (out : S8v_7 × Bool → Option ρ) : Option ρ := (match (decide (s.i < (s.l.length : Int))) with | true => (match (bookOk s.h34 s.h342 s.h343 s.h153 s.h152 s.h151) with | true => (match (inB s.i s.l.length) with | true => (match (bookOk s.h34 s.h342 s.h343 s.h153 s.h152 s.h151) with | true => (match (inB s.i s.l.length) with | true => (match (bookOk s.h34 s.h342 s.h343 s.h153 s.h152 s.h151) with | true => (match (bookOk s.h34 s.h342 s.h343 (doesS s.h153 s.h152 s.h34 s.h342 (atD .act s.l s.i)) (doesO s.h153 s.h152 s.h151 s.h34 s.h342 (atD .act s.l s.i)) (doesP s.h153 s.h151 s.h34 (atD .act s.l s.i))) with | true => (iter st8v_14 (fuel8v_14 (⟨s.l, s.t6, s.i, (incE s.h152 ((atD .act s.l s.i).n)), (doesE s.h153 s.h152 s.h151 s.h34 s.h342 (atD .act s.l s.i)), 0, s.h34, s.h342, s.h343, (openA s.h152), (missA s.h153 s.h152 s.h151 ((atD .act s.l s.i).n)), (openA (doesO s.h153 s.h152 s.h151 s.h34 s.h342 (atD .act s.l s.i))), (doesS s.h153 s.h152 s.h34 s.h342 (atD .act s.l s.i)), (doesO s.h153 s.h152 s.h151 s.h34 s.h342 (atD .act s.l s.i)), (doesP s.h153 s.h151 s.h34 (atD .act s.l s.i))⟩ : S8v_14)) (⟨s.l, s.t6, s.i, (incE s.h152 ((atD .act s.l s.i).n)), (doesE s.h153 s.h152 s.h151 s.h34 s.h342 (atD .act s.l s.i)), 0, s.h34, s.h342, s.h343, (openA s.h152), (missA s.h153 s.h152 s.h151 ((atD .act s.l s.i).n)), (openA (doesO s.h153 s.h152 s.h151 s.h34 s.h342 (atD .act s.l s.i))), (doesS s.h153 s.h152 s.h34 s.h342 (atD .act s.l s.i)), (doesO s.h153 s.h152 s.h151 s.h34 s.h342 (atD .act s.l s.i)), (doesP s.h153 s.h151 s.h34 (atD .act s.l s.i))⟩ : S8v_14) fun o14 => (match o14.2 with | true => out (⟨o14.1.l, o14.1.t6, o14.1.i, o14.1.h34, o14.1.h342, o14.1.h343, o14.1.h153, o14.1.h152, o14.1.h151⟩, true) | false => next ⟨o14.1.l, o14.1.t6, (wr (o14.1.i + 1)), o14.1.h34, o14.1.h342, o14.1.h343, o14.1.h153, o14.1.h152, o14.1.h151⟩)) | false => none) | false => none) | false => none) | false => none) | false => none) | false => none) | false => out (s, false))
def out8v_7 (k : Ex → List PV → Heap → Option R) (o : S8v_7 × Bool) : Option R := match o.2 with
  | true => k .ret o.1.enc o.1.encH
  | false => k (.exit 0) o.1.enc o.1.encH
def fuel8v_7 (s : S8v_7) : Nat := 61
def K8v : Keep := fun i => match i with
  | 7 => ([2, 6, 7, 9], [34, 153, 152, 151])
  | 14 => ([2, 6, 7, 9, 10, 11, 12, 15, 16, 17], [34, 51, 59, 73, 153, 152, 151])
  | _ => ([], [])
def L8v : Lam := fun b vs hs k => match loopId b with
  | 7 => loopL dec8v_7 st8v_7 fuel8v_7 out8v_7 b vs hs k
  | 14 => loopL dec8v_14 st8v_14 fuel8v_14 out8v_14 b vs hs k
  | _ => none
noncomputable def b8v_14 : Code := (loopsOf (bodyOf Try.f8)).getD 1 .skip
noncomputable def b8v_7 : Code := (loopsOf (bodyOf Try.f8)).getD 0 .skip
theorem step8v_14 (gl : Gl) (j : Nat) (s : S8v_14) (k : Ex → List PV → Heap → Option R) : unroll (cxo gl (mkG [(24, F24), (9, F9), (10, F10)]) (mkO [(19, 2, FO19), (18, 2, FO18), (13, 1, FO13), (11, 2, FO11v)]) none [] rlT [] []) K8v L8v Try.f8.ntmps (Try.f8.ntmps + 16) b8v_14 (j + 1) s.enc s.encH k = st8v_14 s (fun s' => unroll (cxo gl (mkG [(24, F24), (9, F9), (10, F10)]) (mkO [(19, 2, FO19), (18, 2, FO18), (13, 1, FO13), (11, 2, FO11v)]) none [] rlT [] []) K8v L8v Try.f8.ntmps (Try.f8.ntmps + 16) b8v_14 j s'.enc s'.encH k) (out8v_14 k) := by kernel_rfl
theorem step8v_7 (gl : Gl) (j : Nat) (s : S8v_7) (k : Ex → List PV → Heap → Option R) : unroll (cxo gl (mkG [(24, F24), (9, F9), (10, F10)]) (mkO [(19, 2, FO19), (18, 2, FO18), (13, 1, FO13), (11, 2, FO11v)]) none [] rlT [] []) K8v L8v Try.f8.ntmps (Try.f8.ntmps + 16) b8v_7 (j + 1) s.enc s.encH k = st8v_7 s (fun s' => unroll (cxo gl (mkG [(24, F24), (9, F9), (10, F10)]) (mkO [(19, 2, FO19), (18, 2, FO18), (13, 1, FO13), (11, 2, FO11v)]) none [] rlT [] []) K8v L8v Try.f8.ntmps (Try.f8.ntmps + 16) b8v_7 j s'.enc s'.encH k) (out8v_7 k) := by kernel_rfl
theorem l8v (gl : Gl) : LoopsOk (cxo gl (mkG [(24, F24), (9, F9), (10, F10)]) (mkO [(19, 2, FO19), (18, 2, FO18), (13, 1, FO13), (11, 2, FO11v)]) none [] rlT [] []) K8v L8v Try.f8.ntmps (Try.f8.ntmps + 16) (loopsOf (bodyOf Try.f8)) := by
  refine loopsOk_list (l := [b8v_7, b8v_14]) (by kernel_rfl) ?_
  exact List.forall_mem_cons.2 ⟨loopOk1 (fuel := fuel8v_7) (enc := S8v_7.enc) (encH := S8v_7.encH) (fun vs hs k => by kernel_rfl) dec_enc8v_7 (step8v_7 gl ), List.forall_mem_cons.2 ⟨loopOk1 (fuel := fuel8v_14) (enc := S8v_14.enc) (encH := S8v_14.encH) (fun vs hs k => by kernel_rfl) dec_enc8v_14 (step8v_14 gl ), (fun _ h => by simp at h)⟩⟩
end Go.Proofs.Ytklgaodfakdjpaa.Ev
/- What each call makes of a book, in plain Lean: a book stays one; and which incidents it closes. -/
namespace Go.Proofs.Ytklgaodfakdjpaa.Ev
open Go Go.RowKit Go.Proofs

theorem inB_iff {n : Int} {k : Nat} : inB n k = true ↔ 0 ≤ n ∧ n < (k : Int) := by
  unfold inB
  rw [Bool.and_eq_true, decide_eq_true_eq, decide_eq_true_eq]
theorem inB_mono {n : Int} {k k' : Nat} (h : inB n k = true) (hk : k ≤ k') : inB n k' = true := by
  rw [inB_iff] at *
  omega
theorem within_len {n : Int} {k : Nat} (hk : k ≤ 1000000) : within n 0 (wr ((k : Int) - 1)) = true ↔ inB n k = true := by
  rw [wr_small (by omega) (by omega), within_iff, inB_iff]
  omega
theorem beq_no {a b : Int} (h : (a == b) = false) : a ≠ b := fun e => by rw [e, beq_self_eq_true] at h; exact Bool.noConfusion h
section
variable {w d : Int} {m : Bool} {es : List Entry} {op : List Bool} {pr : List Proved}
theorem new_P (h : rulesR w d = true) : BookP w d true [] [] [] :=
  ⟨rfl, h, by simp, by simp, by simp, fun x hx => by simp at hx, fun x hx => by simp at hx, fun x hx => by simp at hx⟩
theorem takeO_len (es : List Entry) (op : List Bool) (r : Report) (w d : Int) (h : takeB es r = false) : (takeO es op r w d).length = bif (placeI es op r w d == (op.length : Int)) then op.length + 1 else op.length := by
  unfold takeO
  rw [h]
  show (List.set _ _ _).length = _
  rw [List.length_set]
  cases (placeI es op r w d == (op.length : Int)) with
  | true => show (op ++ [true]).length = op.length + 1; simp
  | false => rfl
theorem take_P (h : BookP w d m es op pr) (r : Report) : BookP w d m (takeS es op r w d) (takeO es op r w d) pr := by
  cases hb : takeB es r with
  | true =>
    have e1 : takeS es op r w d = es := by unfold takeS; rw [hb]; rfl
    have e2 : takeO es op r w d = op := by unfold takeO; rw [hb]; rfl
    rw [e1, e2]
    exact h
  | false =>
    have e1 : takeS es op r w d = es ++ [⟨r, placeI es op r w d⟩] := by unfold takeS; rw [hb]; rfl
    have e2 := takeO_len es op r w d hb
    have hp := place_in es op r w d
    unfold takeB at hb
    cases hr : repOk r with
    | false => rw [hr] at hb; exact absurd hb (by simp)
    | true =>
      rw [hr] at hb
      have h5 : (es.length : Int) ≠ 500 := beq_no hb
      have hl := h.les
      have hlo := h.lop2
      have hge : op.length ≤ (takeO es op r w d).length ∧ (takeO es op r w d).length ≤ op.length + 1 := by
        rw [e2]
        cases (placeI es op r w d == (op.length : Int)) with
        | true => exact ⟨Nat.le_succ _, Nat.le_refl _⟩
        | false => exact ⟨Nat.le_refl _, Nat.le_succ _⟩
      rw [e1]
      refine ⟨h.made, h.rules, by simp; omega, by simp; omega, h.lpr, fun x hx => ?_, fun x hx => ?_, fun q hq => inB_mono (h.prs q hq) (by simp)⟩
      · rcases List.mem_append.1 hx with hx | hx
        · exact h.rep x hx
        · simp at hx
          subst hx
          exact hr
      · rcases List.mem_append.1 hx with hx | hx
        · exact inB_mono (h.of_ x hx) hge.1
        · simp at hx
          subst hx
          show inB (placeI es op r w d) _ = true
          rw [e2, inB_iff]
          cases he : (placeI es op r w d == (op.length : Int)) with
          | true =>
            have := beq_iff_eq.1 he
            show 0 ≤ _ ∧ _ < ((op.length + 1 : Nat) : Int)
            omega
          | false =>
            have := beq_no he
            show 0 ≤ _ ∧ _ < ((op.length : Nat) : Int)
            omega
theorem close_len (es : List Entry) (op : List Bool) (pr : List Proved) (n : Int) : (closeO es op pr n).length = op.length := by
  unfold closeO
  cases within n 0 (wr ((op.length : Int) - 1)) with
  | false => rfl
  | true =>
    cases atN .bool op (Int.toNat n) with
    | false => rfl
    | true =>
      cases decide (((missL es pr n).length : Int) > 0) with
      | true => rfl
      | false => exact List.length_set
theorem close_P (h : BookP w d m es op pr) (n : Int) : BookP w d m es (closeO es op pr n) pr := by
  have e := close_len es op pr n
  exact ⟨h.made, h.rules, h.les, by rw [e]; exact h.lop2, h.lpr, h.rep, fun x hx => by rw [e]; exact h.of_ x hx, h.prs⟩
theorem join_len (es : List Entry) (op : List Bool) (w d a b : Int) : (joinO es op w d a b).length = op.length := by
  unfold joinO
  cases (joinE es w d a b == 0) with
  | true => show (List.set (List.set op _ _) _ _).length = _; rw [List.length_set, List.length_set]
  | false => rfl
theorem join_in (h : BookP w d m es op pr) {a b : Int} (he : joinE es w d a b = 0) : inB a op.length = true ∧ inB b op.length = true := by
  unfold joinE at he
  cases ha : (((allL es a).length : Int) == 0) with
  | true => rw [ha] at he; exact absurd he (by simp)
  | false =>
    cases hb : (((allL es b).length : Int) == 0) with
    | true => rw [ha, hb] at he; exact absurd he (by simp)
    | false => exact ⟨h.inc ha, h.inc hb⟩
theorem join_P (h : BookP w d m es op pr) (a b : Int) : BookP w d m (joinS es w d a b) (joinO es op w d a b) pr := by
  have e := join_len es op w d a b
  have el : (joinS es w d a b).length = es.length := by
    unfold joinS
    cases (joinE es w d a b == 0) with
    | true => show (es.map _).length = _; simp
    | false => rfl
  have key : ∀ x ∈ joinS es w d a b, repOk x.r = true ∧ inB x.of_ op.length = true := by
    intro x hx
    unfold joinS at hx
    cases he : (joinE es w d a b == 0) with
    | true =>
      rw [he] at hx
      obtain ⟨y, hy, rfl⟩ := List.mem_map.1 (show x ∈ es.map (mvE a b) from hx)
      have hin := join_in h (beq_iff_eq.1 he)
      unfold mvE
      cases (y.of_ == b) with
      | true => exact ⟨h.rep y hy, hin.1⟩
      | false => exact ⟨h.rep y hy, h.of_ y hy⟩
    | false =>
      rw [he] at hx
      exact ⟨h.rep x hx, h.of_ x hx⟩
  exact ⟨h.made, h.rules, by rw [el]; exact h.les, by rw [e, el]; exact h.lop2, h.lpr, fun x hx => (key x hx).1, fun x hx => by rw [e]; exact (key x hx).2, fun q hq => by rw [el]; exact h.prs q hq⟩
theorem prov_P (h : BookP w d m es op pr) (p : Proof) : BookP w d m es op (provS es pr w p) := by
  have hl := h.les
  have key : (provS es pr w p).length ≤ 500 ∧ ∀ q ∈ provS es pr w p, inB q.report es.length = true := by
    unfold provS
    cases hw : within p.report 0 (wr ((es.length : Int) - 1)) with
    | false => exact ⟨h.lpr, h.prs⟩
    | true =>
      cases rightR p ((atN .entry es (Int.toNat p.report)).r) with
      | false => exact ⟨h.lpr, h.prs⟩
      | true =>
        cases badPr p w ((atN .entry es (Int.toNat p.report)).r) with
        | true => exact ⟨h.lpr, h.prs⟩
        | false =>
          cases h5 : ((pr.length : Int) == 500) with
          | true => exact ⟨h.lpr, h.prs⟩
          | false =>
            have := beq_no h5
            have hp := h.lpr
            refine ⟨?_, fun q hq => ?_⟩
            · show (pr ++ [_]).length ≤ 500
              simp
              omega
            · rcases List.mem_append.1 (show q ∈ pr ++ [_] from hq) with hq | hq
              · exact h.prs q hq
              · simp at hq
                subst hq
                exact (within_len (by omega)).1 hw
  exact ⟨h.made, h.rules, h.les, h.lop2, key.1, h.rep, h.of_, key.2⟩
/-- A book stays a book. -/
theorem does_P (h : BookP w d m es op pr) (a : Act') : BookP w d m (doesS es op w d a) (doesO es op pr w d a) (doesP es pr w a) := by
  unfold doesS doesO doesP
  cases a.what == 1 with
  | true => exact prov_P h a.p
  | false =>
    cases a.what == 2 with
    | true => exact close_P h a.n
    | false =>
      cases a.what == 3 with
      | true => exact join_P h a.n a.m
      | false => exact take_P h a.r
end
/-! ### What is open -/
theorem mem_openL {op : List Bool} {x : Int} : ∀ {k : Nat}, x ∈ openL op k ↔ ∃ j : Nat, j < k ∧ x = (j : Int) ∧ atN .bool op j = true
  | 0 => by simp [openL]
  | k + 1 => by
    have ih := mem_openL (op := op) (x := x) (k := k)
    unfold openL
    cases hb : atN .bool op k with
    | true =>
      show x ∈ openL op k ++ [(k : Int)] ↔ _
      rw [List.mem_append, ih, List.mem_singleton]
      constructor
      · rintro (⟨j, h1, h2, h3⟩ | h)
        · exact ⟨j, by omega, h2, h3⟩
        · exact ⟨k, by omega, h, hb⟩
      · rintro ⟨j, h1, h2, h3⟩
        rcases Nat.lt_or_ge j k with h | h
        · exact .inl ⟨j, h, h2, h3⟩
        · obtain rfl : j = k := by omega
          exact .inr h2
    | false =>
      show x ∈ openL op k ↔ _
      rw [ih]
      constructor
      · rintro ⟨j, h1, h2, h3⟩
        exact ⟨j, by omega, h2, h3⟩
      · rintro ⟨j, h1, h2, h3⟩
        rcases Nat.lt_or_ge j k with h | h
        · exact ⟨j, h, h2, h3⟩
        · obtain rfl : j = k := by omega
          rw [hb] at h3
          exact Bool.noConfusion h3
theorem mem_openA {op : List Bool} {x : Int} : x ∈ openA op ↔ ∃ j : Nat, x = (j : Int) ∧ op[j]? = some true := by
  unfold openA
  rw [mem_openL]
  constructor
  · rintro ⟨j, h1, h2, h3⟩
    refine ⟨j, h2, ?_⟩
    rw [atN_nat (T := .bool) h1] at h3
    rw [List.getElem?_eq_getElem h1]
    exact congrArg some h3
  · rintro ⟨j, h2, h3⟩
    obtain ⟨h1, h4⟩ := List.getElem?_eq_some_iff.1 h3
    exact ⟨j, h1, h2, by rw [atN_nat (T := .bool) h1]; exact h4⟩
theorem open_set_true {op : List Bool} {i : Nat} {x : Int} (h : x ∈ openA op) : x ∈ openA (List.set op i true) := by
  obtain ⟨j, h2, h3⟩ := mem_openA.1 h
  refine mem_openA.2 ⟨j, h2, ?_⟩
  rw [List.getElem?_set]
  obtain ⟨h1, h4⟩ := List.getElem?_eq_some_iff.1 h3
  split
  · rename_i e; subst e; simp [h1]
  · exact h3
theorem open_set_false {op : List Bool} {i : Nat} {x : Int} (h : x ∈ openA op) (hx : x ≠ (i : Int)) : x ∈ openA (List.set op i false) := by
  obtain ⟨j, h2, h3⟩ := mem_openA.1 h
  refine mem_openA.2 ⟨j, h2, ?_⟩
  rw [List.getElem?_set]
  rw [if_neg (fun e => hx (by rw [h2, e]))]
  exact h3
theorem open_append {op : List Bool} {x : Int} (h : x ∈ openA op) : x ∈ openA (op ++ [true]) := by
  obtain ⟨j, h2, h3⟩ := mem_openA.1 h
  refine mem_openA.2 ⟨j, h2, ?_⟩
  obtain ⟨h1, h4⟩ := List.getElem?_eq_some_iff.1 h3
  rw [List.getElem?_append_left h1]
  exact h3
section
variable {w d : Int} {m : Bool} {es : List Entry} {op : List Bool} {pr : List Proved}
/-- An incident that a call closes. -/
theorem shut_why (h : BookP w d m es op pr) (a : Act') {x : Int} (hx : x ∈ openA op) (hn : x ∉ openA (doesO es op pr w d a)) :
    ((((a.what = 2 ∧ a.n = x) ∧ doesE es op pr w d a = 0) ∧ incE op a.n = 0) ∧ (missA es op pr a.n).length = 0) ∨ ((a.what = 3 ∧ a.m = x) ∧ doesE es op pr w d a = 0) := by
  have hlo := h.lop
  unfold doesO at hn
  unfold doesE
  cases h1 : (a.what == 1) with
  | true => rw [h1] at hn; exact absurd hx hn
  | false =>
    rw [h1] at hn
    cases h2 : (a.what == 2) with
    | true =>
      rw [h2] at hn
      left
      change x ∉ openA (closeO es op pr a.n) at hn
      show (((_ ∧ _) ∧ closeE es op pr a.n = 0) ∧ _) ∧ _
      unfold closeO at hn
      unfold closeE incE missA
      cases hw : within a.n 0 (wr ((op.length : Int) - 1)) with
      | false => rw [hw] at hn; exact absurd hx hn
      | true =>
        rw [hw] at hn
        cases ho : atN .bool op (Int.toNat a.n) with
        | false => rw [ho] at hn; exact absurd hx hn
        | true =>
          rw [ho] at hn
          cases hl : decide (((missL es pr a.n).length : Int) > 0) with
          | true => rw [hl] at hn; exact absurd hx hn
          | false =>
            rw [hl] at hn
            have hin := inB_iff.1 ((within_len (by omega)).1 hw)
            have hl' := of_decide_eq_false hl
            refine ⟨⟨⟨⟨beq_iff_eq.1 h2, ?_⟩, rfl⟩, rfl⟩, ?_⟩
            · rcases Decidable.em (x = ((Int.toNat a.n : Nat) : Int)) with e | e
              · omega
              · exact absurd (open_set_false hx e) hn
            · show (missL es pr a.n).length = 0
              omega
    | false =>
      rw [h2] at hn
      cases h3 : (a.what == 3) with
      | true =>
        rw [h3] at hn
        right
        change x ∉ openA (joinO es op w d a.n a.m) at hn
        show (_ ∧ _) ∧ joinE es w d a.n a.m = 0
        unfold joinO at hn
        cases he : (joinE es w d a.n a.m == 0) with
        | false => rw [he] at hn; exact absurd hx hn
        | true =>
          rw [he] at hn
          have hin := inB_iff.1 (join_in h (beq_iff_eq.1 he)).2
          refine ⟨⟨beq_iff_eq.1 h3, ?_⟩, beq_iff_eq.1 he⟩
          rcases Decidable.em (x = ((Int.toNat a.m : Nat) : Int)) with e | e
          · omega
          · exact absurd (open_set_false (open_set_true hx) e) hn
      | false =>
        rw [h3] at hn
        exfalso
        change x ∉ openA (takeO es op a.r w d) at hn
        unfold takeO at hn
        cases hb : takeB es a.r with
        | true => rw [hb] at hn; exact hn hx
        | false =>
          rw [hb] at hn
          change x ∉ openA (List.set (bif (placeI es op a.r w d == (op.length : Int)) then op ++ [true] else op) _ true) at hn
          refine hn (open_set_true ?_)
          cases (placeI es op a.r w d == (op.length : Int)) with
          | true => exact open_append hx
          | false => exact hx
end
/-- The book after so many calls. -/
structure BkS where
  es : List Entry
  op : List Bool
  pr : List Proved
def bkAt (w d : Int) (l : List Act') : Nat → BkS
  | 0 => ⟨[], [], []⟩
  | k + 1 => ⟨doesS (bkAt w d l k).es (bkAt w d l k).op w d (atN .act l k), doesO (bkAt w d l k).es (bkAt w d l k).op (bkAt w d l k).pr w d (atN .act l k), doesP (bkAt w d l k).es (bkAt w d l k).pr w (atN .act l k)⟩
theorem bkAt_P {w d : Int} (h : rulesR w d = true) (l : List Act') : ∀ k, BookP w d true (bkAt w d l k).es (bkAt w d l k).op (bkAt w d l k).pr
  | 0 => new_P h
  | k + 1 => does_P (bkAt_P h l k) _
theorem openA_len (op : List Bool) : (openA op).length ≤ op.length := openL_len op _
end Go.Proofs.Ytklgaodfakdjpaa.Ev
