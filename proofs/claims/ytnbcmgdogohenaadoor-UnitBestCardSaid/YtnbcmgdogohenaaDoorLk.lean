/- Summaries of functions, printed by a program out of a list, and what is made of them. -/
import Derived.Test.YtnbcmgdogohenaaDoorLj
set_option linter.unusedVariables false
set_option linter.unusedSimpArgs false
set_option maxRecDepth 100000
namespace Go.Proofs.YtnbcmgdogohenaaDoor.Ev
open Go Go.RowKit Go.Proofs
theorem objOk_sl {P : Program} {gl : Nat → PV} {f : FuncId} {T : ETy} {e : TypeId} {xs : List T.den} {ps : List PV} {os : Heap} {r : PV} {os' : Heap} (hz : ObjOk P gl f (.slz T xs :: ps) os r os') (hn : xs = [] → ObjOk P gl f (.nsl e T :: ps) os r os') : ObjOk P gl f (.sl T xs :: ps) os r os' := by
  intro g w γ args h1 h2 h3 h4 h5 hr
  obtain ⟨v, us, rfl, hv, hrest⟩ := hr.cons_inv
  cases hv with
  | sl T xs A c f hc hn' hA h1' hf =>
    cases A with
    | none =>
      have hc0 := hn' rfl
      have hx : xs = [] := List.eq_nil_of_length_eq_zero (by omega)
      subst hx
      subst hc0
      exact hn rfl g w γ _ h1 h2 h3 h4 h5 (.cons (.nsl e T) hrest)
    | some ad => exact hz g w γ _ h1 h2 h3 h4 h5 (.cons (.slz T xs ad c (.sl T xs (some ad) c f hc hn' hA h1' hf)) hrest)
theorem fn114 : FnOk 114 Tryd.f114 := ⟨by kernel_rfl, by kernel_rfl, by kernel_rfl, by kernel_rfl⟩
theorem eo114z (gl : Gl) (xs : List Int) : evO (cxo gl (mkG []) (mkO []) none [] rlT [] [13]) noK noL 0 Tryd.f114 [.slz .int xs] [none, none, none, none, none, none, none, none] = (match decide ((0 + xs.length) * 8 ≤ 140737488355328) with | true => ao (.own 0) [some (.row .int 3 ([] ++ xs)), none, none, none, none, none, none, none] | false => none) := by kernel_rfl
theorem eo114n (gl : Gl) : evO (cxo gl (mkG []) (mkO []) none [] rlT [] [13]) noK noL 0 Tryd.f114 [.nsl 3 .int] [none, none, none, none, none, none, none, none] = ao (.own 0) [some (.row .int 3 []), none, none, none, none, none, none, none] := by kernel_rfl
def FO114 : ObjF
  | [.sl .int xs], [none, none, none, none, none, none, none, none] => some (decide (xs.length ≤ 1000000), .own 0, [some (.row .int 3 xs), none, none, none, none, none, none, none])
  | _, _ => none
theorem so114 {gl : Gl} : OSum gl 114 FO114 := by
  intro ps os r os2 h
  unfold FO114 at h
  split at h
  · rename_i xs
    obtain ⟨hc, h2_⟩ := Prod.mk.inj (Option.some.inj h)
    obtain ⟨rfl, rfl⟩ := Prod.mk.inj h2_
    have hx := of_decide_eq_true hc
    have hz := obj_by (K := noK) (L := noL) (bxs := []) (ows := [13]) (n0 := 0) (gl := gl) GOk.nil OOk.nil fn114 (noLoops (by kernel_rfl)) (ps := [.slz .int xs]) (os := [none, none, none, none, none, none, none, none]) (r := .own 0) (os' := [some (.row .int 3 xs), none, none, none, none, none, none, none]) (by kernel_rfl) (by
      rw [eo114z, decide_eq_true (show (0 + xs.length) * 8 ≤ 140737488355328 by omega), List.nil_append]
      rfl)
    refine ⟨objOk_sl (e := 3) hz.1 fun hxs => ?_, hz.2⟩
    subst hxs
    exact (obj_by (K := noK) (L := noL) (bxs := []) (ows := [13]) (n0 := 0) (gl := gl) GOk.nil OOk.nil fn114 (noLoops (by kernel_rfl)) (by kernel_rfl) (eo114n gl)).1
  · simp at h
structure S83_2 where
  c : List Int
  t1 : List Int
  t2 : List Unit'
  t3 : List Spot
  last : Int
  total : Int
  c2 : List Int
  n : Int
  i : Int
  h0 : Bool
  h1 : Int
  h2 : Int
  h3 : List Int
def S83_2.enc (s : S83_2) : List PV := [.sl .int s.c, .ptr [.sl .int s.t1] 0, .ptr [.sl .unit s.t2] 0, .ptr [.sl .spot s.t3] 0, .ref 0 0, .ref 1 0, .ref 2 0, .ref 3 0, .i .i64 s.last, .i .i64 s.total, .sl .int s.c2, .i .i64 s.n, .i .i64 s.i]
def S83_2.encH (s : S83_2) : Heap := [some (.cells 4 [.b s.h0]), some (.cells 3 [.i .i64 s.h1]), some (.cells 3 [.i .i64 s.h2]), some (.cells 64 [.sl .int s.h3])]
def dec83_2 : List PV → Heap → Option S83_2
  | [.sl .int c_, .ptr [.sl .int t1_] 0, .ptr [.sl .unit t2_] 0, .ptr [.sl .spot t3_] 0, .ref 0 0, .ref 1 0, .ref 2 0, .ref 3 0, .i .i64 last_, .i .i64 total_, .sl .int c2_, .i .i64 n_, .i .i64 i_], [some (.cells 4 [.b h0_]), some (.cells 3 [.i .i64 h1_]), some (.cells 3 [.i .i64 h2_]), some (.cells 64 [.sl .int h3_])] => some ⟨c_, t1_, t2_, t3_, last_, total_, c2_, n_, i_, h0_, h1_, h2_, h3_⟩
  | _, _ => none
theorem dec_enc83_2 (vs : List PV) (hs : Heap) (s : S83_2) (h : dec83_2 vs hs = some s) : vs = s.enc ∧ hs = s.encH := by
  unfold dec83_2 at h
  split at h
  · obtain rfl := Option.some.inj h
    exact ⟨rfl, rfl⟩
  · simp at h
def st83_2 {ρ : Type} (s : S83_2) (next : S83_2 → Option ρ) (out : S83_2 → Option ρ) : Option ρ := (match (decide (s.i < s.n)) with | true => (match (inB s.i s.c2.length) with | true => (match (inB (atD .int s.c2 s.i) s.t1.length) with | true => (match (inB (atD .int s.c2 s.i) s.t2.length) with | true => (match (inB (atD .int s.c2 s.i) s.t2.length) with | true => (match (inB s.i s.t3.length) with | true => (match (c84 (atD .unit s.t2 (atD .int s.c2 s.i))) with | true => next ⟨s.c, s.t1, s.t2, s.t3, (imax s.last (wr ((atD .int s.t1 (atD .int s.c2 s.i)) + (takeS (atD .unit s.t2 (atD .int s.c2 s.i)) ((atD .unit s.t2 (atD .int s.c2 s.i)).base) (atD .spot s.t3 s.i))))), (wr (s.total + (wr ((atD .int s.t1 (atD .int s.c2 s.i)) + (takeS (atD .unit s.t2 (atD .int s.c2 s.i)) ((atD .unit s.t2 (atD .int s.c2 s.i)).base) (atD .spot s.t3 s.i)))))), s.c2, s.n, (wr (s.i + 1)), s.h0, s.h1, s.h2, s.h3⟩ | false => none) | false => none) | false => none) | false => none) | false => none) | false => none) | false => out s)
def out83_2 (k : Ex → List PV → Heap → Option R) (o : S83_2) : Option R := k (.exit 0) o.enc o.encH
def fuel83_2 (s : S83_2) : Nat := s.c.length + 1
def K83 : Keep := fun _ => ([0, 1, 2, 3, 4, 5, 6, 7, 9, 10, 14, 15, 16], [0, 1, 2, 3])
def L83 : Lam := loopL dec83_2 st83_2 fuel83_2 out83_2
noncomputable def b83_2 : Code := (loopsOf (bodyOf Tryd.f83)).getD 0 .skip
theorem step83_2 (gl : Gl) (j : Nat) (s : S83_2) (k : Ex → List PV → Heap → Option R) : unroll (cxo gl (mkG [(84, F84)]) (mkO []) none [] rlT [] []) K83 L83 Tryd.f83.ntmps (Tryd.f83.ntmps + 16) b83_2 (j + 1) s.enc s.encH k = st83_2 s (fun s' => unroll (cxo gl (mkG [(84, F84)]) (mkO []) none [] rlT [] []) K83 L83 Tryd.f83.ntmps (Tryd.f83.ntmps + 16) b83_2 j s'.enc s'.encH k) (out83_2 k) := by kernel_rfl
theorem l83 (gl : Gl) : LoopsOk (cxo gl (mkG [(84, F84)]) (mkO []) none [] rlT [] []) K83 L83 Tryd.f83.ntmps (Tryd.f83.ntmps + 16) (loopsOf (bodyOf Tryd.f83)) := by
  refine loopsOk_list (l := [b83_2]) (by kernel_rfl) ?_
  exact List.forall_mem_cons.2 ⟨loopOk1 (fuel := fuel83_2) (enc := S83_2.enc) (encH := S83_2.encH) (fun vs hs k => by kernel_rfl) dec_enc83_2 (step83_2 gl ), (fun _ h => by simp at h)⟩
def arrS (starts : List Int) (l : List Unit') (goals : List Spot) (c : List Int) (k : Nat) : Int := wr (atD .int starts (atN .int c k) + takeS (atD .unit l (atN .int c k)) (atD .unit l (atN .int c k)).base (atN .spot goals k))
/-- The last time of arrival, and all together, of the first units of a choice. -/
def lastS (starts : List Int) (l : List Unit') (goals : List Spot) (c : List Int) : Nat → Int
  | 0 => 0
  | k + 1 => imax (lastS starts l goals c k) (arrS starts l goals c k)
def sumS (starts : List Int) (l : List Unit') (goals : List Spot) (c : List Int) : Nat → Int
  | 0 => 0
  | k + 1 => wr (sumS starts l goals c k + arrS starts l goals c k)
def betS (starts : List Int) (l : List Unit') (goals : List Spot) (c : List Int) (fd : Bool) (lt sm : Int) : Bool := (bif (bif (!fd) then true else (decide (lastS starts l goals c c.length < lt))) then true else (bif (lastS starts l goals c c.length == lt) then (decide (sumS starts l goals c c.length < sm)) else false))
def inAll (c : List Int) (n : Nat) : Bool := List.all c (fun x => inB x n)
def lfF (starts : List Int) (l : List Unit') (goals : List Spot) (c : List Int) (fd : Bool) (lt sm : Int) (wh : List Int) : Bool := bif betS starts l goals c fd lt sm then true else fd
def lfL (starts : List Int) (l : List Unit') (goals : List Spot) (c : List Int) (fd : Bool) (lt sm : Int) (wh : List Int) : Int := bif betS starts l goals c fd lt sm then lastS starts l goals c c.length else lt
def lfS (starts : List Int) (l : List Unit') (goals : List Spot) (c : List Int) (fd : Bool) (lt sm : Int) (wh : List Int) : Int := bif betS starts l goals c fd lt sm then sumS starts l goals c c.length else sm
def lfW (starts : List Int) (l : List Unit') (goals : List Spot) (c : List Int) (fd : Bool) (lt sm : Int) (wh : List Int) : List Int := bif betS starts l goals c fd lt sm then c else wh
theorem c84_96 (u : Unit') : c84 u = c96 u := rfl
theorem loop83 (c : List Int) (starts : List Int) (l : List Unit') (goals : List Spot) (fd : Bool) (lt sm : Int) (wh : List Int) (hT : okTeam l starts goals = true) (hg : c.length ≤ goals.length) (hi : inAll c l.length = true) (O : S83_2 → Option R) :
    iter st83_2 (fuel83_2 (⟨c, starts, l, goals, 0, 0, c, (c.length : Int), 0, fd, lt, sm, wh⟩ : S83_2)) (⟨c, starts, l, goals, 0, 0, c, (c.length : Int), 0, fd, lt, sm, wh⟩ : S83_2) O = O ⟨c, starts, l, goals, lastS starts l goals c c.length, sumS starts l goals c c.length, c, (c.length : Int), (c.length : Int), fd, lt, sm, wh⟩ := by
  obtain ⟨t1, t2, t3, t4⟩ := okTeam_P hT
  refine iter_each (step := st83_2) (F := fun k => (⟨c, starts, l, goals, lastS starts l goals c k, sumS starts l goals c k, c, (c.length : Int), (k : Int), fd, lt, sm, wh⟩ : S83_2)) (last := (⟨c, starts, l, goals, lastS starts l goals c c.length, sumS starts l goals c c.length, c, (c.length : Int), (c.length : Int), fd, lt, sm, wh⟩ : S83_2)) c.length O (fun k next hk => ?_) (fun next => ?_) _ (Nat.le_refl _) _ rfl
  · have h1 : inB (atN .int c k) l.length = true := by
      unfold inAll at hi
      rw [atN_nat (T := .int) hk]
      exact List.all_eq_true.1 hi _ (List.getElem_mem hk)
    have h2 : inB (atN .int c k) starts.length = true := by rw [t2]; exact h1
    have h3 : c84 (atD .unit l (atN .int c k)) = true := by
      have h1' := h1
      unfold inB at h1'
      rw [Bool.and_eq_true, decide_eq_true_eq, decide_eq_true_eq] at h1'
      have e : atN .int c k = ((atN .int c k : Int).toNat : Int) := (Int.toNat_of_nonneg h1'.1).symm
      have hlt : (atN .int c k : Int).toNat < l.length := by have := h1'.2; omega
      rw [e, atD_nat (T := .unit) hlt]
      exact t4 _ (List.getElem_mem _)
    have e1 : atD .int c (k : Int) = atN .int c k := by unfold atD; rw [Int.toNat_natCast]
    have e2 : atD .spot goals (k : Int) = atN .spot goals k := by unfold atD; rw [Int.toNat_natCast]
    simp only [st83_2, decLt_nat hk, inB_nat hk, inB_nat (show k < goals.length by omega), wr_succ (show k ≤ 1000000 by omega), e1, e2, h1, h2, h3]
    rfl
  · simp only [st83_2, decLt_self]
theorem fn83 : FnOk 83 Tryd.f83 := ⟨by kernel_rfl, by kernel_rfl, by kernel_rfl, by kernel_rfl⟩
theorem eo83 (gl : Gl) (c : List Int) (starts : List Int) (l : List Unit') (goals : List Spot) (fd : Bool) (lt : Int) (sm : Int) (wh : List Int) : evO (cxo gl (mkG [(84, F84)]) (mkO []) none [] rlT [] []) K83 L83 4 Tryd.f83 [.sl .int c, .ptr [.sl .int starts] 0, .ptr [.sl .unit l] 0, .ptr [.sl .spot goals] 0, .ref 0 0, .ref 1 0, .ref 2 0, .ref 3 0] [some (.cells 4 [.b fd]), some (.cells 3 [.i .i64 lt]), some (.cells 3 [.i .i64 sm]), some (.cells 64 [.sl .int wh]), none, none, none, none] = (iter st83_2 (fuel83_2 (⟨c, starts, l, goals, 0, 0, c, (c.length : Int), 0, fd, lt, sm, wh⟩ : S83_2)) (⟨c, starts, l, goals, 0, 0, c, (c.length : Int), 0, fd, lt, sm, wh⟩ : S83_2) fun o2 => (match (bif (bif (!o2.h0) then true else (decide (o2.last < o2.h1))) then true else (bif (o2.last == o2.h1) then (decide (o2.total < o2.h2)) else false)) with | true => ao (.tup []) [some (.cells 4 [.b true]), some (.cells 3 [.i .i64 o2.last]), some (.cells 3 [.i .i64 o2.total]), some (.cells 64 [.sl .int o2.c]), none, none, none, none] | false => ao (.tup []) [some (.cells 4 [.b o2.h0]), some (.cells 3 [.i .i64 o2.h1]), some (.cells 3 [.i .i64 o2.h2]), some (.cells 64 [.sl .int o2.h3]), none, none, none, none])) := by kernel_rfl
def FO83 : ObjF
  | [.sl .int c, .ptr [.sl .int starts] 0, .ptr [.sl .unit l] 0, .ptr [.sl .spot goals] 0, .ref 0 0, .ref 1 0, .ref 2 0, .ref 3 0], [some (.cells 4 [.b fd]), some (.cells 3 [.i .i64 lt]), some (.cells 3 [.i .i64 sm]), some (.cells 64 [.sl .int wh]), none, none, none, none] => some ((okTeam l starts goals && (decide (c.length ≤ goals.length) && inAll c l.length)), .tup [], [some (.cells 4 [.b (lfF starts l goals c fd lt sm wh)]), some (.cells 3 [.i .i64 (lfL starts l goals c fd lt sm wh)]), some (.cells 3 [.i .i64 (lfS starts l goals c fd lt sm wh)]), some (.cells 64 [.sl .int (lfW starts l goals c fd lt sm wh)]), none, none, none, none])
  | _, _ => none
theorem so83 {gl : Gl} : OSum gl 83 FO83 := by
  intro ps os r os2 h
  unfold FO83 at h
  split at h
  · rename_i c starts l goals fd lt sm wh
    obtain ⟨hc, h2_⟩ := Prod.mk.inj (Option.some.inj h)
    obtain ⟨rfl, rfl⟩ := Prod.mk.inj h2_
    refine obj_by (K := K83) (L := L83) (bxs := []) (ows := []) (n0 := 4) (GOk.cons s84 (GOk.nil)) (OOk.nil) fn83 (l83 gl) (by kernel_rfl) ((eo83 gl c starts l goals fd lt sm wh).trans ?_)
    simp only [Bool.and_eq_true, decide_eq_true_eq] at hc
    obtain ⟨hT, h1, h2⟩ := hc
    refine (loop83 c starts l goals fd lt sm wh hT h1 h2 _).trans ?_
    show (match betS starts l goals c fd lt sm with | true => _ | false => _) = _
    unfold lfF lfL lfS lfW
    cases betS starts l goals c fd lt sm <;> rfl
  · simp at h

/-- The same? (Not to be reckoned: it stands in conditions only.) -/
noncomputable def eqX {α : Type} (a b : α) : Bool := @decide (a = b) (Classical.propDecidable _)
theorem eqX_self {α : Type} (a : α) : eqX a a = true := by unfold eqX; exact @decide_eq_true _ (Classical.propDecidable _) rfl
theorem eqX_iff {α : Type} {a b : α} (h : eqX a b = true) : a = b := by unfold eqX at h; exact @of_decide_eq_true _ (Classical.propDecidable _) h
def leafS (starts : List Int) (l : List Unit') (goals : List Spot) (c : List Int) (s : Ch) : Ch := ⟨lfL starts l goals c s.found s.late s.sum s.wh, lfS starts l goals c s.found s.late s.sum s.wh, lfW starts l goals c s.found s.late s.sum s.wh, lfF starts l goals c s.found s.late s.sum s.wh⟩
/-- The choices that go on from one, tried in order. -/
def chS (starts : List Int) (l : List Unit') (goals : List Spot) : Nat → List Int → Ch → Ch
  | 0, c, s => leafS starts l goals c s
  | d + 1, c, s => (List.range' 0 l.length).foldl (fun (s : Ch) (i : Nat) => bif List.any c (fun x => (i : Int) == x) then s else chS starts l goals d (c ++ [(i : Int)]) s) s
def csF (starts : List Int) (l : List Unit') (goals : List Spot) (c : List Int) (fd : Bool) (lt sm : Int) (wh : List Int) : Bool := (chS starts l goals (goals.length - c.length) c ⟨lt, sm, wh, fd⟩).found
def csL (starts : List Int) (l : List Unit') (goals : List Spot) (c : List Int) (fd : Bool) (lt sm : Int) (wh : List Int) : Int := (chS starts l goals (goals.length - c.length) c ⟨lt, sm, wh, fd⟩).late
def csS (starts : List Int) (l : List Unit') (goals : List Spot) (c : List Int) (fd : Bool) (lt sm : Int) (wh : List Int) : Int := (chS starts l goals (goals.length - c.length) c ⟨lt, sm, wh, fd⟩).sum
def csW (starts : List Int) (l : List Unit') (goals : List Spot) (c : List Int) (fd : Bool) (lt sm : Int) (wh : List Int) : List Int := (chS starts l goals (goals.length - c.length) c ⟨lt, sm, wh, fd⟩).wh

noncomputable def FOR112 (dq : Nat) : ObjF
  | [.sl .int c, .ptr [.i .i64 n] 0, .ptr [.fn (.func 83) [] [.ptr [.sl .int starts] 0, .ptr [.sl .unit l] 0, .ptr [.sl .spot goals] 0, .ref 0 0, .ref 1 0, .ref 2 0, .ref 3 0]] 0, .ptr [.i .i64 many] 0, .ref 4 0], [some (.cells 4 [.b fd]), some (.cells 3 [.i .i64 lt]), some (.cells 3 [.i .i64 sm]), some (.cells 64 [.sl .int wh]), some (.cells 126 [.fn (.func 112) [] [.ptr [.i .i64 n2] 0, .ptr [.fn (.func 83) [] [.ptr [.sl .int starts2] 0, .ptr [.sl .unit l2] 0, .ptr [.sl .spot goals2] 0, .ref 0 0, .ref 1 0, .ref 2 0, .ref 3 0]] 0, .ptr [.i .i64 many2] 0, .ref 4 0]]), none, none, none] =>
    some ((eqX n n2 && (eqX starts starts2 && (eqX l l2 && (eqX goals goals2 && eqX many many2)))) && (okTeam l starts goals && (eqX n (goals.length : Int) && (eqX many (l.length : Int) && (decide (c.length ≤ goals.length) && (decide (goals.length < c.length + dq) && inAll c l.length))))), .tup [], [some (.cells 4 [.b (csF starts l goals c fd lt sm wh)]), some (.cells 3 [.i .i64 (csL starts l goals c fd lt sm wh)]), some (.cells 3 [.i .i64 (csS starts l goals c fd lt sm wh)]), some (.cells 64 [.sl .int (csW starts l goals c fd lt sm wh)]), some (.cells 126 [.fn (.func 112) [] [.ptr [.i .i64 n2] 0, .ptr [.fn (.func 83) [] [.ptr [.sl .int starts2] 0, .ptr [.sl .unit l2] 0, .ptr [.sl .spot goals2] 0, .ref 0 0, .ref 1 0, .ref 2 0, .ref 3 0]] 0, .ptr [.i .i64 many2] 0, .ref 4 0]]), none, none, none])
  | _, _ => none
structure S112_3 where
  c : List Int
  many : Int
  i : Int
  c2 : Bool
  h1 : Int
  h2 : Int
  h3 : List Int
  h4 : Int
  h42 : List Int
  h43 : List Unit'
  h44 : List Spot
  h45 : Int
noncomputable def S112_3.enc (s : S112_3) : List PV := [.sl .int s.c, .ref 4 0, .i .i64 s.many, .i .i64 s.i]
noncomputable def S112_3.encH (s : S112_3) : Heap := [some (.cells 4 [.b s.c2]), some (.cells 3 [.i .i64 s.h1]), some (.cells 3 [.i .i64 s.h2]), some (.cells 64 [.sl .int s.h3]), some (.cells 126 [.fn (.func 112) [] [.ptr [.i .i64 s.h4] 0, .ptr [.fn (.func 83) [] [.ptr [.sl .int s.h42] 0, .ptr [.sl .unit s.h43] 0, .ptr [.sl .spot s.h44] 0, .ref 0 0, .ref 1 0, .ref 2 0, .ref 3 0]] 0, .ptr [.i .i64 s.h45] 0, .ref 4 0]])]
noncomputable def dec112_3 : List PV → Heap → Option S112_3
  | [.sl .int c_, .ref 4 0, .i .i64 many_, .i .i64 i_], [some (.cells 4 [.b c2_]), some (.cells 3 [.i .i64 h1_]), some (.cells 3 [.i .i64 h2_]), some (.cells 64 [.sl .int h3_]), some (.cells 126 [.fn (.func 112) [] [.ptr [.i .i64 h4_] 0, .ptr [.fn (.func 83) [] [.ptr [.sl .int h42_] 0, .ptr [.sl .unit h43_] 0, .ptr [.sl .spot h44_] 0, .ref 0 0, .ref 1 0, .ref 2 0, .ref 3 0]] 0, .ptr [.i .i64 h45_] 0, .ref 4 0]])] => some ⟨c_, many_, i_, c2_, h1_, h2_, h3_, h4_, h42_, h43_, h44_, h45_⟩
  | _, _ => none
theorem dec_enc112_3 (vs : List PV) (hs : Heap) (s : S112_3) (h : dec112_3 vs hs = some s) : vs = s.enc ∧ hs = s.encH := by
  unfold dec112_3 at h
  split at h
  · obtain rfl := Option.some.inj h
    exact ⟨rfl, rfl⟩
  · simp at h
noncomputable def st112_3 (dq : Nat) {ρ : Type} (s : S112_3) (next : S112_3 → Option ρ) (out : S112_3 → Option ρ) : Option ρ := (match (decide (s.i < s.many)) with | true => (match (decide (s.c.length ≤ 1000000)) with | true => (match (!(List.any s.c (fun x => s.i == x))) with | true => (match (decide (s.c.length ≤ 1000000)) with | true => (match (decide ((s.c.length + 1) * 8 ≤ 140737488355328)) with | true => (match ((eqX s.h4 s.h4 && (eqX s.h42 s.h42 && (eqX s.h43 s.h43 && (eqX s.h44 s.h44 && eqX s.h45 s.h45)))) && (okTeam s.h43 s.h42 s.h44 && (eqX s.h4 (s.h44.length : Int) && (eqX s.h45 (s.h43.length : Int) && (decide ((s.c ++ ([s.i] : List Int)).length ≤ s.h44.length) && (decide (s.h44.length < (s.c ++ ([s.i] : List Int)).length + dq) && inAll (s.c ++ ([s.i] : List Int)) s.h43.length)))))) with | true => next ⟨s.c, s.many, (wr (s.i + 1)), (csF s.h42 s.h43 s.h44 (s.c ++ ([s.i] : List Int)) s.c2 s.h1 s.h2 s.h3), (csL s.h42 s.h43 s.h44 (s.c ++ ([s.i] : List Int)) s.c2 s.h1 s.h2 s.h3), (csS s.h42 s.h43 s.h44 (s.c ++ ([s.i] : List Int)) s.c2 s.h1 s.h2 s.h3), (csW s.h42 s.h43 s.h44 (s.c ++ ([s.i] : List Int)) s.c2 s.h1 s.h2 s.h3), s.h4, s.h42, s.h43, s.h44, s.h45⟩ | false => none) | false => none) | false => none) | false => next ⟨s.c, s.many, (wr (s.i + 1)), s.c2, s.h1, s.h2, s.h3, s.h4, s.h42, s.h43, s.h44, s.h45⟩) | false => none) | false => out s)
noncomputable def out112_3 (k : Ex → List PV → Heap → Option R) (o : S112_3) : Option R := k (.exit 0) o.enc o.encH
noncomputable def fuel112_3 (s : S112_3) : Nat := s.many.toNat + 1
noncomputable def K112 : Keep := fun _ => ([0, 4, 14, 15], [0, 1, 2, 3, 4])
noncomputable def L112 (dq : Nat) : Lam := loopL dec112_3 (st112_3 dq) fuel112_3 out112_3
noncomputable def b112_3 : Code := (loopsOf (bodyOf Tryd.f112)).getD 0 .skip
theorem step112_3 (dq : Nat) (gl : Gl) (j : Nat) (s : S112_3) (k : Ex → List PV → Heap → Option R) : unroll (cxo gl (mkG [(113, F113)]) (mkO [(114, 2, FO114), (112, 0, FOR112 dq), (83, 0, FO83)]) none [] rlT [] []) K112 (L112 dq) Tryd.f112.ntmps (Tryd.f112.ntmps + 16) b112_3 (j + 1) s.enc s.encH k = (st112_3 dq) s (fun s' => unroll (cxo gl (mkG [(113, F113)]) (mkO [(114, 2, FO114), (112, 0, FOR112 dq), (83, 0, FO83)]) none [] rlT [] []) K112 (L112 dq) Tryd.f112.ntmps (Tryd.f112.ntmps + 16) b112_3 j s'.enc s'.encH k) (out112_3 k) := by kernel_rfl
theorem l112 (dq : Nat) (gl : Gl) : LoopsOk (cxo gl (mkG [(113, F113)]) (mkO [(114, 2, FO114), (112, 0, FOR112 dq), (83, 0, FO83)]) none [] rlT [] []) K112 (L112 dq) Tryd.f112.ntmps (Tryd.f112.ntmps + 16) (loopsOf (bodyOf Tryd.f112)) := by
  refine loopsOk_list (l := [b112_3]) (by kernel_rfl) ?_
  exact List.forall_mem_cons.2 ⟨loopOk1 (fuel := fuel112_3) (enc := S112_3.enc) (encH := S112_3.encH) (fun vs hs k => by kernel_rfl) dec_enc112_3 ((step112_3 dq) gl ), (fun _ h => by simp at h)⟩
noncomputable def csAt (starts : List Int) (l : List Unit') (goals : List Spot) (d : Nat) (c : List Int) (s : Ch) (k : Nat) : Ch := (List.range' 0 k).foldl (fun (s : Ch) (i : Nat) => bif List.any c (fun x => (i : Int) == x) then s else chS starts l goals d (c ++ [(i : Int)]) s) s
theorem csAt_succ (starts : List Int) (l : List Unit') (goals : List Spot) (d : Nat) (c : List Int) (s : Ch) (k : Nat) : csAt starts l goals d c s (k + 1) = bif List.any c (fun x => (k : Int) == x) then csAt starts l goals d c s k else chS starts l goals d (c ++ [(k : Int)]) (csAt starts l goals d c s k) := by
  unfold csAt
  rw [List.range'_1_concat, List.foldl_append]
  simp
theorem inAll_snoc {c : List Int} {n k : Nat} (h : inAll c n = true) (hk : k < n) : inAll (c ++ [(k : Int)]) n = true := by
  unfold inAll at h ⊢
  rw [List.all_append, h]
  simp [inB_nat hk]
theorem loop112 (dq : Nat) (starts : List Int) (l : List Unit') (goals : List Spot) (c : List Int) (fd : Bool) (lt sm : Int) (wh : List Int) (d : Nat) (hT : okTeam l starts goals = true) (hd : c.length + d + 1 = goals.length) (hq : d < dq) (hi : inAll c l.length = true) :
    (iter (st112_3 dq) (fuel112_3 (⟨c, (l.length : Int), 0, fd, lt, sm, wh, (goals.length : Int), starts, l, goals, (l.length : Int)⟩ : S112_3)) (⟨c, (l.length : Int), 0, fd, lt, sm, wh, (goals.length : Int), starts, l, goals, (l.length : Int)⟩ : S112_3) fun o3 => ao (.tup []) [some (.cells 4 [.b o3.c2]), some (.cells 3 [.i .i64 o3.h1]), some (.cells 3 [.i .i64 o3.h2]), some (.cells 64 [.sl .int o3.h3]), some (.cells 126 [.fn (.func 112) [] [.ptr [.i .i64 o3.h4] 0, .ptr [.fn (.func 83) [] [.ptr [.sl .int o3.h42] 0, .ptr [.sl .unit o3.h43] 0, .ptr [.sl .spot o3.h44] 0, .ref 0 0, .ref 1 0, .ref 2 0, .ref 3 0]] 0, .ptr [.i .i64 o3.h45] 0, .ref 4 0]]), none, none, none]) = ao (.tup []) [some (.cells 4 [.b (chS starts l goals (d + 1) c ⟨lt, sm, wh, fd⟩).found]), some (.cells 3 [.i .i64 (chS starts l goals (d + 1) c ⟨lt, sm, wh, fd⟩).late]), some (.cells 3 [.i .i64 (chS starts l goals (d + 1) c ⟨lt, sm, wh, fd⟩).sum]), some (.cells 64 [.sl .int (chS starts l goals (d + 1) c ⟨lt, sm, wh, fd⟩).wh]), some (.cells 126 [.fn (.func 112) [] [.ptr [.i .i64 (goals.length : Int)] 0, .ptr [.fn (.func 83) [] [.ptr [.sl .int starts] 0, .ptr [.sl .unit l] 0, .ptr [.sl .spot goals] 0, .ref 0 0, .ref 1 0, .ref 2 0, .ref 3 0]] 0, .ptr [.i .i64 (l.length : Int)] 0, .ref 4 0]]), none, none, none] := by
  obtain ⟨t1, t2, t3, t4⟩ := okTeam_P hT
  refine (iter_each (step := (st112_3 dq)) (F := fun k => (⟨c, (l.length : Int), (k : Int), (csAt starts l goals d c ⟨lt, sm, wh, fd⟩ k).found, (csAt starts l goals d c ⟨lt, sm, wh, fd⟩ k).late, (csAt starts l goals d c ⟨lt, sm, wh, fd⟩ k).sum, (csAt starts l goals d c ⟨lt, sm, wh, fd⟩ k).wh, (goals.length : Int), starts, l, goals, (l.length : Int)⟩ : S112_3)) (last := (⟨c, (l.length : Int), (l.length : Int), (csAt starts l goals d c ⟨lt, sm, wh, fd⟩ l.length).found, (csAt starts l goals d c ⟨lt, sm, wh, fd⟩ l.length).late, (csAt starts l goals d c ⟨lt, sm, wh, fd⟩ l.length).sum, (csAt starts l goals d c ⟨lt, sm, wh, fd⟩ l.length).wh, (goals.length : Int), starts, l, goals, (l.length : Int)⟩ : S112_3)) l.length _ (fun k next hk => ?_) (fun next => ?_) _ (by unfold fuel112_3; show l.length + 1 ≤ ((l.length : Int)).toNat + 1; rw [Int.toNat_natCast]; exact Nat.le_refl _) _ rfl).trans ?_
  · have a1 : decide (c.length ≤ 1000000) = true := decide_eq_true (by omega)
    have a5 : decide ((c.length + 1) * 8 ≤ 140737488355328) = true := decide_eq_true (by omega)
    have a8 : ((eqX (goals.length : Int) (goals.length : Int) && (eqX starts starts && (eqX l l && (eqX goals goals && eqX (l.length : Int) (l.length : Int))))) && (okTeam l starts goals && (eqX (goals.length : Int) (goals.length : Int) && (eqX (l.length : Int) (l.length : Int) && (decide ((c ++ [(k : Int)]).length ≤ goals.length) && (decide (goals.length < (c ++ [(k : Int)]).length + dq) && inAll (c ++ [(k : Int)]) l.length)))))) = true := by
      rw [eqX_self, eqX_self, eqX_self, eqX_self, eqX_self, hT, inAll_snoc hi hk, decide_eq_true (show (c ++ [(k : Int)]).length ≤ goals.length by rw [List.length_append]; simp; omega), decide_eq_true (show goals.length < (c ++ [(k : Int)]).length + dq by rw [List.length_append]; simp; omega)]
      rfl
    have a9 : goals.length - (c ++ [(k : Int)]).length = d := by rw [List.length_append]; simp; omega
    have e := csAt_succ starts l goals d c ⟨lt, sm, wh, fd⟩ k
    cases hc : List.any c (fun x => (k : Int) == x) with
    | true =>
      rw [hc] at e
      have e' : csAt starts l goals d c ⟨lt, sm, wh, fd⟩ (k + 1) = csAt starts l goals d c ⟨lt, sm, wh, fd⟩ k := e
      simp only [st112_3, decLt_nat hk, wr_succ (show k ≤ 1000000 by omega), a1, hc, e', Bool.not_true]
    | false =>
      rw [hc] at e
      have e' : csAt starts l goals d c ⟨lt, sm, wh, fd⟩ (k + 1) = chS starts l goals d (c ++ [(k : Int)]) (csAt starts l goals d c ⟨lt, sm, wh, fd⟩ k) := e
      simp only [st112_3, decLt_nat hk, wr_succ (show k ≤ 1000000 by omega), a1, a5, a8, hc, e', Bool.not_false, csF, csL, csS, csW, a9]
  · simp only [st112_3, decLt_self]
  · rfl
theorem fn112 : FnOk 112 Tryd.f112 := ⟨by kernel_rfl, by kernel_rfl, by kernel_rfl, by kernel_rfl⟩
theorem eo112 (dq : Nat) (gl : Gl) (c : List Int) (n : Int) (starts : List Int) (l : List Unit') (goals : List Spot) (many : Int) (fd : Bool) (lt : Int) (sm : Int) (wh : List Int) (n2 : Int) (starts2 : List Int) (l2 : List Unit') (goals2 : List Spot) (many2 : Int) : evO (cxo gl (mkG [(113, F113)]) (mkO [(114, 2, FO114), (112, 0, FOR112 dq), (83, 0, FO83)]) none [] rlT [] []) K112 (L112 dq) 5 Tryd.f112 [.sl .int c, .ptr [.i .i64 n] 0, .ptr [.fn (.func 83) [] [.ptr [.sl .int starts] 0, .ptr [.sl .unit l] 0, .ptr [.sl .spot goals] 0, .ref 0 0, .ref 1 0, .ref 2 0, .ref 3 0]] 0, .ptr [.i .i64 many] 0, .ref 4 0] [some (.cells 4 [.b fd]), some (.cells 3 [.i .i64 lt]), some (.cells 3 [.i .i64 sm]), some (.cells 64 [.sl .int wh]), some (.cells 126 [.fn (.func 112) [] [.ptr [.i .i64 n2] 0, .ptr [.fn (.func 83) [] [.ptr [.sl .int starts2] 0, .ptr [.sl .unit l2] 0, .ptr [.sl .spot goals2] 0, .ref 0 0, .ref 1 0, .ref 2 0, .ref 3 0]] 0, .ptr [.i .i64 many2] 0, .ref 4 0]]), none, none, none] = (match ((c.length : Int) == n) with | true => (match (okTeam l starts goals && (decide (c.length ≤ goals.length) && inAll c l.length)) with | true => ao (.tup []) [some (.cells 4 [.b (lfF starts l goals c fd lt sm wh)]), some (.cells 3 [.i .i64 (lfL starts l goals c fd lt sm wh)]), some (.cells 3 [.i .i64 (lfS starts l goals c fd lt sm wh)]), some (.cells 64 [.sl .int (lfW starts l goals c fd lt sm wh)]), some (.cells 126 [.fn (.func 112) [] [.ptr [.i .i64 n2] 0, .ptr [.fn (.func 83) [] [.ptr [.sl .int starts2] 0, .ptr [.sl .unit l2] 0, .ptr [.sl .spot goals2] 0, .ref 0 0, .ref 1 0, .ref 2 0, .ref 3 0]] 0, .ptr [.i .i64 many2] 0, .ref 4 0]]), none, none, none] | false => none) | false => (iter (st112_3 dq) (fuel112_3 (⟨c, many, 0, fd, lt, sm, wh, n2, starts2, l2, goals2, many2⟩ : S112_3)) (⟨c, many, 0, fd, lt, sm, wh, n2, starts2, l2, goals2, many2⟩ : S112_3) fun o3 => ao (.tup []) [some (.cells 4 [.b o3.c2]), some (.cells 3 [.i .i64 o3.h1]), some (.cells 3 [.i .i64 o3.h2]), some (.cells 64 [.sl .int o3.h3]), some (.cells 126 [.fn (.func 112) [] [.ptr [.i .i64 o3.h4] 0, .ptr [.fn (.func 83) [] [.ptr [.sl .int o3.h42] 0, .ptr [.sl .unit o3.h43] 0, .ptr [.sl .spot o3.h44] 0, .ref 0 0, .ref 1 0, .ref 2 0, .ref 3 0]] 0, .ptr [.i .i64 o3.h45] 0, .ref 4 0]]), none, none, none])) := by kernel_rfl
noncomputable def FO112 (dq : Nat) : ObjF
  | [.sl .int c, .ptr [.i .i64 n] 0, .ptr [.fn (.func 83) [] [.ptr [.sl .int starts] 0, .ptr [.sl .unit l] 0, .ptr [.sl .spot goals] 0, .ref 0 0, .ref 1 0, .ref 2 0, .ref 3 0]] 0, .ptr [.i .i64 many] 0, .ref 4 0], [some (.cells 4 [.b fd]), some (.cells 3 [.i .i64 lt]), some (.cells 3 [.i .i64 sm]), some (.cells 64 [.sl .int wh]), some (.cells 126 [.fn (.func 112) [] [.ptr [.i .i64 n2] 0, .ptr [.fn (.func 83) [] [.ptr [.sl .int starts2] 0, .ptr [.sl .unit l2] 0, .ptr [.sl .spot goals2] 0, .ref 0 0, .ref 1 0, .ref 2 0, .ref 3 0]] 0, .ptr [.i .i64 many2] 0, .ref 4 0]]), none, none, none] => some (((eqX n n2 && (eqX starts starts2 && (eqX l l2 && (eqX goals goals2 && eqX many many2)))) && (okTeam l starts goals && (eqX n (goals.length : Int) && (eqX many (l.length : Int) && (decide (c.length ≤ goals.length) && (decide (goals.length < c.length + (dq + 1)) && inAll c l.length)))))), .tup [], [some (.cells 4 [.b (csF starts l goals c fd lt sm wh)]), some (.cells 3 [.i .i64 (csL starts l goals c fd lt sm wh)]), some (.cells 3 [.i .i64 (csS starts l goals c fd lt sm wh)]), some (.cells 64 [.sl .int (csW starts l goals c fd lt sm wh)]), some (.cells 126 [.fn (.func 112) [] [.ptr [.i .i64 n2] 0, .ptr [.fn (.func 83) [] [.ptr [.sl .int starts2] 0, .ptr [.sl .unit l2] 0, .ptr [.sl .spot goals2] 0, .ref 0 0, .ref 1 0, .ref 2 0, .ref 3 0]] 0, .ptr [.i .i64 many2] 0, .ref 4 0]]), none, none, none])
  | _, _ => none
theorem so112 (dq : Nat) {gl : Gl} (hrec112 : OSum gl 112 (FOR112 dq)) : OSum gl 112 (FO112 dq) := by
  intro ps os r os2 h
  unfold FO112 at h
  split at h
  · rename_i c n starts l goals many fd lt sm wh n2 starts2 l2 goals2 many2
    obtain ⟨hc, h2_⟩ := Prod.mk.inj (Option.some.inj h)
    obtain ⟨rfl, rfl⟩ := Prod.mk.inj h2_
    refine obj_by (K := K112) (L := (L112 dq)) (bxs := []) (ows := []) (n0 := 5) (GOk.cons s113 (GOk.nil)) (OOk.cons so114 (OOk.cons hrec112 (OOk.cons so83 (OOk.nil)))) fn112 ((l112 dq) gl) (by kernel_rfl) (((eo112 dq) gl c n starts l goals many fd lt sm wh n2 starts2 l2 goals2 many2).trans ?_)
    simp only [Bool.and_eq_true, decide_eq_true_eq] at hc
    obtain ⟨⟨q1, q2, q3, q4, q5⟩, hT, q6, q7, h1, h2, hi⟩ := hc
    obtain rfl := eqX_iff q1
    obtain rfl := eqX_iff q2
    obtain rfl := eqX_iff q3
    obtain rfl := eqX_iff q4
    obtain rfl := eqX_iff q5
    obtain rfl := eqX_iff q6
    obtain rfl := eqX_iff q7
    obtain ⟨t1, t2, t3, t4⟩ := okTeam_P hT
    cases hn : ((c.length : Int) == (goals.length : Int)) with
    | true =>
      have hn' : c.length = goals.length := by have := beq_iff_eq.1 hn; omega
      have a2 : goals.length - c.length = 0 := by omega
      rw [hT, hi, decide_eq_true h1]
      simp only [csF, csL, csS, csW, a2]
      rfl
    | false =>
      have hn' : c.length ≠ goals.length := fun e => by rw [e, beq_self_eq_true] at hn; exact Bool.noConfusion hn
      obtain ⟨d, hd⟩ : ∃ d, c.length + d + 1 = goals.length := ⟨goals.length - c.length - 1, by omega⟩
      have a2 : goals.length - c.length = d + 1 := by omega
      have hl := (loop112 dq) starts l goals c fd lt sm wh d hT hd (by omega) hi
      simp only [csF, csL, csS, csW, a2] at hl ⊢
      exact hl
  · simp at h
theorem soR112 {gl : Gl} : ∀ dq, OSum gl 112 (FOR112 dq)
  | 0 => by
    intro ps os r os' h
    unfold FOR112 at h
    split at h
    · have hc := (Prod.mk.inj (Option.some.inj h)).1
      simp only [Bool.and_eq_true, decide_eq_true_eq] at hc
      omega
    · simp at h
  | dq + 1 => by
    intro ps os r os' h
    unfold FOR112 at h
    split at h
    · exact so112 dq (soR112 dq) _ _ _ _ h
    · simp at h
theorem fn82 : FnOk 82 Tryd.f82 := ⟨by kernel_rfl, by kernel_rfl, by kernel_rfl, by kernel_rfl⟩
theorem eo82 (gl : Gl) (many : Int) (n : Int) (starts : List Int) (l : List Unit') (goals : List Spot) (fd : Bool) (lt : Int) (sm : Int) (wh : List Int) : evO (cxo gl (mkG []) (mkO [(112, 0, FOR112 1001)]) none [] rlT [] []) noK noL 4 Tryd.f82 [.i .i64 many, .i .i64 n, .fn (.func 83) [] [.ptr [.sl .int starts] 0, .ptr [.sl .unit l] 0, .ptr [.sl .spot goals] 0, .ref 0 0, .ref 1 0, .ref 2 0, .ref 3 0]] [some (.cells 4 [.b fd]), some (.cells 3 [.i .i64 lt]), some (.cells 3 [.i .i64 sm]), some (.cells 64 [.sl .int wh]), none, none, none, none] = (match ((eqX n n && (eqX starts starts && (eqX l l && (eqX goals goals && eqX many many)))) && (okTeam l starts goals && (eqX n (goals.length : Int) && (eqX many (l.length : Int) && (decide (([] : List Int).length ≤ goals.length) && (decide (goals.length < ([] : List Int).length + 1001) && inAll ([] : List Int) l.length)))))) with | true => ao (.tup []) [some (.cells 4 [.b (csF starts l goals ([] : List Int) fd lt sm wh)]), some (.cells 3 [.i .i64 (csL starts l goals ([] : List Int) fd lt sm wh)]), some (.cells 3 [.i .i64 (csS starts l goals ([] : List Int) fd lt sm wh)]), some (.cells 64 [.sl .int (csW starts l goals ([] : List Int) fd lt sm wh)]), none, none, none, none] | false => none) := by kernel_rfl
noncomputable def FO82 : ObjF
  | [.i .i64 many, .i .i64 n, .fn (.func 83) [] [.ptr [.sl .int starts] 0, .ptr [.sl .unit l] 0, .ptr [.sl .spot goals] 0, .ref 0 0, .ref 1 0, .ref 2 0, .ref 3 0]], [some (.cells 4 [.b fd]), some (.cells 3 [.i .i64 lt]), some (.cells 3 [.i .i64 sm]), some (.cells 64 [.sl .int wh]), none, none, none, none] => some ((okTeam l starts goals && (eqX n (goals.length : Int) && eqX many (l.length : Int))), .tup [], [some (.cells 4 [.b (csF starts l goals [] fd lt sm wh)]), some (.cells 3 [.i .i64 (csL starts l goals [] fd lt sm wh)]), some (.cells 3 [.i .i64 (csS starts l goals [] fd lt sm wh)]), some (.cells 64 [.sl .int (csW starts l goals [] fd lt sm wh)]), none, none, none, none])
  | _, _ => none
theorem so82 {gl : Gl} : OSum gl 82 FO82 := by
  intro ps os r os2 h
  unfold FO82 at h
  split at h
  · rename_i many n starts l goals fd lt sm wh
    obtain ⟨hc, h2_⟩ := Prod.mk.inj (Option.some.inj h)
    obtain ⟨rfl, rfl⟩ := Prod.mk.inj h2_
    refine obj_by (K := noK) (L := noL) (bxs := []) (ows := []) (n0 := 4) (GOk.nil) (OOk.cons (soR112 1001) (OOk.nil)) fn82 (noLoops (by kernel_rfl)) (by kernel_rfl) ((eo82 gl many n starts l goals fd lt sm wh).trans ?_)
    simp only [Bool.and_eq_true] at hc
    obtain ⟨hT, h1, h2⟩ := hc
    obtain ⟨t1, t2, t3, t4⟩ := okTeam_P hT
    rw [eqX_self, eqX_self, eqX_self, eqX_self, eqX_self, hT, h1, h2, decide_eq_true (show ([] : List Int).length ≤ goals.length from Nat.zero_le _), decide_eq_true (show goals.length < ([] : List Int).length + 1001 by simp; omega)]
    rfl
  · simp at h
end Go.Proofs.YtnbcmgdogohenaaDoor.Ev
/- The code's choice and the document's: both go through the same choices in the same order; and no choice is better. -/
namespace Go.Proofs.YtnbcmgdogohenaaDoor.Ev
open Go Go.RowKit Go.Proofs

/-- All choices of d more, in order. -/
def enum (m : Nat) : Nat → List Int → List (List Int)
  | 0, c => [c]
  | d + 1, c => (List.range' 0 m).flatMap fun i : Nat => bif List.any c (fun x => (i : Int) == x) then [] else enum m d (c ++ [(i : Int)])
theorem foldl_flatMap {α β γ : Type} (f : γ → β → γ) (g : α → List β) : ∀ (l : List α) (s : γ), (l.flatMap g).foldl f s = l.foldl (fun s a => (g a).foldl f s) s
  | [], s => rfl
  | a :: l, s => by rw [List.flatMap_cons, List.foldl_append, List.foldl_cons, foldl_flatMap f g l]
theorem foldl_congr {α γ : Type} {f g : γ → α → γ} {l : List α} (h : ∀ s, ∀ a ∈ l, f s a = g s a) : ∀ s, l.foldl f s = l.foldl g s := by
  induction l with
  | nil => intro s; rfl
  | cons a l ih => intro s; rw [List.foldl_cons, List.foldl_cons, h s a (by simp), ih fun s b hb => h s b (by simp [hb])]
section
variable {starts : List Int} {l : List Unit'} {goals : List Spot}
theorem chS_enum : ∀ (d : Nat) (c : List Int) (s : Ch), chS starts l goals d c s = (enum l.length d c).foldl (fun s c => leafS starts l goals c s) s
  | 0, c, s => rfl
  | d + 1, c, s => by
    show List.foldl _ s _ = List.foldl _ s _
    rw [enum, foldl_flatMap]
    refine foldl_congr (fun s i _ => ?_) s
    cases List.any c (fun x => (i : Int) == x) with
    | true => rfl
    | false => exact chS_enum d _ s

/-! ### The times of arrival -/
theorem atN_pre {c : List Int} {x : Int} {k : Nat} (hk : k < c.length) : atN .int (c ++ [x]) k = atN .int c k := by
  rw [atN_nat (T := .int) hk, atN_nat (T := .int) (show k < (c ++ [x]).length by rw [List.length_append]; omega), List.getElem_append_left hk]
theorem arr_pre {c : List Int} {x : Int} {k : Nat} (hk : k < c.length) : arrS starts l goals (c ++ [x]) k = arrS starts l goals c k := by
  unfold arrS
  rw [atN_pre hk]
theorem last_pre {c : List Int} {x : Int} : ∀ {k : Nat}, k ≤ c.length → lastS starts l goals (c ++ [x]) k = lastS starts l goals c k ∧ sumS starts l goals (c ++ [x]) k = sumS starts l goals c k
  | 0, _ => ⟨rfl, rfl⟩
  | k + 1, h => by
    obtain ⟨h1, h2⟩ := last_pre (c := c) (x := x) (k := k) (by omega)
    unfold lastS sumS
    rw [h1, h2, arr_pre (by omega)]
    exact ⟨rfl, rfl⟩
theorem arr_snoc (h : AsP l starts goals) {c : List Int} {i : Nat} (hi : i < l.length) (hc : c.length < goals.length) (lt sm : Int) (f : Bool) : arrS starts l goals (c ++ [(i : Int)]) c.length = arrR l starts goals ⟨lt, sm, c, f⟩ i := by
  have e : atN .int (c ++ [(i : Int)]) c.length = (i : Int) := by
    rw [atN_nat (T := .int) (show c.length < (c ++ [(i : Int)]).length by rw [List.length_append]; simp)]
    simp
  unfold arrS arrR
  rw [e]
  unfold atD
  rw [Int.toNat_natCast]
  have hu := unitOk_P (h.unit i hi)
  rw [← atN_nat (T := .unit) hi] at hu
  have hg : placed (atN .spot goals c.length) = true := by
    rw [atN_nat (T := .spot) hc]
    exact h.goal _ (List.getElem_mem hc)
  rw [(takes_eq hu hu.base hg).1]
/-- A choice as the document keeps it. -/
def mkR (starts : List Int) (l : List Unit') (goals : List Spot) (c : List Int) : Ch := ⟨lastS starts l goals c c.length, sumS starts l goals c c.length, c, false⟩
theorem next_mk (h : AsP l starts goals) {c : List Int} {i : Nat} (hi : i < l.length) (hc : c.length < goals.length) : nextR l starts goals (mkR starts l goals c) i = mkR starts l goals (c ++ [(i : Int)]) := by
  have e := arr_snoc h hi hc (lastS starts l goals c c.length) (sumS starts l goals c c.length) false
  obtain ⟨h1, h2⟩ := last_pre (starts := starts) (l := l) (goals := goals) (c := c) (x := (i : Int)) (k := c.length) (Nat.le_refl _)
  unfold nextR mkR
  have hl : (c ++ [(i : Int)]).length = c.length + 1 := by simp
  rw [hl]
  show (⟨imax (lastS starts l goals c c.length) _, wr (sumS starts l goals c c.length + _), c ++ [(i : Int)], false⟩ : Ch) = ⟨imax (lastS starts l goals (c ++ [(i : Int)]) c.length) _, wr (sumS starts l goals (c ++ [(i : Int)]) c.length + _), c ++ [(i : Int)], false⟩
  rw [h1, h2, e]
theorem chR_enum (h : AsP l starts goals) : ∀ (d : Nat) (c : List Int) (b : Ch), c.length + d = goals.length → chR l starts goals d (mkR starts l goals c) b = (enum l.length d c).foldl (fun b c => leafR (mkR starts l goals c) b) b
  | 0, c, b, _ => rfl
  | d + 1, c, b, hd => by
    show List.foldl _ b _ = List.foldl _ b _
    rw [enum, foldl_flatMap]
    refine foldl_congr (fun b i hi => ?_) b
    rw [List.mem_range'_1] at hi
    show (bif List.any c (fun x => (i : Int) == x) then b else chR l starts goals d (nextR l starts goals (mkR starts l goals c) i) b) = List.foldl _ b (bif List.any c (fun x => (i : Int) == x) then [] else enum l.length d (c ++ [(i : Int)]))
    cases List.any c (fun x => (i : Int) == x) with
    | true => rfl
    | false =>
      show chR l starts goals d (nextR l starts goals (mkR starts l goals c) i) b = _
      rw [next_mk h (by omega) (by omega)]
      exact chR_enum h d _ b (by rw [List.length_append]; simp; omega)

/-! ### The order of the choices -/
theorem lexLt_pre : ∀ (c x y : List Int), lexLt (c ++ x) (c ++ y) = lexLt x y
  | [], x, y => rfl
  | a :: c, x, y => by
    show (bif a != a then decide (a < a) else lexLt (c ++ x) (c ++ y)) = _
    rw [bne_self_eq_false]
    exact lexLt_pre c x y
theorem lexLt_asymm : ∀ {x y : List Int}, lexLt x y = true → lexLt y x = false
  | [], y, h => by cases y <;> simp [lexLt] at h
  | a :: x, [], h => by simp [lexLt] at h
  | a :: x, b :: y, h => by
    rw [lexLt] at h ⊢
    by_cases e : a = b
    · subst e
      rw [bne_self_eq_false] at h ⊢
      exact lexLt_asymm (x := x) (y := y) h
    · have h1 : (a != b) = true := by simp [e]
      have h2 : (b != a) = true := by simp; exact fun h => e h.symm
      rw [h1] at h
      rw [h2]
      have : a < b := of_decide_eq_true h
      exact decide_eq_false (by omega)
theorem enum_pre {m : Nat} : ∀ {d : Nat} {c x : List Int}, x ∈ enum m d c → ∃ y, x = c ++ y
  | 0, c, x, h => ⟨[], by rw [enum, List.mem_singleton] at h; rw [h, List.append_nil]⟩
  | d + 1, c, x, h => by
    rw [enum, List.mem_flatMap] at h
    obtain ⟨i, _, h⟩ := h
    cases hc : List.any c (fun x => (i : Int) == x) with
    | true => rw [hc] at h; simp at h
    | false =>
      rw [hc] at h
      obtain ⟨y, rfl⟩ := enum_pre (c := c ++ [(i : Int)]) (show x ∈ enum m d (c ++ [(i : Int)]) from h)
      exact ⟨[(i : Int)] ++ y, by rw [List.append_assoc]⟩
theorem enum_len {m : Nat} : ∀ {d : Nat} {c x : List Int}, x ∈ enum m d c → x.length = c.length + d
  | 0, c, x, h => by rw [enum, List.mem_singleton] at h; rw [h]; rfl
  | d + 1, c, x, h => by
    rw [enum, List.mem_flatMap] at h
    obtain ⟨i, _, h⟩ := h
    cases hc : List.any c (fun x => (i : Int) == x) with
    | true => rw [hc] at h; simp at h
    | false =>
      rw [hc] at h
      have := enum_len (c := c ++ [(i : Int)]) (show x ∈ enum m d (c ++ [(i : Int)]) from h)
      rw [this, List.length_append]; simp; omega
theorem pairwise_flatMap' {α : Type} {r : List Int → List Int → Prop} {g : Nat → List (List Int)} : ∀ (n k : Nat), (∀ i, (g i).Pairwise r) → (∀ i j, i < j → ∀ x ∈ g i, ∀ y ∈ g j, r x y) → ((List.range' k n).flatMap g).Pairwise r
  | 0, k, _, _ => .nil
  | n + 1, k, h1, h2 => by
    rw [List.range'_succ, List.flatMap_cons, List.pairwise_append]
    refine ⟨h1 k, pairwise_flatMap' (α := α) n (k + 1) h1 h2, fun x hx y hy => ?_⟩
    obtain ⟨j, hj, hy⟩ := List.mem_flatMap.1 hy
    rw [List.mem_range'_1] at hj
    exact h2 k j (by omega) x hx y hy
theorem enum_sorted {m : Nat} : ∀ (d : Nat) (c : List Int), (enum m d c).Pairwise (fun x y => lexLt x y = true)
  | 0, c => List.pairwise_singleton _ _
  | d + 1, c => by
    rw [enum]
    refine pairwise_flatMap' (α := Nat) m 0 (fun i => ?_) fun i j hij x hx y hy => ?_
    · cases List.any c (fun x => (i : Int) == x) with
      | true => exact .nil
      | false => exact enum_sorted d _
    · cases h1 : List.any c (fun x => (i : Int) == x) with
      | true => rw [h1] at hx; simp at hx
      | false =>
        cases h2 : List.any c (fun x => (j : Int) == x) with
        | true => rw [h2] at hy; simp at hy
        | false =>
          rw [h1] at hx
          rw [h2] at hy
          obtain ⟨x', rfl⟩ := enum_pre (c := c ++ [(i : Int)]) (show x ∈ enum m d (c ++ [(i : Int)]) from hx)
          obtain ⟨y', rfl⟩ := enum_pre (c := c ++ [(j : Int)]) (show y ∈ enum m d (c ++ [(j : Int)]) from hy)
          rw [List.append_assoc, List.append_assoc, lexLt_pre]
          show (bif (i : Int) != (j : Int) then decide ((i : Int) < (j : Int)) else lexLt x' y') = true
          have : ((i : Int) != (j : Int)) = true := by simp; omega
          rw [this]
          exact decide_eq_true (by omega)

/-! ### The best -/
/-- What is kept is a choice that was tried, and none of these is better. -/
structure BestP (starts : List Int) (l : List Unit') (goals : List Spot) (done : List (List Int)) (s : Ch) : Prop where
  found : s.found = !done.isEmpty
  is : s.found = true → s.wh ∈ done ∧ s.late = lastS starts l goals s.wh s.wh.length ∧ s.sum = sumS starts l goals s.wh s.wh.length
  best : ∀ c ∈ done, s.late < lastS starts l goals c c.length ∨ s.late = lastS starts l goals c c.length ∧ s.sum ≤ sumS starts l goals c c.length
theorem leafS_P {done : List (List Int)} {s : Ch} (h : BestP starts l goals done s) (c : List Int) : BestP starts l goals (done ++ [c]) (leafS starts l goals c s) := by
  have hne : (done ++ [c]).isEmpty = false := by cases done <;> rfl
  unfold leafS lfL lfS lfW lfF
  cases hb : betS starts l goals c s.found s.late s.sum with
  | true =>
    refine ⟨by rw [hne]; rfl, fun _ => ⟨by simp, rfl, rfl⟩, fun x hx => ?_⟩
    show lastS starts l goals c c.length < _ ∨ lastS starts l goals c c.length = _ ∧ sumS starts l goals c c.length ≤ _
    rcases List.mem_append.1 hx with hx | hx
    · have hf : s.found = true := by rw [h.found]; cases done with | nil => simp at hx | cons _ _ => rfl
      have := h.best x hx
      unfold betS at hb
      rw [hf] at hb
      simp only [bif_f, bif_t, Bool.not_true, Bool.false_or, Bool.or_eq_true, Bool.and_eq_true, decide_eq_true_eq, beq_iff_eq] at hb
      omega
    · rw [List.mem_singleton] at hx
      subst hx
      omega
  | false =>
    have hf : s.found = true := by
      unfold betS at hb
      cases hf : s.found with
      | true => rfl
      | false => rw [hf] at hb; simp at hb
    refine ⟨by rw [hne]; exact hf, fun _ => ?_, fun x hx => ?_⟩
    · obtain ⟨h1, h2, h3⟩ := h.is hf
      exact ⟨List.mem_append_left _ h1, h2, h3⟩
    · show s.late < _ ∨ s.late = _ ∧ s.sum ≤ _
      rcases List.mem_append.1 hx with hx | hx
      · exact h.best x hx
      · rw [List.mem_singleton] at hx
        subst hx
        unfold betS at hb
        rw [hf] at hb
        simp only [bif_f, bif_t, Bool.not_true, Bool.false_or, Bool.or_eq_false_iff, Bool.and_eq_false_iff, decide_eq_false_iff_not, beq_eq_false_iff_ne] at hb
        omega
theorem fold_P : ∀ (todo done : List (List Int)) (s : Ch), BestP starts l goals done s → BestP starts l goals (done ++ todo) (todo.foldl (fun s c => leafS starts l goals c s) s)
  | [], done, s, h => by rw [List.append_nil]; exact h
  | c :: todo, done, s, h => by
    have := fold_P todo (done ++ [c]) _ (leafS_P h c)
    rw [List.append_assoc] at this
    exact this
/-- The document looks at the order of the choices, too; that makes no difference. -/
theorem leaf_same {done : List (List Int)} {s : Ch} (h : BestP starts l goals done s) {c : List Int} (hs : ∀ x ∈ done, lexLt x c = true) : leafR (mkR starts l goals c) s = leafS starts l goals c s := by
  have hb : betterC ⟨lastS starts l goals c c.length, sumS starts l goals c c.length, c, true⟩ s = betS starts l goals c s.found s.late s.sum := by
    unfold betterC betterR betS
    show (bif (bif (!s.found) then true else (lastS starts l goals c c.length != s.late)) then (bif (!s.found) then true else (decide (lastS starts l goals c c.length < s.late))) else bif (sumS starts l goals c c.length != s.sum) then decide (sumS starts l goals c c.length < s.sum) else lexLt c s.wh) = _
    cases hf : s.found with
    | false => rfl
    | true =>
      have hl : lexLt c s.wh = false := lexLt_asymm (hs _ (h.is hf).1)
      rw [hl]
      simp only [Bool.not_true, cond_false]
      by_cases e1 : lastS starts l goals c c.length = s.late
      · rw [e1, bne_self_eq_false, beq_self_eq_true, decide_eq_false (show ¬ s.late < s.late by omega)]
        simp only [cond_false, cond_true]
        by_cases e2 : sumS starts l goals c c.length = s.sum
        · rw [e2, bne_self_eq_false, decide_eq_false (show ¬ s.sum < s.sum by omega)]
          rfl
        · rw [show (sumS starts l goals c c.length != s.sum) = true by simp [e2]]
          rfl
      · rw [show (lastS starts l goals c c.length != s.late) = true by simp [e1], show (lastS starts l goals c c.length == s.late) = false by simp [e1]]
        simp only [cond_true, cond_false]
        cases decide (lastS starts l goals c c.length < s.late) <;> rfl
  unfold leafR leafS lfL lfS lfW lfF mkR
  rw [hb]
  cases betS starts l goals c s.found s.late s.sum <;> rfl
theorem fold_same : ∀ (todo done : List (List Int)) (s : Ch), BestP starts l goals done s → (done ++ todo).Pairwise (fun x y => lexLt x y = true) → todo.foldl (fun b c => leafR (mkR starts l goals c) b) s = todo.foldl (fun s c => leafS starts l goals c s) s
  | [], done, s, _, _ => rfl
  | c :: todo, done, s, h, hp => by
    rw [List.foldl_cons, List.foldl_cons, leaf_same h fun x hx => (List.pairwise_append.1 hp).2.2 x hx c (by simp)]
    exact fold_same todo (done ++ [c]) _ (leafS_P h c) (by rw [List.append_assoc]; exact hp)
theorem bestP_nil : BestP starts l goals [] ⟨0, 0, [], false⟩ := ⟨rfl, fun h => by simp at h, fun c hc => by simp at hc⟩
/-- The code's choice is the document's. -/
theorem choice_same (h : AsP l starts goals) : csW starts l goals [] false 0 0 [] = chRW l starts goals 0 0 [] 0 0 [] false := by
  unfold csW chRW
  rw [List.length_nil, Nat.sub_zero, chS_enum]
  have := chR_enum h goals.length [] ⟨0, 0, [], false⟩ (by simp)
  have e : mkR starts l goals [] = ⟨0, 0, [], false⟩ := rfl
  rw [e] at this
  rw [this, fold_same (enum l.length goals.length []) [] ⟨0, 0, [], false⟩ bestP_nil (by rw [List.nil_append]; exact enum_sorted _ _)]
theorem choice_P : BestP starts l goals (enum l.length goals.length []) (chS starts l goals goals.length [] ⟨0, 0, [], false⟩) := by
  rw [chS_enum]
  have := fold_P (enum l.length goals.length []) [] _ (bestP_nil (starts := starts) (l := l) (goals := goals))
  rw [List.nil_append] at this
  exact this
/-- Which choices there are. -/
theorem mem_enum {m : Nat} : ∀ {d : Nat} {c y : List Int}, y.length = d → (∀ x ∈ y, 0 ≤ x ∧ x < m) → (c ++ y).Nodup → c ++ y ∈ enum m d c
  | 0, c, y, hl, _, _ => by
    have : y = [] := List.eq_nil_of_length_eq_zero hl
    subst this
    rw [List.append_nil, enum]
    exact List.mem_singleton.2 rfl
  | d + 1, c, [], hl, _, _ => by simp at hl
  | d + 1, c, x :: y, hl, hx, hn => by
    rw [enum, List.mem_flatMap]
    have hx0 := hx x (by simp)
    refine ⟨x.toNat, by rw [List.mem_range'_1]; omega, ?_⟩
    have e : ((x.toNat : Nat) : Int) = x := by omega
    rw [e]
    have hc : List.any c (fun z => x == z) = false := by
      rw [List.any_eq_false]
      intro z hz hxz
      have hxz : x = z := by simpa using hxz
      subst hxz
      rw [List.nodup_append] at hn
      exact hn.2.2 x hz x (by simp) rfl
    rw [hc]
    show c ++ x :: y ∈ enum m d (c ++ [x])
    have e2 : c ++ x :: y = (c ++ [x]) ++ y := by simp
    rw [e2]
    exact mem_enum (by simpa using hl) (fun z hz => hx z (by simp [hz])) (by rw [← e2]; exact hn)
theorem enum_mem {m : Nat} : ∀ {d : Nat} {c x : List Int}, x ∈ enum m d c → (∀ z ∈ c, 0 ≤ z ∧ z < m) → c.Nodup → (∀ z ∈ x, 0 ≤ z ∧ z < (m : Int)) ∧ x.Nodup
  | 0, c, x, h, h1, h2 => by rw [enum, List.mem_singleton] at h; subst h; exact ⟨h1, h2⟩
  | d + 1, c, x, h, h1, h2 => by
    rw [enum, List.mem_flatMap] at h
    obtain ⟨i, hi, h⟩ := h
    rw [List.mem_range'_1] at hi
    cases hc : List.any c (fun x => (i : Int) == x) with
    | true => rw [hc] at h; simp at h
    | false =>
      rw [hc] at h
      rw [List.any_eq_false] at hc
      refine enum_mem (c := c ++ [(i : Int)]) (show x ∈ enum m d (c ++ [(i : Int)]) from h) (fun z hz => ?_) ?_
      · rcases List.mem_append.1 hz with hz | hz
        · exact h1 z hz
        · rw [List.mem_singleton] at hz; subst hz; omega
      · rw [List.nodup_append]
        refine ⟨h2, by simp, fun a ha b hb => ?_⟩
        rw [List.mem_singleton] at hb
        subst hb
        intro e
        subst e
        exact hc (i : Int) ha (by simp)
theorem enum_ne {m : Nat} : ∀ {d : Nat}, d ≤ m → enum m d [] ≠ [] := by
  intro d hd h
  have : ([] : List Int) ++ ((List.range d).map fun i : Nat => (i : Int)) ∈ enum m d [] := mem_enum (by simp) (fun x hx => by
    obtain ⟨i, hi, rfl⟩ := List.mem_map.1 hx
    rw [List.mem_range] at hi
    omega) (by
    rw [List.nil_append]
    exact List.pairwise_map.2 (List.Pairwise.imp (fun {a b : Nat} (h : a ≠ b) (e : (a : Int) = (b : Int)) => h (by omega)) (show List.Pairwise (· ≠ ·) (List.range d) from List.nodup_range)))
  rw [h] at this
  simp at this
end
end Go.Proofs.YtnbcmgdogohenaaDoor.Ev
/- Summaries of functions, printed by a program out of a list, and what is made of them. -/
namespace Go.Proofs.YtnbcmgdogohenaaDoor.Ev
open Go Go.RowKit Go.Proofs
theorem all_iff {α : Type} {p : α → Bool} {l : List α} : List.all l p = true ↔ ∀ x ∈ l, p x = true := List.all_eq_true
/-- What the code asks is what the document asks. -/
theorem asArg_eq (l : List Unit') (starts : List Int) (goals : List Spot) : (bif (bif (bif (bif (!(List.all l (unitOk))) then true else (!(List.all goals (placed)))) then true else (!(List.all starts (timed)))) then true else ((starts.length : Int) != (l.length : Int))) then true else (decide ((goals.length : Int) > (l.length : Int)))) = asArg l starts goals := by
  have hA : (bif (bif (bif (bif (!(List.all l (unitOk))) then true else (!(List.all goals (placed)))) then true else (!(List.all starts (timed)))) then true else ((starts.length : Int) != (l.length : Int))) then true else (decide ((goals.length : Int) > (l.length : Int)))) = false ↔ asArg l starts goals = false := by
    unfold asArg asLen
    simp only [bif_t, Bool.or_eq_false_iff, Bool.not_eq_false', all_iff, List.any_eq_false, decide_eq_false_iff_not, bne_eq_false_iff_eq]
    constructor
    · rintro ⟨⟨⟨⟨h1, h2⟩, h3⟩, h4⟩, h5⟩
      refine ⟨⟨h4, h5⟩, fun k hk => ?_, fun p hp => ?_⟩
      · rw [List.mem_range'_1] at hk
        have hk1 : k < l.length := by omega
        have hk2 : k < starts.length := by omega
        unfold asBad
        rw [atN_nat (T := .unit) hk1, atN_nat (T := .int) hk2, h1 _ (List.getElem_mem hk1), show Time starts[k] = true from h3 _ (List.getElem_mem hk2)]
        simp
      · rw [show Place p = true from h2 p hp]
        simp
    · rintro ⟨⟨h4, h5⟩, h6, h7⟩
      have hk : ∀ k, k < l.length → unitOk (atN .unit l k) = true ∧ Time (atN .int starts k) = true := fun k hk => by
        have := h6 k (by rw [List.mem_range'_1]; omega)
        have h : asBad l starts k = false := by simpa using this
        unfold asBad at h
        obtain ⟨e1, e2⟩ := bif_no h
        exact ⟨by simpa using e1, by simpa using e2⟩
      refine ⟨⟨⟨⟨fun u hu => ?_, fun p hp => ?_⟩, fun t ht => ?_⟩, h4⟩, h5⟩
      · obtain ⟨k, h, rfl⟩ := List.getElem_of_mem hu
        have := (hk k h).1
        rwa [atN_nat (T := .unit) h] at this
      · have := h7 p hp
        have h : Place p = true := by simpa using this
        exact h
      · obtain ⟨k, h, rfl⟩ := List.getElem_of_mem ht
        have := (hk k (by omega)).2
        rwa [atN_nat (T := .int) h] at this
  cases h1 : asArg l starts goals with
  | false => exact hA.2 h1
  | true =>
    rw [← Bool.not_eq_false]
    intro h
    rw [hA.1 h] at h1
    exact Bool.noConfusion h1
theorem fn42 : FnOk 42 Tryd.f42 := ⟨by kernel_rfl, by kernel_rfl, by kernel_rfl, by kernel_rfl⟩
theorem e42 (gl : Gl) (l : List Unit') (starts : List Int) (goals : List Spot) : evFn (cxo gl (mkG [(79, F79), (80, F80), (81, F81)]) (mkO [(82, 0, FO82)]) none [] rlT [] [14]) noK noL Tryd.f42 [.sl .unit l, .sl .int starts, .sl .spot goals] noObjs = (match (bif (decide ((l.length : Int) > 6)) then true else (decide ((goals.length : Int) > 6))) with | true => an (.tup [.sl .int ([] : List Int), .i .i64 3]) | false => (match (decide (l.length ≤ 1000000)) with | true => (match ((decide (goals.length ≤ 1000000)) || ((!(List.all l (unitOk))) || false)) with | true => (match ((decide (starts.length ≤ 1000000)) || ((bif (!(List.all l (unitOk))) then true else (!(List.all goals (placed)))) || false)) with | true => (match (bif (bif (bif (bif (!(List.all l (unitOk))) then true else (!(List.all goals (placed)))) then true else (!(List.all starts (timed)))) then true else ((starts.length : Int) != (l.length : Int))) then true else (decide ((goals.length : Int) > (l.length : Int)))) with | true => an (.tup [.sl .int ([] : List Int), .i .i64 2]) | false => (match (okTeam l starts goals && (eqX (goals.length : Int) (goals.length : Int) && eqX (l.length : Int) (l.length : Int))) with | true => an (.tup [.sl .int (csW starts l goals [] false 0 0 ([] : List Int)), .i .i64 0]) | false => none)) | false => none) | false => none) | false => none)) := by kernel_rfl
def F42 : List PV → Option (Bool × PV)
  | [.sl .unit l, .sl .int starts, .sl .spot goals] => some ((decide (l.length ≤ 1000000) && (decide (starts.length ≤ 1000000) && decide (goals.length ≤ 1000000))), .tup [.sl .int (AsW l starts goals), .i .i64 (AsE l starts goals)])
  | _ => none
theorem s42 {gl : Gl} : Sum gl 42 F42 := by
  intro ps r h
  unfold F42 at h
  split at h
  · rename_i l starts goals
    obtain ⟨hc, rfl⟩ := Prod.mk.inj (Option.some.inj h)
    refine call_byO (K := noK) (L := noL) (bxs := []) (ows := [14]) (GOk.cons s79 (GOk.cons s80 (GOk.cons s81 (GOk.nil)))) (OOk.cons so82 (OOk.nil)) fn42 (noLoops (by kernel_rfl)) (by kernel_rfl) (evF_some ((e42 gl l starts goals).trans ?_))
    simp only [Bool.and_eq_true] at hc
    rw [hc.1, hc.2.1, hc.2.2, asArg_eq]
    unfold AsW AsE
    show (match asLong l goals with | true => _ | false => _) = _
    cases h1 : asLong l goals with
    | true => rfl
    | false =>
      simp only [Bool.true_or]
      cases h2 : asArg l starts goals with
      | true => rfl
      | false =>
        have hP := asP h1 h2
        rw [hP.team, eqX_self, eqX_self, choice_same hP]
        rfl
  · simp at h
/-- What is assigned: a choice, than which none is better. -/
structure AssP (l : List Unit') (starts : List Int) (goals : List Spot) : Prop where
  p : AsP l starts goals
  mem : AsW l starts goals ∈ enum l.length goals.length []
  best : ∀ c ∈ enum l.length goals.length [], lastS starts l goals (AsW l starts goals) (AsW l starts goals).length < lastS starts l goals c c.length ∨ lastS starts l goals (AsW l starts goals) (AsW l starts goals).length = lastS starts l goals c c.length ∧ sumS starts l goals (AsW l starts goals) (AsW l starts goals).length ≤ sumS starts l goals c c.length
theorem assP {l : List Unit'} {starts : List Int} {goals : List Spot} (h : AsE l starts goals = 0) : AssP l starts goals := by
  unfold AsE at h
  cases h1 : asLong l goals with
  | true => rw [h1] at h; exact absurd (show (3 : Int) = 0 from h) (by decide)
  | false =>
    rw [h1] at h
    cases h2 : asArg l starts goals with
    | true => rw [h2] at h; exact absurd (show (2 : Int) = 0 from h) (by decide)
    | false =>
      have hP := asP h1 h2
      have hW : AsW l starts goals = (chS starts l goals goals.length [] ⟨0, 0, [], false⟩).wh := by
        unfold AsW
        rw [h1, h2]
        show chRW l starts goals 0 0 [] 0 0 [] false = _
        rw [← choice_same hP]
        rfl
      have hB := choice_P (starts := starts) (l := l) (goals := goals)
      have hf : (chS starts l goals goals.length [] ⟨0, 0, [], false⟩).found = true := by
        rw [hB.found]
        have := enum_ne (m := l.length) (d := goals.length) hP.g6
        cases he : enum l.length goals.length [] with
        | nil => exact absurd he this
        | cons _ _ => rfl
      obtain ⟨m1, m2, m3⟩ := hB.is hf
      refine ⟨hP, by rw [hW]; exact m1, fun c hc => ?_⟩
      have := hB.best c hc
      rw [m2, m3] at this
      rw [hW]
      exact this
theorem AsW_len (l : List Unit') (starts : List Int) (goals : List Spot) : (AsW l starts goals).length ≤ goals.length := by
  cases he : (AsE l starts goals == 0) with
  | true =>
    have := enum_len (assP (beq_iff_eq.1 he)).mem
    rw [this]
    simp
  | false =>
    unfold AsE at he
    unfold AsW
    cases h1 : asLong l goals with
    | true => exact Nat.zero_le _
    | false =>
      rw [h1] at he
      cases h2 : asArg l starts goals with
      | true => exact Nat.zero_le _
      | false => rw [h2] at he; exact Bool.noConfusion (show true = false from he)
theorem sameI_self (a : List Int) : sameS eqI a a = true := (sameS_iff eqI_iff).2 rfl
theorem fn12 : FnOk 12 Tryd.f12 := ⟨by kernel_rfl, by kernel_rfl, by kernel_rfl, by kernel_rfl⟩
theorem e12 (l : List Unit') (starts : List Int) (goals : List Spot) : evFn (cx glU (mkG [(41, F41), (16, F16), (42, F42), (43, F43), (44, F44)]) [] []) noK noL Tryd.f12 [.agg [.sl .unit l, .sl .int starts, .sl .spot goals]] noObjs = (match (vastS l starts goals) with | true => an (.b true) | false => (match (decide (l.length ≤ 1000000) && (decide (starts.length ≤ 1000000) && decide (goals.length ≤ 1000000))) with | true => (match (decide ((AsW l starts goals).length ≤ 1000000)) with | true => an (.b (bif (bif (sameS eqI (AsW l starts goals) (AsW l starts goals)) then ((AsE l starts goals) == (AsE l starts goals)) else false) then true else false)) | false => none) | false => none)) := by kernel_rfl
def F12 : List PV → Option (Bool × PV)
  | [.agg [.sl .unit l, .sl .int starts, .sl .spot goals]] => some (true, .b true)
  | _ => none
theorem s12 : Sum glU 12 F12 := by
  intro ps r h
  unfold F12 at h
  split at h
  · rename_i l starts goals
    obtain ⟨hc, rfl⟩ := Prod.mk.inj (Option.some.inj h)
    refine call_by (K := noK) (L := noL) (bxs := []) (ows := []) (GOk.cons s41 (GOk.cons s16 (GOk.cons s42 (GOk.cons s43 (GOk.cons s44 (GOk.nil)))))) fn12 (noLoops (by kernel_rfl)) (by kernel_rfl) (evF_some ((e12 l starts goals).trans ?_))
    cases hv : vastS l starts goals with
    | true => rfl
    | false =>
      obtain ⟨h1, h2, h3⟩ := vast_no hv
      have a1 : decide (l.length ≤ 1000000) = true := decide_eq_true (by omega)
      have a2 : decide (starts.length ≤ 1000000) = true := decide_eq_true (by omega)
      have a3 : decide (goals.length ≤ 1000000) = true := decide_eq_true (by omega)
      have a4 : decide ((AsW l starts goals).length ≤ 1000000) = true := decide_eq_true (by have := AsW_len l starts goals; omega)
      simp only [a1, a2, a3, a4, sameI_self, beq_self_eq_true, cond_true, Bool.and_self]
      rfl
  · simp at h
end Go.Proofs.YtnbcmgdogohenaaDoor.Ev
