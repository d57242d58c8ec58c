/- Summaries of functions, printed by a program out of a list, and what is made of them. -/
import Derived.Test.YtnbcmgdogohenaaDoorLi
set_option linter.unusedVariables false
set_option linter.unusedSimpArgs false
set_option maxRecDepth 100000
namespace Go.Proofs.YtnbcmgdogohenaaDoor.Ev
open Go Go.RowKit Go.Proofs
theorem fn107 : FnOk 107 Tryd.f107 := ⟨by kernel_rfl, by kernel_rfl, by kernel_rfl, by kernel_rfl⟩
theorem e107 (gl : Gl) (u : Unit') : evFn (cx gl (mkG [(19, F19)]) [] []) noK noL Tryd.f107 [.agg [.s u.name, .i .i64 u.speed, .i .i64 u.fuel, .i .i64 u.burn, .i .i64 u.reserve, .i .i64 u.hours, .i .i64 u.sea, .i .i64 u.wind, .i .i64 u.base.x, .i .i64 u.base.y, .i .i64 u.margin, .i .i64 u.level], .ptr [.fn (.func 19) [] []] 0] noObjs = an (.b (!(unitOk u))) := by kernel_rfl
def F107 : List PV → Option (Bool × PV)
  | [.agg uL, .ptr [.fn (.func 19) [] []] 0] => (ETy.dec .unit uL).bind fun u => some (true, .b (!(unitOk u)))
  | _ => none
theorem s107 {gl : Gl} : Sum gl 107 F107 := by
  intro ps r h
  unfold F107 at h
  split at h
  · rename_i uL
    obtain ⟨u, hu, h_u⟩ := Option.bind_eq_some_iff.1 h
    obtain rfl := dec_is (by simp) hu
    obtain ⟨hc, rfl⟩ := Prod.mk.inj (Option.some.inj h_u)
    refine call_by (K := noK) (L := noL) (bxs := []) (ows := []) (GOk.cons s19 (GOk.nil)) fn107 (noLoops (by kernel_rfl)) (by kernel_rfl) (evF_some ((e107 gl u).trans ?_))
    rfl
  · simp at h
structure S128_2 where
  xs : List Unit'
  r : Int
  n : Int
  i : Int
def S128_2.enc (s : S128_2) : List PV := [.sl .unit s.xs, .fn (.func 107) [] [.ptr [.fn (.func 19) [] []] 0], .i .i64 s.r, .i .i64 s.n, .i .i64 s.i]
def S128_2.encH (s : S128_2) : Heap := []
def dec128_2 : List PV → Heap → Option S128_2
  | [.sl .unit xs_, .fn (.func 107) [] [.ptr [.fn (.func 19) [] []] 0], .i .i64 r_, .i .i64 n_, .i .i64 i_], [] => some ⟨xs_, r_, n_, i_⟩
  | _, _ => none
theorem dec_enc128_2 (vs : List PV) (hs : Heap) (s : S128_2) (h : dec128_2 vs hs = some s) : vs = s.enc ∧ hs = s.encH := by
  unfold dec128_2 at h
  split at h
  · obtain rfl := Option.some.inj h
    exact ⟨rfl, rfl⟩
  · simp at h
def st128_2 {ρ : Type} (s : S128_2) (next : S128_2 → Option ρ) (out : S128_2 × Bool → Option ρ) : Option ρ := (match (decide (s.i < s.n)) with | true => (match (inB s.i s.xs.length) with | true => (match (!(unitOk (atD .unit s.xs s.i))) with | true => out (⟨s.xs, s.i, s.n, s.i⟩, true) | false => next ⟨s.xs, s.r, s.n, (wr (s.i + 1))⟩) | false => none) | false => out (s, false))
def out128_2 (k : Ex → List PV → Heap → Option R) (o : S128_2 × Bool) : Option R := match o.2 with
  | true => k .ret o.1.enc o.1.encH
  | false => k (.exit 0) o.1.enc o.1.encH
def fuel128_2 (s : S128_2) : Nat := s.xs.length + 1
def K128 : Keep := fun _ => ([0, 1, 4, 7, 8], [])
def L128 : Lam := loopL dec128_2 st128_2 fuel128_2 out128_2
noncomputable def b128_2 : Code := (loopsOf (bodyOf Tryd.f128)).getD 0 .skip
theorem step128_2 (gl : Gl) (j : Nat) (s : S128_2) (k : Ex → List PV → Heap → Option R) : unroll (cx gl (mkG [(107, F107)]) [] []) K128 L128 Tryd.f128.ntmps (Tryd.f128.ntmps + 16) b128_2 (j + 1) s.enc s.encH k = st128_2 s (fun s' => unroll (cx gl (mkG [(107, F107)]) [] []) K128 L128 Tryd.f128.ntmps (Tryd.f128.ntmps + 16) b128_2 j s'.enc s'.encH k) (out128_2 k) := by kernel_rfl
theorem l128 (gl : Gl) : LoopsOk (cx gl (mkG [(107, F107)]) [] []) K128 L128 Tryd.f128.ntmps (Tryd.f128.ntmps + 16) (loopsOf (bodyOf Tryd.f128)) := by
  refine loopsOk_list (l := [b128_2]) (by kernel_rfl) ?_
  exact List.forall_mem_cons.2 ⟨loopOk1 (fuel := fuel128_2) (enc := S128_2.enc) (encH := S128_2.encH) (fun vs hs k => by kernel_rfl) dec_enc128_2 (step128_2 gl ), (fun _ h => by simp at h)⟩
theorem fn128 : FnOk 128 Tryd.f128 := ⟨by kernel_rfl, by kernel_rfl, by kernel_rfl, by kernel_rfl⟩
theorem e128 (gl : Gl) (xs : List Unit') : evFn (cx gl (mkG [(107, F107)]) [] []) K128 L128 Tryd.f128 [.sl .unit xs, .fn (.func 107) [] [.ptr [.fn (.func 19) [] []] 0]] noObjs = (iter st128_2 (fuel128_2 (⟨xs, 0, (xs.length : Int), 0⟩ : S128_2)) (⟨xs, 0, (xs.length : Int), 0⟩ : S128_2) fun o2 => (match o2.2 with | true => an (.i .i64 o2.1.r) | false => an (.i .i64 (-1)))) := by kernel_rfl
def F128 : List PV → Option (Bool × PV)
  | [.sl .unit xs, .fn (.func 107) [] [.ptr [.fn (.func 19) [] []] 0]] => some ((decide (xs.length ≤ 1000000)), .i .i64 (idxI (fun x => !(unitOk x)) xs))
  | _ => none
theorem s128 {gl : Gl} : Sum gl 128 F128 := by
  intro ps r h
  unfold F128 at h
  split at h
  · rename_i xs
    obtain ⟨hc, rfl⟩ := Prod.mk.inj (Option.some.inj h)
    refine call_by (K := K128) (L := L128) (bxs := []) (ows := []) (GOk.cons s107 (GOk.nil)) fn128 (l128 gl) (by kernel_rfl) (evF_some ((e128 gl xs).trans ?_))
    have hx := of_decide_eq_true hc
    refine (iter_all (step := st128_2) (F := fun k => ⟨xs, 0, xs.length, (k : Int)⟩) (stop := fun k => bif !(unitOk (atN .unit xs k)) then some (⟨xs, (k : Int), xs.length, (k : Int)⟩, true) else none) (last := (⟨xs, 0, xs.length, (xs.length : Int)⟩, false)) xs.length _ (fun k next hk => ?_) (fun next => ?_) _ (Nat.le_refl _) _ rfl).trans ?_
    · simp only [st128_2, decLt_nat hk, inB_nat hk, wr_succ (show k ≤ 1000000 by omega), atD, Int.toNat_natCast]
      generalize (!(unitOk (atN .unit xs k))) = b_
      cases b_ <;> rfl
    · simp only [st128_2, decLt_self]
    · rw [runTo_find (fun x => !(unitOk x)) (fun k => (⟨xs, (k : Int), xs.length, (k : Int)⟩, true)) _ _ xs (fun k hk => by rw [atN_nat hk]) xs.length 0 (by omega), List.drop_zero]
      unfold idxI
      cases xs.findIdx? (fun x => !(unitOk x)) with
      | none => rfl
      | some k => simp only [Nat.zero_add]; rfl
  · simp at h
theorem fn106 : FnOk 106 Tryd.f106 := ⟨by kernel_rfl, by kernel_rfl, by kernel_rfl, by kernel_rfl⟩
theorem e106 (gl : Gl) (xs : List Unit') : evFn (cx gl (mkG [(128, F128)]) [] []) noK noL Tryd.f106 [.sl .unit xs, .fn (.func 107) [] [.ptr [.fn (.func 19) [] []] 0]] noObjs = (match (decide (xs.length ≤ 1000000)) with | true => an (.b (decide ((idxI (fun x => !(unitOk x)) xs) ≥ 0))) | false => none) := by kernel_rfl
def F106 : List PV → Option (Bool × PV)
  | [.sl .unit xs, .fn (.func 107) [] [.ptr [.fn (.func 19) [] []] 0]] => some ((decide (xs.length ≤ 1000000)), .b (List.any xs (fun x => !(unitOk x))))
  | _ => none
theorem s106 {gl : Gl} : Sum gl 106 F106 := by
  intro ps r h
  unfold F106 at h
  split at h
  · rename_i xs
    obtain ⟨hc, rfl⟩ := Prod.mk.inj (Option.some.inj h)
    refine call_by (K := noK) (L := noL) (bxs := []) (ows := []) (GOk.cons s128 (GOk.nil)) fn106 (noLoops (by kernel_rfl)) (by kernel_rfl) (evF_some ((e106 gl xs).trans ?_))
    have hx := of_decide_eq_true hc
    rw [decide_eq_true hx]
    show an (.b (decide (idxI _ xs ≥ 0))) = _
    rw [idxI_any]
    rfl
  · simp at h
theorem fn79 : FnOk 79 Tryd.f79 := ⟨by kernel_rfl, by kernel_rfl, by kernel_rfl, by kernel_rfl⟩
theorem e79 (gl : Gl) (xs : List Unit') : evFn (cx gl (mkG [(106, F106)]) [] []) noK noL Tryd.f79 [.sl .unit xs, .fn (.func 19) [] []] noObjs = (match (decide (xs.length ≤ 1000000)) with | true => an (.b (!(List.any xs (fun x => !(unitOk x))))) | false => none) := by kernel_rfl
def F79 : List PV → Option (Bool × PV)
  | [.sl .unit xs, .fn (.func 19) [] []] => some ((decide (xs.length ≤ 1000000)), .b (List.all xs (unitOk)))
  | _ => none
theorem s79 {gl : Gl} : Sum gl 79 F79 := by
  intro ps r h
  unfold F79 at h
  split at h
  · rename_i xs
    obtain ⟨hc, rfl⟩ := Prod.mk.inj (Option.some.inj h)
    refine call_by (K := noK) (L := noL) (bxs := []) (ows := []) (GOk.cons s106 (GOk.nil)) fn79 (noLoops (by kernel_rfl)) (by kernel_rfl) (evF_some ((e79 gl xs).trans ?_))
    have hx := of_decide_eq_true hc
    rw [decide_eq_true hx]
    show an (.b (!(xs.any fun x => !((unitOk) x)))) = _
    rw [all_not_any]
    rfl
  · simp at h
theorem fn109 : FnOk 109 Tryd.f109 := ⟨by kernel_rfl, by kernel_rfl, by kernel_rfl, by kernel_rfl⟩
theorem e109 (gl : Gl) (p : Spot) : evFn (cx gl (mkG [(48, F48)]) [] []) noK noL Tryd.f109 [.agg [.i .i64 p.x, .i .i64 p.y], .ptr [.fn (.func 48) [] []] 0] noObjs = an (.b (!(placed p))) := by kernel_rfl
def F109 : List PV → Option (Bool × PV)
  | [.agg [.i .i64 p0, .i .i64 p1], .ptr [.fn (.func 48) [] []] 0] => some (true, .b (!(placed (⟨p0, p1⟩ : Spot))))
  | _ => none
theorem s109 {gl : Gl} : Sum gl 109 F109 := by
  intro ps r h
  unfold F109 at h
  split at h
  · rename_i p0 p1
    obtain ⟨hc, rfl⟩ := Prod.mk.inj (Option.some.inj h)
    refine call_by (K := noK) (L := noL) (bxs := []) (ows := []) (GOk.cons s48 (GOk.nil)) fn109 (noLoops (by kernel_rfl)) (by kernel_rfl) (evF_some ((e109 gl ⟨p0, p1⟩).trans ?_))
    rfl
  · simp at h
structure S129_2 where
  xs : List Spot
  r : Int
  n : Int
  i : Int
def S129_2.enc (s : S129_2) : List PV := [.sl .spot s.xs, .fn (.func 109) [] [.ptr [.fn (.func 48) [] []] 0], .i .i64 s.r, .i .i64 s.n, .i .i64 s.i]
def S129_2.encH (s : S129_2) : Heap := []
def dec129_2 : List PV → Heap → Option S129_2
  | [.sl .spot xs_, .fn (.func 109) [] [.ptr [.fn (.func 48) [] []] 0], .i .i64 r_, .i .i64 n_, .i .i64 i_], [] => some ⟨xs_, r_, n_, i_⟩
  | _, _ => none
theorem dec_enc129_2 (vs : List PV) (hs : Heap) (s : S129_2) (h : dec129_2 vs hs = some s) : vs = s.enc ∧ hs = s.encH := by
  unfold dec129_2 at h
  split at h
  · obtain rfl := Option.some.inj h
    exact ⟨rfl, rfl⟩
  · simp at h
def st129_2 {ρ : Type} (s : S129_2) (next : S129_2 → Option ρ) (out : S129_2 × Bool → Option ρ) : Option ρ := (match (decide (s.i < s.n)) with | true => (match (inB s.i s.xs.length) with | true => (match (!(placed (atD .spot s.xs s.i))) with | true => out (⟨s.xs, s.i, s.n, s.i⟩, true) | false => next ⟨s.xs, s.r, s.n, (wr (s.i + 1))⟩) | false => none) | false => out (s, false))
def out129_2 (k : Ex → List PV → Heap → Option R) (o : S129_2 × Bool) : Option R := match o.2 with
  | true => k .ret o.1.enc o.1.encH
  | false => k (.exit 0) o.1.enc o.1.encH
def fuel129_2 (s : S129_2) : Nat := s.xs.length + 1
def K129 : Keep := fun _ => ([0, 1, 4, 7, 8], [])
def L129 : Lam := loopL dec129_2 st129_2 fuel129_2 out129_2
noncomputable def b129_2 : Code := (loopsOf (bodyOf Tryd.f129)).getD 0 .skip
theorem step129_2 (gl : Gl) (j : Nat) (s : S129_2) (k : Ex → List PV → Heap → Option R) : unroll (cx gl (mkG [(109, F109)]) [] []) K129 L129 Tryd.f129.ntmps (Tryd.f129.ntmps + 16) b129_2 (j + 1) s.enc s.encH k = st129_2 s (fun s' => unroll (cx gl (mkG [(109, F109)]) [] []) K129 L129 Tryd.f129.ntmps (Tryd.f129.ntmps + 16) b129_2 j s'.enc s'.encH k) (out129_2 k) := by kernel_rfl
theorem l129 (gl : Gl) : LoopsOk (cx gl (mkG [(109, F109)]) [] []) K129 L129 Tryd.f129.ntmps (Tryd.f129.ntmps + 16) (loopsOf (bodyOf Tryd.f129)) := by
  refine loopsOk_list (l := [b129_2]) (by kernel_rfl) ?_
  exact List.forall_mem_cons.2 ⟨loopOk1 (fuel := fuel129_2) (enc := S129_2.enc) (encH := S129_2.encH) (fun vs hs k => by kernel_rfl) dec_enc129_2 (step129_2 gl ), (fun _ h => by simp at h)⟩
theorem fn129 : FnOk 129 Tryd.f129 := ⟨by kernel_rfl, by kernel_rfl, by kernel_rfl, by kernel_rfl⟩
theorem e129 (gl : Gl) (xs : List Spot) : evFn (cx gl (mkG [(109, F109)]) [] []) K129 L129 Tryd.f129 [.sl .spot xs, .fn (.func 109) [] [.ptr [.fn (.func 48) [] []] 0]] noObjs = (iter st129_2 (fuel129_2 (⟨xs, 0, (xs.length : Int), 0⟩ : S129_2)) (⟨xs, 0, (xs.length : Int), 0⟩ : S129_2) fun o2 => (match o2.2 with | true => an (.i .i64 o2.1.r) | false => an (.i .i64 (-1)))) := by kernel_rfl
def F129 : List PV → Option (Bool × PV)
  | [.sl .spot xs, .fn (.func 109) [] [.ptr [.fn (.func 48) [] []] 0]] => some ((decide (xs.length ≤ 1000000)), .i .i64 (idxI (fun x => !(placed x)) xs))
  | _ => none
theorem s129 {gl : Gl} : Sum gl 129 F129 := by
  intro ps r h
  unfold F129 at h
  split at h
  · rename_i xs
    obtain ⟨hc, rfl⟩ := Prod.mk.inj (Option.some.inj h)
    refine call_by (K := K129) (L := L129) (bxs := []) (ows := []) (GOk.cons s109 (GOk.nil)) fn129 (l129 gl) (by kernel_rfl) (evF_some ((e129 gl xs).trans ?_))
    have hx := of_decide_eq_true hc
    refine (iter_all (step := st129_2) (F := fun k => ⟨xs, 0, xs.length, (k : Int)⟩) (stop := fun k => bif !(placed (atN .spot xs k)) then some (⟨xs, (k : Int), xs.length, (k : Int)⟩, true) else none) (last := (⟨xs, 0, xs.length, (xs.length : Int)⟩, false)) xs.length _ (fun k next hk => ?_) (fun next => ?_) _ (Nat.le_refl _) _ rfl).trans ?_
    · simp only [st129_2, decLt_nat hk, inB_nat hk, wr_succ (show k ≤ 1000000 by omega), atD, Int.toNat_natCast]
      generalize (!(placed (atN .spot xs k))) = b_
      cases b_ <;> rfl
    · simp only [st129_2, decLt_self]
    · rw [runTo_find (fun x => !(placed x)) (fun k => (⟨xs, (k : Int), xs.length, (k : Int)⟩, true)) _ _ xs (fun k hk => by rw [atN_nat hk]) xs.length 0 (by omega), List.drop_zero]
      unfold idxI
      cases xs.findIdx? (fun x => !(placed x)) with
      | none => rfl
      | some k => simp only [Nat.zero_add]; rfl
  · simp at h
theorem fn108 : FnOk 108 Tryd.f108 := ⟨by kernel_rfl, by kernel_rfl, by kernel_rfl, by kernel_rfl⟩
theorem e108 (gl : Gl) (xs : List Spot) : evFn (cx gl (mkG [(129, F129)]) [] []) noK noL Tryd.f108 [.sl .spot xs, .fn (.func 109) [] [.ptr [.fn (.func 48) [] []] 0]] noObjs = (match (decide (xs.length ≤ 1000000)) with | true => an (.b (decide ((idxI (fun x => !(placed x)) xs) ≥ 0))) | false => none) := by kernel_rfl
def F108 : List PV → Option (Bool × PV)
  | [.sl .spot xs, .fn (.func 109) [] [.ptr [.fn (.func 48) [] []] 0]] => some ((decide (xs.length ≤ 1000000)), .b (List.any xs (fun x => !(placed x))))
  | _ => none
theorem s108 {gl : Gl} : Sum gl 108 F108 := by
  intro ps r h
  unfold F108 at h
  split at h
  · rename_i xs
    obtain ⟨hc, rfl⟩ := Prod.mk.inj (Option.some.inj h)
    refine call_by (K := noK) (L := noL) (bxs := []) (ows := []) (GOk.cons s129 (GOk.nil)) fn108 (noLoops (by kernel_rfl)) (by kernel_rfl) (evF_some ((e108 gl xs).trans ?_))
    have hx := of_decide_eq_true hc
    rw [decide_eq_true hx]
    show an (.b (decide (idxI _ xs ≥ 0))) = _
    rw [idxI_any]
    rfl
  · simp at h
theorem fn80 : FnOk 80 Tryd.f80 := ⟨by kernel_rfl, by kernel_rfl, by kernel_rfl, by kernel_rfl⟩
theorem e80 (gl : Gl) (xs : List Spot) : evFn (cx gl (mkG [(108, F108)]) [] []) noK noL Tryd.f80 [.sl .spot xs, .fn (.func 48) [] []] noObjs = (match (decide (xs.length ≤ 1000000)) with | true => an (.b (!(List.any xs (fun x => !(placed x))))) | false => none) := by kernel_rfl
def F80 : List PV → Option (Bool × PV)
  | [.sl .spot xs, .fn (.func 48) [] []] => some ((decide (xs.length ≤ 1000000)), .b (List.all xs (placed)))
  | _ => none
theorem s80 {gl : Gl} : Sum gl 80 F80 := by
  intro ps r h
  unfold F80 at h
  split at h
  · rename_i xs
    obtain ⟨hc, rfl⟩ := Prod.mk.inj (Option.some.inj h)
    refine call_by (K := noK) (L := noL) (bxs := []) (ows := []) (GOk.cons s108 (GOk.nil)) fn80 (noLoops (by kernel_rfl)) (by kernel_rfl) (evF_some ((e80 gl xs).trans ?_))
    have hx := of_decide_eq_true hc
    rw [decide_eq_true hx]
    show an (.b (!(xs.any fun x => !((placed) x)))) = _
    rw [all_not_any]
    rfl
  · simp at h
theorem fn111 : FnOk 111 Tryd.f111 := ⟨by kernel_rfl, by kernel_rfl, by kernel_rfl, by kernel_rfl⟩
theorem e111 (gl : Gl) (n : Int) : evFn (cx gl (mkG [(52, F52)]) [] []) noK noL Tryd.f111 [.i .i64 n, .ptr [.fn (.func 52) [] []] 0] noObjs = an (.b (!(timed n))) := by kernel_rfl
def F111 : List PV → Option (Bool × PV)
  | [.i .i64 n, .ptr [.fn (.func 52) [] []] 0] => some (true, .b (!(timed n)))
  | _ => none
theorem s111 {gl : Gl} : Sum gl 111 F111 := by
  intro ps r h
  unfold F111 at h
  split at h
  · rename_i n
    obtain ⟨hc, rfl⟩ := Prod.mk.inj (Option.some.inj h)
    refine call_by (K := noK) (L := noL) (bxs := []) (ows := []) (GOk.cons s52 (GOk.nil)) fn111 (noLoops (by kernel_rfl)) (by kernel_rfl) (evF_some ((e111 gl n).trans ?_))
    rfl
  · simp at h
structure S130_2 where
  xs : List Int
  r : Int
  n : Int
  i : Int
def S130_2.enc (s : S130_2) : List PV := [.sl .int s.xs, .fn (.func 111) [] [.ptr [.fn (.func 52) [] []] 0], .i .i64 s.r, .i .i64 s.n, .i .i64 s.i]
def S130_2.encH (s : S130_2) : Heap := []
def dec130_2 : List PV → Heap → Option S130_2
  | [.sl .int xs_, .fn (.func 111) [] [.ptr [.fn (.func 52) [] []] 0], .i .i64 r_, .i .i64 n_, .i .i64 i_], [] => some ⟨xs_, r_, n_, i_⟩
  | _, _ => none
theorem dec_enc130_2 (vs : List PV) (hs : Heap) (s : S130_2) (h : dec130_2 vs hs = some s) : vs = s.enc ∧ hs = s.encH := by
  unfold dec130_2 at h
  split at h
  · obtain rfl := Option.some.inj h
    exact ⟨rfl, rfl⟩
  · simp at h
def st130_2 {ρ : Type} (s : S130_2) (next : S130_2 → Option ρ) (out : S130_2 × Bool → Option ρ) : Option ρ := (match (decide (s.i < s.n)) with | true => (match (inB s.i s.xs.length) with | true => (match (!(timed (atD .int s.xs s.i))) with | true => out (⟨s.xs, s.i, s.n, s.i⟩, true) | false => next ⟨s.xs, s.r, s.n, (wr (s.i + 1))⟩) | false => none) | false => out (s, false))
def out130_2 (k : Ex → List PV → Heap → Option R) (o : S130_2 × Bool) : Option R := match o.2 with
  | true => k .ret o.1.enc o.1.encH
  | false => k (.exit 0) o.1.enc o.1.encH
def fuel130_2 (s : S130_2) : Nat := s.xs.length + 1
def K130 : Keep := fun _ => ([0, 1, 4, 7, 8], [])
def L130 : Lam := loopL dec130_2 st130_2 fuel130_2 out130_2
noncomputable def b130_2 : Code := (loopsOf (bodyOf Tryd.f130)).getD 0 .skip
theorem step130_2 (gl : Gl) (j : Nat) (s : S130_2) (k : Ex → List PV → Heap → Option R) : unroll (cx gl (mkG [(111, F111)]) [] []) K130 L130 Tryd.f130.ntmps (Tryd.f130.ntmps + 16) b130_2 (j + 1) s.enc s.encH k = st130_2 s (fun s' => unroll (cx gl (mkG [(111, F111)]) [] []) K130 L130 Tryd.f130.ntmps (Tryd.f130.ntmps + 16) b130_2 j s'.enc s'.encH k) (out130_2 k) := by kernel_rfl
theorem l130 (gl : Gl) : LoopsOk (cx gl (mkG [(111, F111)]) [] []) K130 L130 Tryd.f130.ntmps (Tryd.f130.ntmps + 16) (loopsOf (bodyOf Tryd.f130)) := by
  refine loopsOk_list (l := [b130_2]) (by kernel_rfl) ?_
  exact List.forall_mem_cons.2 ⟨loopOk1 (fuel := fuel130_2) (enc := S130_2.enc) (encH := S130_2.encH) (fun vs hs k => by kernel_rfl) dec_enc130_2 (step130_2 gl ), (fun _ h => by simp at h)⟩
theorem fn130 : FnOk 130 Tryd.f130 := ⟨by kernel_rfl, by kernel_rfl, by kernel_rfl, by kernel_rfl⟩
theorem e130 (gl : Gl) (xs : List Int) : evFn (cx gl (mkG [(111, F111)]) [] []) K130 L130 Tryd.f130 [.sl .int xs, .fn (.func 111) [] [.ptr [.fn (.func 52) [] []] 0]] noObjs = (iter st130_2 (fuel130_2 (⟨xs, 0, (xs.length : Int), 0⟩ : S130_2)) (⟨xs, 0, (xs.length : Int), 0⟩ : S130_2) fun o2 => (match o2.2 with | true => an (.i .i64 o2.1.r) | false => an (.i .i64 (-1)))) := by kernel_rfl
def F130 : List PV → Option (Bool × PV)
  | [.sl .int xs, .fn (.func 111) [] [.ptr [.fn (.func 52) [] []] 0]] => some ((decide (xs.length ≤ 1000000)), .i .i64 (idxI (fun x => !(timed x)) xs))
  | _ => none
theorem s130 {gl : Gl} : Sum gl 130 F130 := by
  intro ps r h
  unfold F130 at h
  split at h
  · rename_i xs
    obtain ⟨hc, rfl⟩ := Prod.mk.inj (Option.some.inj h)
    refine call_by (K := K130) (L := L130) (bxs := []) (ows := []) (GOk.cons s111 (GOk.nil)) fn130 (l130 gl) (by kernel_rfl) (evF_some ((e130 gl xs).trans ?_))
    have hx := of_decide_eq_true hc
    refine (iter_all (step := st130_2) (F := fun k => ⟨xs, 0, xs.length, (k : Int)⟩) (stop := fun k => bif !(timed (atN .int xs k)) then some (⟨xs, (k : Int), xs.length, (k : Int)⟩, true) else none) (last := (⟨xs, 0, xs.length, (xs.length : Int)⟩, false)) xs.length _ (fun k next hk => ?_) (fun next => ?_) _ (Nat.le_refl _) _ rfl).trans ?_
    · simp only [st130_2, decLt_nat hk, inB_nat hk, wr_succ (show k ≤ 1000000 by omega), atD, Int.toNat_natCast]
      generalize (!(timed (atN .int xs k))) = b_
      cases b_ <;> rfl
    · simp only [st130_2, decLt_self]
    · rw [runTo_find (fun x => !(timed x)) (fun k => (⟨xs, (k : Int), xs.length, (k : Int)⟩, true)) _ _ xs (fun k hk => by rw [atN_nat hk]) xs.length 0 (by omega), List.drop_zero]
      unfold idxI
      cases xs.findIdx? (fun x => !(timed x)) with
      | none => rfl
      | some k => simp only [Nat.zero_add]; rfl
  · simp at h
theorem fn110 : FnOk 110 Tryd.f110 := ⟨by kernel_rfl, by kernel_rfl, by kernel_rfl, by kernel_rfl⟩
theorem e110 (gl : Gl) (xs : List Int) : evFn (cx gl (mkG [(130, F130)]) [] []) noK noL Tryd.f110 [.sl .int xs, .fn (.func 111) [] [.ptr [.fn (.func 52) [] []] 0]] noObjs = (match (decide (xs.length ≤ 1000000)) with | true => an (.b (decide ((idxI (fun x => !(timed x)) xs) ≥ 0))) | false => none) := by kernel_rfl
def F110 : List PV → Option (Bool × PV)
  | [.sl .int xs, .fn (.func 111) [] [.ptr [.fn (.func 52) [] []] 0]] => some ((decide (xs.length ≤ 1000000)), .b (List.any xs (fun x => !(timed x))))
  | _ => none
theorem s110 {gl : Gl} : Sum gl 110 F110 := by
  intro ps r h
  unfold F110 at h
  split at h
  · rename_i xs
    obtain ⟨hc, rfl⟩ := Prod.mk.inj (Option.some.inj h)
    refine call_by (K := noK) (L := noL) (bxs := []) (ows := []) (GOk.cons s130 (GOk.nil)) fn110 (noLoops (by kernel_rfl)) (by kernel_rfl) (evF_some ((e110 gl xs).trans ?_))
    have hx := of_decide_eq_true hc
    rw [decide_eq_true hx]
    show an (.b (decide (idxI _ xs ≥ 0))) = _
    rw [idxI_any]
    rfl
  · simp at h
theorem fn81 : FnOk 81 Tryd.f81 := ⟨by kernel_rfl, by kernel_rfl, by kernel_rfl, by kernel_rfl⟩
theorem e81 (gl : Gl) (xs : List Int) : evFn (cx gl (mkG [(110, F110)]) [] []) noK noL Tryd.f81 [.sl .int xs, .fn (.func 52) [] []] noObjs = (match (decide (xs.length ≤ 1000000)) with | true => an (.b (!(List.any xs (fun x => !(timed x))))) | false => none) := by kernel_rfl
def F81 : List PV → Option (Bool × PV)
  | [.sl .int xs, .fn (.func 52) [] []] => some ((decide (xs.length ≤ 1000000)), .b (List.all xs (timed)))
  | _ => none
theorem s81 {gl : Gl} : Sum gl 81 F81 := by
  intro ps r h
  unfold F81 at h
  split at h
  · rename_i xs
    obtain ⟨hc, rfl⟩ := Prod.mk.inj (Option.some.inj h)
    refine call_by (K := noK) (L := noL) (bxs := []) (ows := []) (GOk.cons s110 (GOk.nil)) fn81 (noLoops (by kernel_rfl)) (by kernel_rfl) (evF_some ((e81 gl xs).trans ?_))
    have hx := of_decide_eq_true hc
    rw [decide_eq_true hx]
    show an (.b (!(xs.any fun x => !((timed) x)))) = _
    rw [all_not_any]
    rfl
  · simp at h
structure S131_2 where
  xs : List Int
  v : Int
  r : Int
  n : Int
  i : Int
def S131_2.enc (s : S131_2) : List PV := [.sl .int s.xs, .i .i64 s.v, .i .i64 s.r, .i .i64 s.n, .i .i64 s.i]
def S131_2.encH (s : S131_2) : Heap := []
def dec131_2 : List PV → Heap → Option S131_2
  | [.sl .int xs_, .i .i64 v_, .i .i64 r_, .i .i64 n_, .i .i64 i_], [] => some ⟨xs_, v_, r_, n_, i_⟩
  | _, _ => none
theorem dec_enc131_2 (vs : List PV) (hs : Heap) (s : S131_2) (h : dec131_2 vs hs = some s) : vs = s.enc ∧ hs = s.encH := by
  unfold dec131_2 at h
  split at h
  · obtain rfl := Option.some.inj h
    exact ⟨rfl, rfl⟩
  · simp at h
def st131_2 {ρ : Type} (s : S131_2) (next : S131_2 → Option ρ) (out : S131_2 × Bool → Option ρ) : Option ρ := (match (decide (s.i < s.n)) with | true => (match (inB s.i s.xs.length) with | true => (match (s.v == (atD .int s.xs s.i)) with | true => out (⟨s.xs, s.v, s.i, s.n, s.i⟩, true) | false => next ⟨s.xs, s.v, s.r, s.n, (wr (s.i + 1))⟩) | false => none) | false => out (s, false))
def out131_2 (k : Ex → List PV → Heap → Option R) (o : S131_2 × Bool) : Option R := match o.2 with
  | true => k .ret o.1.enc o.1.encH
  | false => k (.exit 0) o.1.enc o.1.encH
def fuel131_2 (s : S131_2) : Nat := s.xs.length + 1
def K131 : Keep := fun _ => ([0, 1, 4, 7, 8], [])
def L131 : Lam := loopL dec131_2 st131_2 fuel131_2 out131_2
noncomputable def b131_2 : Code := (loopsOf (bodyOf Tryd.f131)).getD 0 .skip
theorem step131_2 (gl : Gl) (j : Nat) (s : S131_2) (k : Ex → List PV → Heap → Option R) : unroll (cx gl (mkG []) [] []) K131 L131 Tryd.f131.ntmps (Tryd.f131.ntmps + 16) b131_2 (j + 1) s.enc s.encH k = st131_2 s (fun s' => unroll (cx gl (mkG []) [] []) K131 L131 Tryd.f131.ntmps (Tryd.f131.ntmps + 16) b131_2 j s'.enc s'.encH k) (out131_2 k) := by kernel_rfl
theorem l131 (gl : Gl) : LoopsOk (cx gl (mkG []) [] []) K131 L131 Tryd.f131.ntmps (Tryd.f131.ntmps + 16) (loopsOf (bodyOf Tryd.f131)) := by
  refine loopsOk_list (l := [b131_2]) (by kernel_rfl) ?_
  exact List.forall_mem_cons.2 ⟨loopOk1 (fuel := fuel131_2) (enc := S131_2.enc) (encH := S131_2.encH) (fun vs hs k => by kernel_rfl) dec_enc131_2 (step131_2 gl ), (fun _ h => by simp at h)⟩
theorem fn131 : FnOk 131 Tryd.f131 := ⟨by kernel_rfl, by kernel_rfl, by kernel_rfl, by kernel_rfl⟩
theorem e131 (gl : Gl) (xs : List Int) (v : Int) : evFn (cx gl (mkG []) [] []) K131 L131 Tryd.f131 [.sl .int xs, .i .i64 v] noObjs = (iter st131_2 (fuel131_2 (⟨xs, v, 0, (xs.length : Int), 0⟩ : S131_2)) (⟨xs, v, 0, (xs.length : Int), 0⟩ : S131_2) fun o2 => (match o2.2 with | true => an (.i .i64 o2.1.r) | false => an (.i .i64 (-1)))) := by kernel_rfl
def F131 : List PV → Option (Bool × PV)
  | [.sl .int xs, .i .i64 v] => some ((decide (xs.length ≤ 1000000)), .i .i64 (idxI (fun x => v == x) xs))
  | _ => none
theorem s131 {gl : Gl} : Sum gl 131 F131 := by
  intro ps r h
  unfold F131 at h
  split at h
  · rename_i xs v
    obtain ⟨hc, rfl⟩ := Prod.mk.inj (Option.some.inj h)
    refine call_by (K := K131) (L := L131) (bxs := []) (ows := []) (GOk.nil) fn131 (l131 gl) (by kernel_rfl) (evF_some ((e131 gl xs v).trans ?_))
    have hx := of_decide_eq_true hc
    refine (iter_all (step := st131_2) (F := fun k => (⟨xs, v, 0, (xs.length : Int), (k : Int)⟩ : S131_2)) (stop := fun k => bif v == (atN .int xs k) then some ((⟨xs, v, (k : Int), (xs.length : Int), (k : Int)⟩ : S131_2), true) else none) (last := ((⟨xs, v, 0, (xs.length : Int), (xs.length : Int)⟩ : S131_2), false)) xs.length _ (fun k next hk => ?_) (fun next => ?_) _ (Nat.le_refl _) _ rfl).trans ?_
    · simp only [st131_2, decLt_nat hk, inB_nat hk, wr_succ (show k ≤ 1000000 by omega), atD, Int.toNat_natCast]
      generalize (v == (atN .int xs k)) = b_
      cases b_ <;> rfl
    · simp only [st131_2, decLt_self]
    · rw [runTo_find (fun x : Int => v == x) (fun k => ((⟨xs, v, (k : Int), (xs.length : Int), (k : Int)⟩ : S131_2), true)) _ _ xs (fun k hk => by rw [atN_nat (T := .int) hk]) xs.length 0 (by omega), List.drop_zero]
      unfold idxI
      cases xs.findIdx? (fun x : Int => v == x) with
      | none => rfl
      | some k => simp only [Nat.zero_add]; rfl
  · simp at h
theorem fn113 : FnOk 113 Tryd.f113 := ⟨by kernel_rfl, by kernel_rfl, by kernel_rfl, by kernel_rfl⟩
theorem e113 (gl : Gl) (xs : List Int) (v : Int) : evFn (cx gl (mkG [(131, F131)]) [] []) noK noL Tryd.f113 [.sl .int xs, .i .i64 v] noObjs = (match (decide (xs.length ≤ 1000000)) with | true => an (.b (decide ((idxI (fun x => v == x) xs) ≥ 0))) | false => none) := by kernel_rfl
def F113 : List PV → Option (Bool × PV)
  | [.sl .int xs, .i .i64 v] => some ((decide (xs.length ≤ 1000000)), .b (List.any xs (fun x => v == x)))
  | _ => none
theorem s113 {gl : Gl} : Sum gl 113 F113 := by
  intro ps r h
  unfold F113 at h
  split at h
  · rename_i xs v
    obtain ⟨hc, rfl⟩ := Prod.mk.inj (Option.some.inj h)
    refine call_by (K := noK) (L := noL) (bxs := []) (ows := []) (GOk.cons s131 (GOk.nil)) fn113 (noLoops (by kernel_rfl)) (by kernel_rfl) (evF_some ((e113 gl xs v).trans ?_))
    have hx := of_decide_eq_true hc
    rw [decide_eq_true hx]
    show an (.b (decide (idxI _ xs ≥ 0))) = _
    rw [idxI_any]
    rfl
  · simp at h
structure S116_2 where
  l : List Int
  n : Int
  t4 : Bool
  i : Int
def S116_2.enc (s : S116_2) : List PV := [.sl .int s.l, .i .i64 s.n, .b s.t4, .i .i64 s.i]
def S116_2.encH (s : S116_2) : Heap := []
def dec116_2 : List PV → Heap → Option S116_2
  | [.sl .int l_, .i .i64 n_, .b t4_, .i .i64 i_], [] => some ⟨l_, n_, t4_, i_⟩
  | _, _ => none
theorem dec_enc116_2 (vs : List PV) (hs : Heap) (s : S116_2) (h : dec116_2 vs hs = some s) : vs = s.enc ∧ hs = s.encH := by
  unfold dec116_2 at h
  split at h
  · obtain rfl := Option.some.inj h
    exact ⟨rfl, rfl⟩
  · simp at h
def st116_2 {ρ : Type} (s : S116_2) (next : S116_2 → Option ρ) (out : S116_2 × Bool → Option ρ) : Option ρ := (match (decide (s.i < (s.l.length : Int))) with | true => (match (inB s.i s.l.length) with | true => (match ((atD .int s.l s.i) == s.n) with | true => out (⟨s.l, s.n, true, s.i⟩, true) | false => next ⟨s.l, s.n, s.t4, (wr (s.i + 1))⟩) | false => none) | false => out (s, false))
def out116_2 (k : Ex → List PV → Heap → Option R) (o : S116_2 × Bool) : Option R := match o.2 with
  | true => k .ret o.1.enc o.1.encH
  | false => k (.exit 0) o.1.enc o.1.encH
def fuel116_2 (s : S116_2) : Nat := s.l.length + 1
def K116 : Keep := fun _ => ([0, 1, 4, 5], [])
def L116 : Lam := loopL dec116_2 st116_2 fuel116_2 out116_2
noncomputable def b116_2 : Code := (loopsOf (bodyOf Tryd.f116)).getD 0 .skip
theorem step116_2 (gl : Gl) (j : Nat) (s : S116_2) (k : Ex → List PV → Heap → Option R) : unroll (cx gl (mkG []) [] []) K116 L116 Tryd.f116.ntmps (Tryd.f116.ntmps + 16) b116_2 (j + 1) s.enc s.encH k = st116_2 s (fun s' => unroll (cx gl (mkG []) [] []) K116 L116 Tryd.f116.ntmps (Tryd.f116.ntmps + 16) b116_2 j s'.enc s'.encH k) (out116_2 k) := by kernel_rfl
theorem l116 (gl : Gl) : LoopsOk (cx gl (mkG []) [] []) K116 L116 Tryd.f116.ntmps (Tryd.f116.ntmps + 16) (loopsOf (bodyOf Tryd.f116)) := by
  refine loopsOk_list (l := [b116_2]) (by kernel_rfl) ?_
  exact List.forall_mem_cons.2 ⟨loopOk1 (fuel := fuel116_2) (enc := S116_2.enc) (encH := S116_2.encH) (fun vs hs k => by kernel_rfl) dec_enc116_2 (step116_2 gl ), (fun _ h => by simp at h)⟩
theorem loop116 (xs : List Int) (v : Int) (hx : xs.length ≤ 1000000) : (iter st116_2 (fuel116_2 (⟨xs, v, false, 0⟩ : S116_2)) (⟨xs, v, false, 0⟩ : S116_2) fun o2 => (match o2.2 with | true => an (.b o2.1.t4) | false => an (.b false))) = an (.b (List.any xs (fun x => v == x))) := by
  refine (iter_all (step := st116_2) (F := fun k => (⟨xs, v, false, (k : Int)⟩ : S116_2)) (stop := fun k => bif v == (atN .int xs k) then some ((⟨xs, v, true, (k : Int)⟩ : S116_2), true) else none) (last := ((⟨xs, v, false, (xs.length : Int)⟩ : S116_2), false)) xs.length _ (fun k next hk => ?_) (fun next => ?_) _ (Nat.le_refl _) _ rfl).trans ?_
  · have hs : ((atN .int xs k) == v) = (v == (atN .int xs k)) := by rw [Bool.eq_iff_iff, beq_iff_eq, beq_iff_eq]; exact eq_comm
    simp only [st116_2, decLt_nat hk, inB_nat hk, wr_succ (show k ≤ 1000000 by omega), atD, Int.toNat_natCast, hs]
    generalize (v == (atN .int xs k)) = b_
    cases b_ <;> rfl
  · simp only [st116_2, decLt_self]
  · rw [runTo_find (fun x : Int => v == x) (fun k => ((⟨xs, v, true, (k : Int)⟩ : S116_2), true)) _ _ xs (fun k hk => by rw [atN_nat (T := .int) hk]) xs.length 0 (by omega), List.drop_zero]
    have hf := find_any (fun x : Int => v == x) xs true false
    cases h : xs.findIdx? (fun x : Int => v == x) with
    | none => rw [h] at hf; cases ha : xs.any (fun x => v == x) <;> rw [ha] at hf <;> first | rfl | (simp at hf)
    | some k => rw [h] at hf; cases ha : xs.any (fun x => v == x) <;> rw [ha] at hf <;> first | rfl | (simp at hf)
theorem fn116 : FnOk 116 Tryd.f116 := ⟨by kernel_rfl, by kernel_rfl, by kernel_rfl, by kernel_rfl⟩
theorem e116 (gl : Gl) (xs : List Int) (v : Int) : evFn (cx gl (mkG []) [] []) K116 L116 Tryd.f116 [.sl .int xs, .i .i64 v] noObjs = (iter st116_2 (fuel116_2 (⟨xs, v, false, 0⟩ : S116_2)) (⟨xs, v, false, 0⟩ : S116_2) fun o2 => (match o2.2 with | true => an (.b o2.1.t4) | false => an (.b false))) := by kernel_rfl
def F116 : List PV → Option (Bool × PV)
  | [.sl .int xs, .i .i64 v] => some ((decide (xs.length ≤ 1000000)), .b (List.any xs (fun x => v == x)))
  | _ => none
theorem s116 {gl : Gl} : Sum gl 116 F116 := by
  intro ps r h
  unfold F116 at h
  split at h
  · rename_i xs v
    obtain ⟨hc, rfl⟩ := Prod.mk.inj (Option.some.inj h)
    refine call_by (K := K116) (L := L116) (bxs := []) (ows := []) (GOk.nil) fn116 (l116 gl) (by kernel_rfl) (evF_some ((e116 gl xs v).trans ?_))
    exact loop116 xs v (of_decide_eq_true hc)
  · simp at h
structure S44_4 where
  a : List Int
  b : List Int
  t4 : Bool
  i : Int
def S44_4.enc (s : S44_4) : List PV := [.sl .int s.a, .sl .int s.b, .b s.t4, .i .i64 s.i]
def S44_4.encH (s : S44_4) : Heap := []
def dec44_4 : List PV → Heap → Option S44_4
  | [.sl .int a_, .sl .int b_, .b t4_, .i .i64 i_], [] => some ⟨a_, b_, t4_, i_⟩
  | _, _ => none
theorem dec_enc44_4 (vs : List PV) (hs : Heap) (s : S44_4) (h : dec44_4 vs hs = some s) : vs = s.enc ∧ hs = s.encH := by
  unfold dec44_4 at h
  split at h
  · obtain rfl := Option.some.inj h
    exact ⟨rfl, rfl⟩
  · simp at h
def st44_4 {ρ : Type} (s : S44_4) (next : S44_4 → Option ρ) (out : S44_4 × Bool → Option ρ) : Option ρ := (match (decide (s.i < (s.a.length : Int))) with | true => (match (inB s.i s.a.length) with | true => (match (inB s.i s.b.length) with | true => (match ((atD .int s.a s.i) != (atD .int s.b s.i)) with | true => out (⟨s.a, s.b, false, s.i⟩, true) | false => next ⟨s.a, s.b, s.t4, (wr (s.i + 1))⟩) | false => none) | false => none) | false => out (s, false))
def out44_4 (k : Ex → List PV → Heap → Option R) (o : S44_4 × Bool) : Option R := match o.2 with
  | true => k .ret o.1.enc o.1.encH
  | false => k (.exit 0) o.1.enc o.1.encH
def fuel44_4 (s : S44_4) : Nat := s.a.length + 1
def K44 : Keep := fun _ => ([0, 1, 4, 5], [])
def L44 : Lam := loopL dec44_4 st44_4 fuel44_4 out44_4
noncomputable def b44_4 : Code := (loopsOf (bodyOf Tryd.f44)).getD 0 .skip
theorem step44_4 (gl : Gl) (j : Nat) (s : S44_4) (k : Ex → List PV → Heap → Option R) : unroll (cx gl (mkG []) [] []) K44 L44 Tryd.f44.ntmps (Tryd.f44.ntmps + 16) b44_4 (j + 1) s.enc s.encH k = st44_4 s (fun s' => unroll (cx gl (mkG []) [] []) K44 L44 Tryd.f44.ntmps (Tryd.f44.ntmps + 16) b44_4 j s'.enc s'.encH k) (out44_4 k) := by kernel_rfl
theorem l44 (gl : Gl) : LoopsOk (cx gl (mkG []) [] []) K44 L44 Tryd.f44.ntmps (Tryd.f44.ntmps + 16) (loopsOf (bodyOf Tryd.f44)) := by
  refine loopsOk_list (l := [b44_4]) (by kernel_rfl) ?_
  exact List.forall_mem_cons.2 ⟨loopOk1 (fuel := fuel44_4) (enc := S44_4.enc) (encH := S44_4.encH) (fun vs hs k => by kernel_rfl) dec_enc44_4 (step44_4 gl ), (fun _ h => by simp at h)⟩
def eqI (x y : Int) : Bool := x == y
theorem eqI_iff (x y : Int) : eqI x y = true ↔ x = y := beq_iff_eq
theorem loop44 (a b : List Int) (hx : a.length ≤ 1000000) (hl : a.length = b.length) : (iter st44_4 (fuel44_4 (⟨a, b, false, 0⟩ : S44_4)) (⟨a, b, false, 0⟩ : S44_4) fun o4 => (match o4.2 with | true => an (.b o4.1.t4) | false => an (.b true))) = an (.b ((a.zip b).all fun x => eqI x.1 x.2)) := by
  have hz : (a.zip b).length = a.length := by rw [List.length_zip]; omega
  refine (iter_all (step := st44_4) (F := fun k => (⟨a, b, false, (k : Int)⟩ : S44_4)) (stop := fun k => bif !(eqI (atN .int a k) (atN .int b k)) then some ((⟨a, b, false, (k : Int)⟩ : S44_4), true) else none) (last := ((⟨a, b, false, (a.length : Int)⟩ : S44_4), false)) a.length _ (fun k next hk => ?_) (fun next => ?_) _ (Nat.le_refl _) _ rfl).trans ?_
  · simp only [st44_4, decLt_nat hk, inB_nat hk, inB_nat (hl ▸ hk), wr_succ (show k ≤ 1000000 by omega), atD, Int.toNat_natCast]
    show (match !(eqI (atN .int a k) (atN .int b k)) with | true => _ | false => _) = _
    generalize (!(eqI (atN .int a k) (atN .int b k))) = b_
    cases b_ <;> rfl
  · simp only [st44_4, decLt_self]
  · rw [← hz, runTo_find (fun x : Int × Int => !(eqI x.1 x.2)) (fun k => ((⟨a, b, false, (k : Int)⟩ : S44_4), true)) _ _ (a.zip b) (fun k hk => by
        have h1 : k < a.length := by omega
        have h2 : k < b.length := by omega
        rw [atN_nat (T := .int) h1, atN_nat (T := .int) h2, List.getElem_zip]) (a.zip b).length 0 (by omega), List.drop_zero, ← all_not_any]
    have hf := find_any (fun x : Int × Int => !(eqI x.1 x.2)) (a.zip b) false true
    cases h : (a.zip b).findIdx? (fun x => !(eqI x.1 x.2)) with
    | none => rw [h] at hf; cases ha : (a.zip b).any (fun x => !(eqI x.1 x.2)) <;> rw [ha] at hf <;> first | rfl | (simp at hf)
    | some k => rw [h] at hf; cases ha : (a.zip b).any (fun x => !(eqI x.1 x.2)) <;> rw [ha] at hf <;> first | rfl | (simp at hf)
theorem fn44 : FnOk 44 Tryd.f44 := ⟨by kernel_rfl, by kernel_rfl, by kernel_rfl, by kernel_rfl⟩
theorem e44 (gl : Gl) (a : List Int) (b : List Int) : evFn (cx gl (mkG []) [] []) K44 L44 Tryd.f44 [.sl .int a, .sl .int b] noObjs = (match ((a.length : Int) != (b.length : Int)) with | true => an (.b false) | false => (iter st44_4 (fuel44_4 (⟨a, b, false, 0⟩ : S44_4)) (⟨a, b, false, 0⟩ : S44_4) fun o4 => (match o4.2 with | true => an (.b o4.1.t4) | false => an (.b true)))) := by kernel_rfl
def F44 : List PV → Option (Bool × PV)
  | [.sl .int a, .sl .int b] => some ((decide (a.length ≤ 1000000)), .b (sameS eqI a b))
  | _ => none
theorem s44 {gl : Gl} : Sum gl 44 F44 := by
  intro ps r h
  unfold F44 at h
  split at h
  · rename_i a b
    obtain ⟨hc, rfl⟩ := Prod.mk.inj (Option.some.inj h)
    refine call_by (K := K44) (L := L44) (bxs := []) (ows := []) (GOk.nil) fn44 (l44 gl) (by kernel_rfl) (evF_some ((e44 gl a b).trans ?_))
    unfold sameS
    cases hl : ((a.length : Int) != (b.length : Int)) with
    | true => rfl
    | false => exact loop44 a b (of_decide_eq_true hc) (by simp at hl; omega)
  · simp at h
structure S41_4 where
  x : List Unit'
  x2 : List Int
  x3 : List Spot
  t2 : Bool
  i : Int
def S41_4.enc (s : S41_4) : List PV := [.ptr [.sl .unit s.x, .sl .int s.x2, .sl .spot s.x3] 0, .b s.t2, .i .i64 s.i]
def S41_4.encH (s : S41_4) : Heap := []
def dec41_4 : List PV → Heap → Option S41_4
  | [.ptr [.sl .unit x_, .sl .int x2_, .sl .spot x3_] 0, .b t2_, .i .i64 i_], [] => some ⟨x_, x2_, x3_, t2_, i_⟩
  | _, _ => none
theorem dec_enc41_4 (vs : List PV) (hs : Heap) (s : S41_4) (h : dec41_4 vs hs = some s) : vs = s.enc ∧ hs = s.encH := by
  unfold dec41_4 at h
  split at h
  · obtain rfl := Option.some.inj h
    exact ⟨rfl, rfl⟩
  · simp at h
def st41_4 {ρ : Type} (s : S41_4) (next : S41_4 → Option ρ) (out : S41_4 × Bool → Option ρ) : Option ρ := (match (decide (s.i < (s.x.length : Int))) with | true => (match (inB s.i s.x.length) with | true => (match (greatS (atD .unit s.x s.i)) with | true => out (⟨s.x, s.x2, s.x3, true, s.i⟩, true) | false => next ⟨s.x, s.x2, s.x3, s.t2, (wr (s.i + 1))⟩) | false => none) | false => out (s, false))
def out41_4 (k : Ex → List PV → Heap → Option R) (o : S41_4 × Bool) : Option R := match o.2 with
  | true => k .ret o.1.enc o.1.encH
  | false => k (.exit 0) o.1.enc o.1.encH
def fuel41_4 (s : S41_4) : Nat := s.x.length + 1
def K41 : Keep := fun _ => ([1, 2, 3], [])
def L41 : Lam := loopL dec41_4 st41_4 fuel41_4 out41_4
noncomputable def b41_4 : Code := (loopsOf (bodyOf Tryd.f41)).getD 0 .skip
theorem step41_4 (gl : Gl) (j : Nat) (s : S41_4) (k : Ex → List PV → Heap → Option R) : unroll (cx gl (mkG [(15, F15)]) [] []) K41 L41 Tryd.f41.ntmps (Tryd.f41.ntmps + 16) b41_4 (j + 1) s.enc s.encH k = st41_4 s (fun s' => unroll (cx gl (mkG [(15, F15)]) [] []) K41 L41 Tryd.f41.ntmps (Tryd.f41.ntmps + 16) b41_4 j s'.enc s'.encH k) (out41_4 k) := by kernel_rfl
theorem l41 (gl : Gl) : LoopsOk (cx gl (mkG [(15, F15)]) [] []) K41 L41 Tryd.f41.ntmps (Tryd.f41.ntmps + 16) (loopsOf (bodyOf Tryd.f41)) := by
  refine loopsOk_list (l := [b41_4]) (by kernel_rfl) ?_
  exact List.forall_mem_cons.2 ⟨loopOk1 (fuel := fuel41_4) (enc := S41_4.enc) (encH := S41_4.encH) (fun vs hs k => by kernel_rfl) dec_enc41_4 (step41_4 gl ), (fun _ h => by simp at h)⟩
theorem loop41 (l : List Unit') (starts : List Int) (goals : List Spot) (hx : l.length ≤ 1000000)  : (iter st41_4 (fuel41_4 (⟨l, starts, goals, false, 0⟩ : S41_4)) (⟨l, starts, goals, false, 0⟩ : S41_4) fun o4 => (match o4.2 with | true => an (.b o4.1.t2) | false => an (.b false))) = bif List.any l (fun x => greatS x) then an (.b true) else an (.b false) := by
  refine (iter_all (step := st41_4) (F := fun k => (⟨l, starts, goals, false, (k : Int)⟩ : S41_4)) (stop := fun k => bif greatS (atN .unit l k) then some ((⟨l, starts, goals, true, (k : Int)⟩ : S41_4), true) else none) (last := ((⟨l, starts, goals, false, (l.length : Int)⟩ : S41_4), false)) l.length _ (fun k next hk => ?_) (fun next => ?_) _ (Nat.le_refl _) _ rfl).trans ?_
  · simp only [st41_4, decLt_nat hk, inB_nat hk, wr_succ (show k ≤ 1000000 by omega), atD, Int.toNat_natCast, Bool.true_or]
    show (match (greatS (atN .unit l k)) with | true => _ | false => _) = _
    generalize (greatS (atN .unit l k)) = b_
    cases b_ <;> rfl
  · simp only [st41_4, decLt_self]
  · rw [runTo_find (fun x => greatS x) (fun k => ((⟨l, starts, goals, true, (k : Int)⟩ : S41_4), true)) _ _ l (fun k hk => by rw [atN_nat hk]) l.length 0 (by omega), List.drop_zero, ← find_any (fun x => greatS x) l]
    cases List.findIdx? (fun x => greatS x) l with
    | none => rfl
    | some k => rfl
def vastS (l : List Unit') (starts : List Int) (goals : List Spot) : Bool := bif (bif (bif (decide ((l.length : Int) > 8)) then true else (decide ((starts.length : Int) > 8))) then true else (decide ((goals.length : Int) > 8))) then true else List.any l (fun x => greatS x)
theorem vast_no {l : List Unit'} {starts : List Int} {goals : List Spot} (h : vastS l starts goals = false) : l.length ≤ 8 ∧ starts.length ≤ 8 ∧ goals.length ≤ 8 := by
  obtain ⟨h1, _⟩ := bif_no h
  obtain ⟨h2, h3⟩ := bif_no h1
  obtain ⟨h4, h5⟩ := bif_no h2
  exact ⟨lenI (m := 8) h4, lenI (m := 8) h5, lenI (m := 8) h3⟩
theorem fn41 : FnOk 41 Tryd.f41 := ⟨by kernel_rfl, by kernel_rfl, by kernel_rfl, by kernel_rfl⟩
theorem e41 (gl : Gl) (l : List Unit') (starts : List Int) (goals : List Spot) : evFn (cx gl (mkG [(15, F15)]) [] []) K41 L41 Tryd.f41 [.agg [.sl .unit l, .sl .int starts, .sl .spot goals]] noObjs = (match (bif (bif (decide ((l.length : Int) > 8)) then true else (decide ((starts.length : Int) > 8))) then true else (decide ((goals.length : Int) > 8))) with | true => an (.b true) | false => (iter st41_4 (fuel41_4 (⟨l, starts, goals, false, 0⟩ : S41_4)) (⟨l, starts, goals, false, 0⟩ : S41_4) fun o4 => (match o4.2 with | true => an (.b o4.1.t2) | false => an (.b false)))) := by kernel_rfl
def F41 : List PV → Option (Bool × PV)
  | [.agg [.sl .unit l, .sl .int starts, .sl .spot goals]] => some (true, .b (vastS l starts goals))
  | _ => none
theorem s41 {gl : Gl} : Sum gl 41 F41 := by
  intro ps r h
  unfold F41 at h
  split at h
  · rename_i l starts goals
    obtain ⟨hc, rfl⟩ := Prod.mk.inj (Option.some.inj h)
    refine call_by (K := K41) (L := L41) (bxs := []) (ows := []) (GOk.cons s15 (GOk.nil)) fn41 (l41 gl) (by kernel_rfl) (evF_some ((e41 gl l starts goals).trans ?_))
    unfold vastS
    cases hg : (bif (bif (decide ((l.length : Int) > 8)) then true else (decide ((starts.length : Int) > 8))) then true else (decide ((goals.length : Int) > 8))) with
    | true => rfl
    | false =>
      obtain ⟨h2, h3⟩ := bif_no hg
      obtain ⟨h4, h5⟩ := bif_no h2
      have h6 := lenI (m := 8) h4
      refine (loop41 l starts goals (by omega)).trans ?_
      show _ = an (.b (List.any l (fun x => greatS x)))
      cases List.any l (fun x => greatS x) <;> rfl
  · simp at h
structure S115_6 where
  c : Int
  c2 : Int
  c3 : List Int
  c4 : Bool
  b : Int
  b2 : Int
  b3 : List Int
  b4 : Bool
  t4 : Bool
  i : Int
def S115_6.enc (s : S115_6) : List PV := [.ptr [.i .i64 s.c, .i .i64 s.c2, .sl .int s.c3, .b s.c4] 0, .ptr [.i .i64 s.b, .i .i64 s.b2, .sl .int s.b3, .b s.b4] 0, .b s.t4, .i .i64 s.i]
def S115_6.encH (s : S115_6) : Heap := []
def dec115_6 : List PV → Heap → Option S115_6
  | [.ptr [.i .i64 c_, .i .i64 c2_, .sl .int c3_, .b c4_] 0, .ptr [.i .i64 b_, .i .i64 b2_, .sl .int b3_, .b b4_] 0, .b t4_, .i .i64 i_], [] => some ⟨c_, c2_, c3_, c4_, b_, b2_, b3_, b4_, t4_, i_⟩
  | _, _ => none
theorem dec_enc115_6 (vs : List PV) (hs : Heap) (s : S115_6) (h : dec115_6 vs hs = some s) : vs = s.enc ∧ hs = s.encH := by
  unfold dec115_6 at h
  split at h
  · obtain rfl := Option.some.inj h
    exact ⟨rfl, rfl⟩
  · simp at h
def st115_6 {ρ : Type} (s : S115_6) (next : S115_6 → Option ρ) (out : S115_6 × Bool → Option ρ) : Option ρ := (match (decide (s.i < (s.c3.length : Int))) with | true => (match (inB s.i s.c3.length) with | true => (match (inB s.i s.b3.length) with | true => (match ((atD .int s.c3 s.i) != (atD .int s.b3 s.i)) with | true => (match (inB s.i s.c3.length) with | true => (match (inB s.i s.b3.length) with | true => out (⟨s.c, s.c2, s.c3, s.c4, s.b, s.b2, s.b3, s.b4, (decide ((atD .int s.c3 s.i) < (atD .int s.b3 s.i))), s.i⟩, true) | false => none) | false => none) | false => next ⟨s.c, s.c2, s.c3, s.c4, s.b, s.b2, s.b3, s.b4, s.t4, (wr (s.i + 1))⟩) | false => none) | false => none) | false => out (s, false))
def out115_6 (k : Ex → List PV → Heap → Option R) (o : S115_6 × Bool) : Option R := match o.2 with
  | true => k .ret o.1.enc o.1.encH
  | false => k (.exit 0) o.1.enc o.1.encH
def fuel115_6 (s : S115_6) : Nat := s.c3.length + 1
def K115 : Keep := fun _ => ([2, 3, 4, 5], [])
def L115 : Lam := loopL dec115_6 st115_6 fuel115_6 out115_6
noncomputable def b115_6 : Code := (loopsOf (bodyOf Tryd.f115)).getD 0 .skip
theorem step115_6 (gl : Gl) (j : Nat) (s : S115_6) (k : Ex → List PV → Heap → Option R) : unroll (cx gl (mkG []) [] []) K115 L115 Tryd.f115.ntmps (Tryd.f115.ntmps + 16) b115_6 (j + 1) s.enc s.encH k = st115_6 s (fun s' => unroll (cx gl (mkG []) [] []) K115 L115 Tryd.f115.ntmps (Tryd.f115.ntmps + 16) b115_6 j s'.enc s'.encH k) (out115_6 k) := by kernel_rfl
theorem l115 (gl : Gl) : LoopsOk (cx gl (mkG []) [] []) K115 L115 Tryd.f115.ntmps (Tryd.f115.ntmps + 16) (loopsOf (bodyOf Tryd.f115)) := by
  refine loopsOk_list (l := [b115_6]) (by kernel_rfl) ?_
  exact List.forall_mem_cons.2 ⟨loopOk1 (fuel := fuel115_6) (enc := S115_6.enc) (encH := S115_6.encH) (fun vs hs k => by kernel_rfl) dec_enc115_6 (step115_6 gl ), (fun _ h => by simp at h)⟩
/-- The order of lists of numbers of the same length. -/
def lexLt : List Int → List Int → Bool
  | x :: xs, y :: ys => bif x != y then decide (x < y) else lexLt xs ys
  | _, _ => false
def lexQ (p : Int × Int) : Option Bool := if p.1 = p.2 then none else some (decide (p.1 < p.2))
theorem lexLt_find : ∀ (xs ys : List Int), (match (xs.zip ys).findSome? lexQ with | some b => b | none => false) = lexLt xs ys
  | [], ys => by cases ys <;> rfl
  | x :: xs, [] => rfl
  | x :: xs, y :: ys => by
    rw [List.zip_cons_cons, List.findSome?_cons, lexLt, ← lexLt_find xs ys]
    unfold lexQ
    by_cases h : x = y
    · subst h
      simp
    · have : (x != y) = true := by simp [h]
      rw [this, if_neg h]
      rfl
theorem lex_step {ρ σ : Type} (x y : Int) (A : Bool → ρ) (N : ρ) (mk : Bool → σ) (out : σ → ρ) (h : ∀ b, out (mk b) = A b) : (match x != y with | true => A (decide (x < y)) | false => N) = match (lexQ (x, y)).map mk with | some o => out o | none => N := by
  unfold lexQ
  by_cases e : x = y
  · subst e
    simp
  · rw [show (x != y) = true from by simp [e]]
    simp [e, h]
def betterR (cl cs : Int) (cw : List Int) (bl bs : Int) (bw : List Int) (bf : Bool) : Bool := bif (bif (!bf) then true else (cl != bl)) then (bif (!bf) then true else (decide (cl < bl))) else bif (cs != bs) then decide (cs < bs) else lexLt cw bw
theorem loop115 (cl cs : Int) (cw : List Int) (cf : Bool) (bl bs : Int) (bw : List Int) (bf : Bool) (hx : cw.length ≤ 1000000) (hl : cw.length ≤ bw.length) : (iter st115_6 (fuel115_6 (⟨cl, cs, cw, cf, bl, bs, bw, bf, false, 0⟩ : S115_6)) (⟨cl, cs, cw, cf, bl, bs, bw, bf, false, 0⟩ : S115_6) fun o6 => (match o6.2 with | true => an (.b o6.1.t4) | false => an (.b false))) = an (.b (lexLt cw bw)) := by
  have hz : (cw.zip bw).length = cw.length := by rw [List.length_zip]; omega
  refine (iter_all (step := st115_6) (F := fun k => (⟨cl, cs, cw, cf, bl, bs, bw, bf, false, (k : Int)⟩ : S115_6)) (stop := fun k => (lexQ (atN .int cw k, atN .int bw k)).map fun b => ((⟨cl, cs, cw, cf, bl, bs, bw, bf, b, (k : Int)⟩ : S115_6), true)) (last := ((⟨cl, cs, cw, cf, bl, bs, bw, bf, false, (cw.length : Int)⟩ : S115_6), false)) cw.length _ (fun k next hk => ?_) (fun next => ?_) _ (Nat.le_refl _) _ rfl).trans ?_
  · simp only [st115_6, decLt_nat hk, inB_nat hk, inB_nat (show k < bw.length by omega), wr_succ (show k ≤ 1000000 by omega), atD, Int.toNat_natCast]
    exact lex_step (atN .int cw k) (atN .int bw k) (fun b => an (.b b)) _ (fun b => ((⟨cl, cs, cw, cf, bl, bs, bw, bf, b, (k : Int)⟩ : S115_6), true)) (fun o6 : S115_6 × Bool => (match o6.2 with | true => an (.b o6.1.t4) | false => an (.b false))) fun b => rfl
  · simp only [st115_6, decLt_self]
  · rw [← hz, runTo_some lexQ (fun k b => ((⟨cl, cs, cw, cf, bl, bs, bw, bf, b, (k : Int)⟩ : S115_6), true)) (fun o6 : S115_6 × Bool => (match o6.2 with | true => an (.b o6.1.t4) | false => an (.b false))) (fun b => an (.b b)) (fun k b => rfl) (cw.zip bw) (fun k hk => by
        have h1 : k < cw.length := by omega
        have h2 : k < bw.length := by omega
        rw [atN_nat (T := .int) h1, atN_nat (T := .int) h2, List.getElem_zip]) (cw.zip bw).length 0 (by omega), List.drop_zero, ← lexLt_find]
    cases (cw.zip bw).findSome? lexQ <;> rfl
theorem fn115 : FnOk 115 Tryd.f115 := ⟨by kernel_rfl, by kernel_rfl, by kernel_rfl, by kernel_rfl⟩
theorem e115 (gl : Gl) (cl : Int) (cs : Int) (cw : List Int) (cf : Bool) (bl : Int) (bs : Int) (bw : List Int) (bf : Bool) : evFn (cx gl (mkG []) [] []) K115 L115 Tryd.f115 [.agg [.i .i64 cl, .i .i64 cs, .sl .int cw, .b cf], .agg [.i .i64 bl, .i .i64 bs, .sl .int bw, .b bf]] noObjs = (match (bif (!bf) then true else (cl != bl)) with | true => an (.b (bif (!bf) then true else (decide (cl < bl)))) | false => (match (cs != bs) with | true => an (.b (decide (cs < bs))) | false => (iter st115_6 (fuel115_6 (⟨cl, cs, cw, cf, bl, bs, bw, bf, false, 0⟩ : S115_6)) (⟨cl, cs, cw, cf, bl, bs, bw, bf, false, 0⟩ : S115_6) fun o6 => (match o6.2 with | true => an (.b o6.1.t4) | false => an (.b false))))) := by kernel_rfl
def F115 : List PV → Option (Bool × PV)
  | [.agg [.i .i64 cl, .i .i64 cs, .sl .int cw, .b cf], .agg [.i .i64 bl, .i .i64 bs, .sl .int bw, .b bf]] => some ((decide (cw.length ≤ 1000000) && (!bf || decide (cw.length ≤ bw.length))), .b (betterR cl cs cw bl bs bw bf))
  | _ => none
theorem s115 {gl : Gl} : Sum gl 115 F115 := by
  intro ps r h
  unfold F115 at h
  split at h
  · rename_i cl cs cw cf bl bs bw bf
    obtain ⟨hc, rfl⟩ := Prod.mk.inj (Option.some.inj h)
    refine call_by (K := K115) (L := L115) (bxs := []) (ows := []) (GOk.nil) fn115 (l115 gl) (by kernel_rfl) (evF_some ((e115 gl cl cs cw cf bl bs bw bf).trans ?_))
    rw [Bool.and_eq_true] at hc
    obtain ⟨h1, h2⟩ := hc
    unfold betterR
    cases bf with
    | false => rfl
    | true =>
      cases (cl != bl) with
      | true => rfl
      | false =>
        cases (cs != bs) with
        | true => rfl
        | false => exact loop115 cl cs cw cf bl bs bw true (of_decide_eq_true h1) (of_decide_eq_true h2)
  · simp at h
end Go.Proofs.YtnbcmgdogohenaaDoor.Ev
/- Summaries of functions, printed by a program out of a list, and what is made of them. -/
namespace Go.Proofs.YtnbcmgdogohenaaDoor.Ev
open Go Go.RowKit Go.Proofs

/-- What a team must have, for the choice. -/
def okTeam (l : List Unit') (starts : List Int) (goals : List Spot) : Bool := decide (l.length ≤ 1000000) && (decide (starts.length = l.length) && (decide (goals.length ≤ 1000) && List.all l (fun u => c96 u)))
/-- A choice of units. -/
structure Ch where
  late : Int
  sum : Int
  wh : List Int
  found : Bool
def betterC (c b : Ch) : Bool := betterR c.late c.sum c.wh b.late b.sum b.wh b.found
def arrR (l : List Unit') (starts : List Int) (goals : List Spot) (c : Ch) (i : Nat) : Int := wr (atN .int starts i + takeR (atN .unit l i) (atN .unit l i).base (atN .spot goals c.wh.length))
def nextR (l : List Unit') (starts : List Int) (goals : List Spot) (c : Ch) (i : Nat) : Ch := ⟨imax c.late (arrR l starts goals c i), wr (c.sum + arrR l starts goals c i), c.wh ++ [(i : Int)], false⟩
def leafR (c b : Ch) : Ch := bif betterC ⟨c.late, c.sum, c.wh, true⟩ b then ⟨c.late, c.sum, c.wh, true⟩ else b
def chR (l : List Unit') (starts : List Int) (goals : List Spot) : Nat → Ch → Ch → Ch
  | 0, c, b => leafR c b
  | d + 1, c, b => (List.range' 0 l.length).foldl (fun (b : Ch) (i : Nat) => bif List.any c.wh (fun x => (i : Int) == x) then b else chR l starts goals d (nextR l starts goals c i) b) b
def chRL (l : List Unit') (starts : List Int) (goals : List Spot) (cl cs : Int) (cw : List Int) (bl bs : Int) (bw : List Int) (bf : Bool) : Int := (chR l starts goals (goals.length - cw.length) ⟨cl, cs, cw, false⟩ ⟨bl, bs, bw, bf⟩).late
def chRS (l : List Unit') (starts : List Int) (goals : List Spot) (cl cs : Int) (cw : List Int) (bl bs : Int) (bw : List Int) (bf : Bool) : Int := (chR l starts goals (goals.length - cw.length) ⟨cl, cs, cw, false⟩ ⟨bl, bs, bw, bf⟩).sum
def chRW (l : List Unit') (starts : List Int) (goals : List Spot) (cl cs : Int) (cw : List Int) (bl bs : Int) (bw : List Int) (bf : Bool) : List Int := (chR l starts goals (goals.length - cw.length) ⟨cl, cs, cw, false⟩ ⟨bl, bs, bw, bf⟩).wh
def chRF (l : List Unit') (starts : List Int) (goals : List Spot) (cl cs : Int) (cw : List Int) (bl bs : Int) (bw : List Int) (bf : Bool) : Bool := (chR l starts goals (goals.length - cw.length) ⟨cl, cs, cw, false⟩ ⟨bl, bs, bw, bf⟩).found
def FOR85 (dq : Nat) : ObjF
  | [.sl .unit l, .sl .int starts, .sl .spot goals, .agg [.i .i64 cl, .i .i64 cs, .sl .int cw, .b cf], .agg [.i .i64 bl, .i .i64 bs, .sl .int bw, .b bf]], [none, none, none, none, none, none, none, none] =>
    some (okTeam l starts goals && (decide (cw.length ≤ goals.length) && (decide (goals.length < cw.length + dq) && (!bf || decide (bw.length = goals.length)))), .agg [.i .i64 (chRL l starts goals cl cs cw bl bs bw bf), .i .i64 (chRS l starts goals cl cs cw bl bs bw bf), .sl .int (chRW l starts goals cl cs cw bl bs bw bf), .b (chRF l starts goals cl cs cw bl bs bw bf)], [none, none, none, none, none, none, none, none])
  | _, _ => none

structure S85_8 where
  l : List Unit'
  starts : List Int
  goals : List Spot
  n : Int
  i : Int
  c : Int
  c2 : Int
  c3 : List Int
  c4 : Bool
  b : Int
  b2 : Int
  b3 : List Int
  b4 : Bool
  h18 : Int
  h182 : Int
  h183 : List Int
  h184 : Bool
def S85_8.enc (s : S85_8) : List PV := [.sl .unit s.l, .sl .int s.starts, .sl .spot s.goals, .ref 16 0, .ref 17 0, .ref 18 0, .i .i64 s.n, .i .i64 s.i]
def S85_8.encH (s : S85_8) : Heap := [some (.cells 128 [.i .i64 s.c, .i .i64 s.c2, .sl .int s.c3, .b s.c4]), some (.cells 128 [.i .i64 s.b, .i .i64 s.b2, .sl .int s.b3, .b s.b4]), some (.cells 128 [.i .i64 s.h18, .i .i64 s.h182, .sl .int s.h183, .b s.h184])]
def dec85_8 : List PV → Heap → Option S85_8
  | [.sl .unit l_, .sl .int starts_, .sl .spot goals_, .ref 16 0, .ref 17 0, .ref 18 0, .i .i64 n_, .i .i64 i_], [some (.cells 128 [.i .i64 c_, .i .i64 c2_, .sl .int c3_, .b c4_]), some (.cells 128 [.i .i64 b_, .i .i64 b2_, .sl .int b3_, .b b4_]), some (.cells 128 [.i .i64 h18_, .i .i64 h182_, .sl .int h183_, .b h184_])] => some ⟨l_, starts_, goals_, n_, i_, c_, c2_, c3_, c4_, b_, b2_, b3_, b4_, h18_, h182_, h183_, h184_⟩
  | _, _ => none
theorem dec_enc85_8 (vs : List PV) (hs : Heap) (s : S85_8) (h : dec85_8 vs hs = some s) : vs = s.enc ∧ hs = s.encH := by
  unfold dec85_8 at h
  split at h
  · obtain rfl := Option.some.inj h
    exact ⟨rfl, rfl⟩
  · simp at h
def st85_8 (dq : Nat) {ρ : Type} (s : S85_8) (next : S85_8 → Option ρ) (out : S85_8 → Option ρ) : Option ρ := (match (decide (s.i < (s.l.length : Int))) with | true => (match (decide (s.c3.length ≤ 1000000)) with | true => (match (List.any s.c3 (fun x => s.i == x)) with | true => next ⟨s.l, s.starts, s.goals, s.n, (wr (s.i + 1)), s.c, s.c2, s.c3, s.c4, s.b, s.b2, s.b3, s.b4, s.h18, s.h182, s.h183, s.h184⟩ | false => (match (inB s.i s.starts.length) with | true => (match (inB s.i s.l.length) with | true => (match (inB s.i s.l.length) with | true => (match (inB s.n s.goals.length) with | true => (match (c96 (atD .unit s.l s.i)) with | true => (match (decide ((0 + s.c3.length) * 8 ≤ 140737488355328)) with | true => (match (decide ((((([]) ++ s.c3).length) + 1) * 8 ≤ 140737488355328)) with | true => (match (okTeam s.l s.starts s.goals && (decide (((([]) ++ s.c3) ++ ([s.i] : List Int)).length ≤ s.goals.length) && (decide (s.goals.length < ((([]) ++ s.c3) ++ ([s.i] : List Int)).length + dq) && (!s.b4 || decide (s.b3.length = s.goals.length))))) with | true => next ⟨s.l, s.starts, s.goals, s.n, (wr (s.i + 1)), s.c, s.c2, s.c3, s.c4, (chRL s.l s.starts s.goals (imax s.c (wr ((atD .int s.starts s.i) + (takeR (atD .unit s.l s.i) ((atD .unit s.l s.i).base) (atD .spot s.goals s.n))))) (wr (s.c2 + (wr ((atD .int s.starts s.i) + (takeR (atD .unit s.l s.i) ((atD .unit s.l s.i).base) (atD .spot s.goals s.n)))))) ((([]) ++ s.c3) ++ ([s.i] : List Int)) s.b s.b2 s.b3 s.b4), (chRS s.l s.starts s.goals (imax s.c (wr ((atD .int s.starts s.i) + (takeR (atD .unit s.l s.i) ((atD .unit s.l s.i).base) (atD .spot s.goals s.n))))) (wr (s.c2 + (wr ((atD .int s.starts s.i) + (takeR (atD .unit s.l s.i) ((atD .unit s.l s.i).base) (atD .spot s.goals s.n)))))) ((([]) ++ s.c3) ++ ([s.i] : List Int)) s.b s.b2 s.b3 s.b4), (chRW s.l s.starts s.goals (imax s.c (wr ((atD .int s.starts s.i) + (takeR (atD .unit s.l s.i) ((atD .unit s.l s.i).base) (atD .spot s.goals s.n))))) (wr (s.c2 + (wr ((atD .int s.starts s.i) + (takeR (atD .unit s.l s.i) ((atD .unit s.l s.i).base) (atD .spot s.goals s.n)))))) ((([]) ++ s.c3) ++ ([s.i] : List Int)) s.b s.b2 s.b3 s.b4), (chRF s.l s.starts s.goals (imax s.c (wr ((atD .int s.starts s.i) + (takeR (atD .unit s.l s.i) ((atD .unit s.l s.i).base) (atD .spot s.goals s.n))))) (wr (s.c2 + (wr ((atD .int s.starts s.i) + (takeR (atD .unit s.l s.i) ((atD .unit s.l s.i).base) (atD .spot s.goals s.n)))))) ((([]) ++ s.c3) ++ ([s.i] : List Int)) s.b s.b2 s.b3 s.b4), s.h18, s.h182, s.h183, s.h184⟩ | false => none) | false => none) | false => none) | false => none) | false => none) | false => none) | false => none) | false => none)) | false => none) | false => out s)
def out85_8 (k : Ex → List PV → Heap → Option R) (o : S85_8) : Option R := k (.exit 0) o.enc o.encH
def fuel85_8 (s : S85_8) : Nat := s.l.length + 1
def K85 : Keep := fun _ => ([0, 1, 2, 8, 9, 10, 11, 12], [16, 17, 18])
def L85 (dq : Nat) : Lam := loopL dec85_8 (st85_8 dq) fuel85_8 out85_8
noncomputable def b85_8 : Code := (loopsOf (bodyOf Tryd.f85)).getD 0 .skip
theorem step85_8 (dq : Nat) (gl : Gl) (j : Nat) (s : S85_8) (k : Ex → List PV → Heap → Option R) : unroll (cxo gl (mkG [(116, F116), (96, F96), (115, F115)]) (mkO [(85, 0, FOR85 dq)]) none [] rlT [16, 17] [73]) K85 (L85 dq) Tryd.f85.ntmps (Tryd.f85.ntmps + 16) b85_8 (j + 1) s.enc s.encH k = (st85_8 dq) s (fun s' => unroll (cxo gl (mkG [(116, F116), (96, F96), (115, F115)]) (mkO [(85, 0, FOR85 dq)]) none [] rlT [16, 17] [73]) K85 (L85 dq) Tryd.f85.ntmps (Tryd.f85.ntmps + 16) b85_8 j s'.enc s'.encH k) (out85_8 k) := by kernel_rfl
theorem l85 (dq : Nat) (gl : Gl) : LoopsOk (cxo gl (mkG [(116, F116), (96, F96), (115, F115)]) (mkO [(85, 0, FOR85 dq)]) none [] rlT [16, 17] [73]) K85 (L85 dq) Tryd.f85.ntmps (Tryd.f85.ntmps + 16) (loopsOf (bodyOf Tryd.f85)) := by
  refine loopsOk_list (l := [b85_8]) (by kernel_rfl) ?_
  exact List.forall_mem_cons.2 ⟨loopOk1 (fuel := fuel85_8) (enc := S85_8.enc) (encH := S85_8.encH) (fun vs hs k => by kernel_rfl) dec_enc85_8 ((step85_8 dq) gl ), (fun _ h => by simp at h)⟩
theorem okTeam_P {l : List Unit'} {starts : List Int} {goals : List Spot} (h : okTeam l starts goals = true) : l.length ≤ 1000000 ∧ starts.length = l.length ∧ goals.length ≤ 1000 ∧ ∀ u ∈ l, c96 u = true := by
  unfold okTeam at h
  simp only [Bool.and_eq_true, decide_eq_true_eq] at h
  exact ⟨h.1, h.2.1, h.2.2.1, List.all_eq_true.1 h.2.2.2⟩
/-- What is chosen has as many units as there are goals. -/
theorem chR_len {l : List Unit'} {starts : List Int} {goals : List Spot} : ∀ (d : Nat) (c b : Ch), c.wh.length + d = goals.length → (b.found = true → b.wh.length = goals.length) → (chR l starts goals d c b).found = true → (chR l starts goals d c b).wh.length = goals.length
  | 0, c, b, h, hb => by
    show (leafR c b).found = true → (leafR c b).wh.length = goals.length
    unfold leafR
    cases betterC ⟨c.late, c.sum, c.wh, true⟩ b with
    | true => intro _; exact h
    | false => exact hb
  | d + 1, c, b, h, hb => by
    show (List.foldl _ b _).found = true → (List.foldl _ b _).wh.length = goals.length
    have key : ∀ (is : List Nat) (b : Ch), (b.found = true → b.wh.length = goals.length) → (is.foldl (fun (b : Ch) (i : Nat) => bif List.any c.wh (fun x => (i : Int) == x) then b else chR l starts goals d (nextR l starts goals c i) b) b).found = true → (is.foldl (fun (b : Ch) (i : Nat) => bif List.any c.wh (fun x => (i : Int) == x) then b else chR l starts goals d (nextR l starts goals c i) b) b).wh.length = goals.length := by
      intro is
      induction is with
      | nil => intro b hb; exact hb
      | cons i is ih =>
        intro b hb
        rw [List.foldl_cons]
        refine ih _ ?_
        cases List.any c.wh (fun x => (i : Int) == x) with
        | true => exact hb
        | false => exact chR_len d (nextR l starts goals c i) b (by show (c.wh ++ [(i : Int)]).length + d = _; rw [List.length_append]; simp; omega) hb
    exact key _ b hb
/-- So many rounds of the choice. -/
def chAt (l : List Unit') (starts : List Int) (goals : List Spot) (d : Nat) (c b : Ch) (k : Nat) : Ch := (List.range' 0 k).foldl (fun (b : Ch) (i : Nat) => bif List.any c.wh (fun x => (i : Int) == x) then b else chR l starts goals d (nextR l starts goals c i) b) b
theorem chAt_succ (l : List Unit') (starts : List Int) (goals : List Spot) (d : Nat) (c b : Ch) (k : Nat) : chAt l starts goals d c b (k + 1) = bif List.any c.wh (fun x => (k : Int) == x) then chAt l starts goals d c b k else chR l starts goals d (nextR l starts goals c k) (chAt l starts goals d c b k) := by
  unfold chAt
  rw [List.range'_1_concat, List.foldl_append]
  simp
theorem chAt_len {l : List Unit'} {starts : List Int} {goals : List Spot} {d : Nat} {c b : Ch} (h : c.wh.length + d + 1 = goals.length) (hb : b.found = true → b.wh.length = goals.length) : ∀ k, (chAt l starts goals d c b k).found = true → (chAt l starts goals d c b k).wh.length = goals.length
  | 0 => hb
  | k + 1 => by
    rw [chAt_succ]
    cases List.any c.wh (fun x => (k : Int) == x) with
    | true => exact chAt_len h hb k
    | false => exact chR_len d _ _ (by show (c.wh ++ [(k : Int)]).length + d = _; rw [List.length_append]; simp; omega) (chAt_len h hb k)
theorem chR_found (l : List Unit') (starts : List Int) (goals : List Spot) : ∀ (d : Nat) (c b : Ch) (f : Bool), chR l starts goals d ⟨c.late, c.sum, c.wh, f⟩ b = chR l starts goals d c b
  | 0, c, b, f => rfl
  | d + 1, c, b, f => rfl
theorem loop85 (dq : Nat) (l : List Unit') (starts : List Int) (goals : List Spot) (cl cs : Int) (cw : List Int) (cf : Bool) (bl bs : Int) (bw : List Int) (bf : Bool) (d : Nat) (hT : okTeam l starts goals = true) (hd : cw.length + d + 1 = goals.length) (hq : d < dq) (hb : bf = true → bw.length = goals.length) :
    (iter (st85_8 dq) (fuel85_8 (⟨l, starts, goals, (cw.length : Int), 0, cl, cs, cw, cf, bl, bs, bw, bf, 0, 0, ([] : List Int), false⟩ : S85_8)) (⟨l, starts, goals, (cw.length : Int), 0, cl, cs, cw, cf, bl, bs, bw, bf, 0, 0, ([] : List Int), false⟩ : S85_8) fun o8 => ao (.agg [.i .i64 o8.b, .i .i64 o8.b2, .sl .int o8.b3, .b o8.b4]) [none, none, none, none, none, none, none, none]) = ao (.agg [.i .i64 (chR l starts goals (d + 1) ⟨cl, cs, cw, cf⟩ ⟨bl, bs, bw, bf⟩).late, .i .i64 (chR l starts goals (d + 1) ⟨cl, cs, cw, cf⟩ ⟨bl, bs, bw, bf⟩).sum, .sl .int (chR l starts goals (d + 1) ⟨cl, cs, cw, cf⟩ ⟨bl, bs, bw, bf⟩).wh, .b (chR l starts goals (d + 1) ⟨cl, cs, cw, cf⟩ ⟨bl, bs, bw, bf⟩).found]) [none, none, none, none, none, none, none, none] := by
  obtain ⟨t1, t2, t3, t4⟩ := okTeam_P hT
  refine (iter_each (step := (st85_8 dq)) (F := fun k => (⟨l, starts, goals, (cw.length : Int), (k : Int), cl, cs, cw, cf, (chAt l starts goals d ⟨cl, cs, cw, cf⟩ ⟨bl, bs, bw, bf⟩ k).late, (chAt l starts goals d ⟨cl, cs, cw, cf⟩ ⟨bl, bs, bw, bf⟩ k).sum, (chAt l starts goals d ⟨cl, cs, cw, cf⟩ ⟨bl, bs, bw, bf⟩ k).wh, (chAt l starts goals d ⟨cl, cs, cw, cf⟩ ⟨bl, bs, bw, bf⟩ k).found, 0, 0, ([] : List Int), false⟩ : S85_8)) (last := (⟨l, starts, goals, (cw.length : Int), (l.length : Int), cl, cs, cw, cf, (chAt l starts goals d ⟨cl, cs, cw, cf⟩ ⟨bl, bs, bw, bf⟩ l.length).late, (chAt l starts goals d ⟨cl, cs, cw, cf⟩ ⟨bl, bs, bw, bf⟩ l.length).sum, (chAt l starts goals d ⟨cl, cs, cw, cf⟩ ⟨bl, bs, bw, bf⟩ l.length).wh, (chAt l starts goals d ⟨cl, cs, cw, cf⟩ ⟨bl, bs, bw, bf⟩ l.length).found, 0, 0, ([] : List Int), false⟩ : S85_8)) l.length _ (fun k next hk => ?_) (fun next => ?_) _ (Nat.le_refl _) _ rfl).trans ?_
  · have a1 : decide (cw.length ≤ 1000000) = true := decide_eq_true (by omega)
    have a2 : inB (k : Int) starts.length = true := inB_nat (by omega)
    have a3 : inB (cw.length : Int) goals.length = true := inB_nat (by omega)
    have a4 : c96 (atN .unit l k) = true := t4 _ (atN_nat (T := .unit) hk ▸ List.getElem_mem hk)
    have a5 : decide ((0 + cw.length) * 8 ≤ 140737488355328) = true := decide_eq_true (by omega)
    have a6 : decide (((([] : List Int) ++ cw).length + 1) * 8 ≤ 140737488355328) = true := decide_eq_true (by rw [List.nil_append]; omega)
    have a7 : (([] : List Int) ++ cw) ++ [(k : Int)] = cw ++ [(k : Int)] := by rw [List.nil_append]
    have a8 : (okTeam l starts goals && (decide ((cw ++ [(k : Int)]).length ≤ goals.length) && (decide (goals.length < (cw ++ [(k : Int)]).length + dq) && (!(chAt l starts goals d ⟨cl, cs, cw, cf⟩ ⟨bl, bs, bw, bf⟩ k).found || decide ((chAt l starts goals d ⟨cl, cs, cw, cf⟩ ⟨bl, bs, bw, bf⟩ k).wh.length = goals.length))))) = true := by
      rw [hT, decide_eq_true (show (cw ++ [(k : Int)]).length ≤ goals.length by rw [List.length_append]; simp; omega), decide_eq_true (show goals.length < (cw ++ [(k : Int)]).length + dq by rw [List.length_append]; simp; omega)]
      cases hf : (chAt l starts goals d ⟨cl, cs, cw, cf⟩ ⟨bl, bs, bw, bf⟩ k).found with
      | false => rfl
      | true => rw [decide_eq_true (chAt_len (c := ⟨cl, cs, cw, cf⟩) (b := ⟨bl, bs, bw, bf⟩) hd hb k hf)]; rfl
    have a9 : goals.length - (cw ++ [(k : Int)]).length = d := by rw [List.length_append]; simp; omega
    have e := chAt_succ l starts goals d ⟨cl, cs, cw, cf⟩ ⟨bl, bs, bw, bf⟩ k
    cases hc : List.any cw (fun x => (k : Int) == x) with
    | true =>
      have hc' : List.any (Ch.mk cl cs cw cf).wh (fun x => (k : Int) == x) = true := hc
      rw [hc'] at e
      have e' : chAt l starts goals d ⟨cl, cs, cw, cf⟩ ⟨bl, bs, bw, bf⟩ (k + 1) = chAt l starts goals d ⟨cl, cs, cw, cf⟩ ⟨bl, bs, bw, bf⟩ k := e
      simp only [st85_8, decLt_nat hk, wr_succ (show k ≤ 1000000 by omega), a1, hc, e']
    | false =>
      have hc' : List.any (Ch.mk cl cs cw cf).wh (fun x => (k : Int) == x) = false := hc
      rw [hc'] at e
      have e' : chAt l starts goals d ⟨cl, cs, cw, cf⟩ ⟨bl, bs, bw, bf⟩ (k + 1) = chR l starts goals d (nextR l starts goals ⟨cl, cs, cw, cf⟩ k) (chAt l starts goals d ⟨cl, cs, cw, cf⟩ ⟨bl, bs, bw, bf⟩ k) := e
      simp only [st85_8, decLt_nat hk, inB_nat hk, wr_succ (show k ≤ 1000000 by omega), a1, a2, a3, a4, a5, a6, a7, a8, hc, e', atD, Int.toNat_natCast, chRL, chRS, chRW, chRF, a9]
      rfl
  · simp only [st85_8, decLt_self]
  · rfl
theorem fn85 : FnOk 85 Tryd.f85 := ⟨by kernel_rfl, by kernel_rfl, by kernel_rfl, by kernel_rfl⟩
theorem eo85 (dq : Nat) (gl : Gl) (l : List Unit') (starts : List Int) (goals : List Spot) (cl : Int) (cs : Int) (cw : List Int) (cf : Bool) (bl : Int) (bs : Int) (bw : List Int) (bf : Bool) : evO (cxo gl (mkG [(116, F116), (96, F96), (115, F115)]) (mkO [(85, 0, FOR85 dq)]) none [] rlT [16, 17] [73]) K85 (L85 dq) 0 Tryd.f85 [.sl .unit l, .sl .int starts, .sl .spot goals, .agg [.i .i64 cl, .i .i64 cs, .sl .int cw, .b cf], .agg [.i .i64 bl, .i .i64 bs, .sl .int bw, .b bf]] [none, none, none, none, none, none, none, none] = (match ((cw.length : Int) == (goals.length : Int)) with | true => (match (decide (cw.length ≤ 1000000) && (!bf || decide (cw.length ≤ bw.length))) with | true => (match (betterR cl cs cw bl bs bw bf) with | true => ao (.agg [.i .i64 cl, .i .i64 cs, .sl .int cw, .b true]) [none, none, none, none, none, none, none, none] | false => ao (.agg [.i .i64 bl, .i .i64 bs, .sl .int bw, .b bf]) [none, none, none, none, none, none, none, none]) | false => none) | false => (iter (st85_8 dq) (fuel85_8 (⟨l, starts, goals, (cw.length : Int), 0, cl, cs, cw, cf, bl, bs, bw, bf, 0, 0, ([] : List Int), false⟩ : S85_8)) (⟨l, starts, goals, (cw.length : Int), 0, cl, cs, cw, cf, bl, bs, bw, bf, 0, 0, ([] : List Int), false⟩ : S85_8) fun o8 => ao (.agg [.i .i64 o8.b, .i .i64 o8.b2, .sl .int o8.b3, .b o8.b4]) [none, none, none, none, none, none, none, none])) := by kernel_rfl
def FO85 (dq : Nat) : ObjF
  | [.sl .unit l, .sl .int starts, .sl .spot goals, .agg [.i .i64 cl, .i .i64 cs, .sl .int cw, .b cf], .agg [.i .i64 bl, .i .i64 bs, .sl .int bw, .b bf]], [none, none, none, none, none, none, none, none] => some ((okTeam l starts goals && (decide (cw.length ≤ goals.length) && (decide (goals.length < cw.length + (dq + 1)) && (!bf || decide (bw.length = goals.length))))), .agg [.i .i64 (chRL l starts goals cl cs cw bl bs bw bf), .i .i64 (chRS l starts goals cl cs cw bl bs bw bf), .sl .int (chRW l starts goals cl cs cw bl bs bw bf), .b (chRF l starts goals cl cs cw bl bs bw bf)], [none, none, none, none, none, none, none, none])
  | _, _ => none
theorem so85 (dq : Nat) {gl : Gl} (hrec85 : OSum gl 85 (FOR85 dq)) : OSum gl 85 (FO85 dq) := by
  intro ps os r os2 h
  unfold FO85 at h
  split at h
  · rename_i l starts goals cl cs cw cf bl bs bw bf
    obtain ⟨hc, h2_⟩ := Prod.mk.inj (Option.some.inj h)
    obtain ⟨rfl, rfl⟩ := Prod.mk.inj h2_
    refine obj_by (K := K85) (L := (L85 dq)) (bxs := [16, 17]) (ows := [73]) (n0 := 0) (GOk.cons s116 (GOk.cons s96 (GOk.cons s115 (GOk.nil)))) (OOk.cons hrec85 (OOk.nil)) fn85 ((l85 dq) gl) (by kernel_rfl) (((eo85 dq) gl l starts goals cl cs cw cf bl bs bw bf).trans ?_)
    simp only [Bool.and_eq_true, decide_eq_true_eq] at hc
    obtain ⟨hT, h1, h2, h3⟩ := hc
    obtain ⟨t1, t2, t3, t4⟩ := okTeam_P hT
    have hb : bf = true → bw.length = goals.length := fun e => by
      subst e
      simpa using h3
    cases hn : ((cw.length : Int) == (goals.length : Int)) with
    | true =>
      have hn' : cw.length = goals.length := by have := beq_iff_eq.1 hn; omega
      have a1 : (decide (cw.length ≤ 1000000) && (!bf || decide (cw.length ≤ bw.length))) = true := by
        rw [decide_eq_true (show cw.length ≤ 1000000 by omega)]
        cases bf with
        | false => rfl
        | true => rw [decide_eq_true (show cw.length ≤ bw.length by have := hb rfl; omega)]; rfl
      have a2 : goals.length - cw.length = 0 := by omega
      simp only [a1, chRL, chRS, chRW, chRF, a2]
      show _ = ao (.agg [.i .i64 (leafR ⟨cl, cs, cw, false⟩ ⟨bl, bs, bw, bf⟩).late, .i .i64 (leafR ⟨cl, cs, cw, false⟩ ⟨bl, bs, bw, bf⟩).sum, .sl .int (leafR ⟨cl, cs, cw, false⟩ ⟨bl, bs, bw, bf⟩).wh, .b (leafR ⟨cl, cs, cw, false⟩ ⟨bl, bs, bw, bf⟩).found]) _
      unfold leafR
      show (match betterR cl cs cw bl bs bw bf with | true => _ | false => _) = ao (.agg [.i .i64 (bif betterR cl cs cw bl bs bw bf then _ else _ : Ch).late, .i .i64 (bif betterR cl cs cw bl bs bw bf then _ else _ : Ch).sum, .sl .int (bif betterR cl cs cw bl bs bw bf then _ else _ : Ch).wh, .b (bif betterR cl cs cw bl bs bw bf then _ else _ : Ch).found]) _
      cases betterR cl cs cw bl bs bw bf <;> rfl
    | false =>
      have hn' : cw.length ≠ goals.length := fun e => by rw [e, beq_self_eq_true] at hn; exact Bool.noConfusion hn
      obtain ⟨d, hd⟩ : ∃ d, cw.length + d + 1 = goals.length := ⟨goals.length - cw.length - 1, by omega⟩
      have a2 : goals.length - cw.length = d + 1 := by omega
      have hl := (loop85 dq) l starts goals cl cs cw cf bl bs bw bf d hT hd (by omega) hb
      simp only [chRL, chRS, chRW, chRF, a2, chR_found l starts goals (d + 1) ⟨cl, cs, cw, cf⟩ ⟨bl, bs, bw, bf⟩ false] at hl ⊢
      exact hl
  · simp at h
theorem soR85 {gl : Gl} : ∀ dq, OSum gl 85 (FOR85 dq)
  | 0 => by
    intro ps os r os' h
    unfold FOR85 at h
    split at h
    · have hc := (Prod.mk.inj (Option.some.inj h)).1
      simp only [Bool.and_eq_true, decide_eq_true_eq] at hc
      omega
    · simp at h
  | dq + 1 => by
    intro ps os r os' h
    unfold FOR85 at h
    split at h
    · exact so85 dq (soR85 dq) _ _ _ _ h
    · simp at h
end Go.Proofs.YtnbcmgdogohenaaDoor.Ev
/- Summaries of functions, printed by a program out of a list, and what is made of them. -/
namespace Go.Proofs.YtnbcmgdogohenaaDoor.Ev
open Go Go.RowKit Go.Proofs
structure S43_6 where
  l : List Unit'
  starts : List Int
  goals : List Spot
  t7 : Int
  i : Int
def S43_6.enc (s : S43_6) : List PV := [.sl .unit s.l, .sl .int s.starts, .sl .spot s.goals, .nsl 3 .int, .i .i64 s.t7, .i .i64 s.i]
def S43_6.encH (s : S43_6) : Heap := []
def dec43_6 : List PV → Heap → Option S43_6
  | [.sl .unit l_, .sl .int starts_, .sl .spot goals_, .nsl 3 .int, .i .i64 t7_, .i .i64 i_], [] => some ⟨l_, starts_, goals_, t7_, i_⟩
  | _, _ => none
theorem dec_enc43_6 (vs : List PV) (hs : Heap) (s : S43_6) (h : dec43_6 vs hs = some s) : vs = s.enc ∧ hs = s.encH := by
  unfold dec43_6 at h
  split at h
  · obtain rfl := Option.some.inj h
    exact ⟨rfl, rfl⟩
  · simp at h
def st43_6 {ρ : Type} (s : S43_6) (next : S43_6 → Option ρ) (out : S43_6 × Bool → Option ρ) : Option ρ := (match (decide (s.i < (s.l.length : Int))) with | true => (match (inB s.i s.l.length) with | true => (match ((inB s.i s.starts.length) || ((!(unitOk (atD .unit s.l s.i))) || false)) with | true => (match (bif (!(unitOk (atD .unit s.l s.i))) then true else (!(Time (atD .int s.starts s.i)))) with | true => out (⟨s.l, s.starts, s.goals, 2, s.i⟩, true) | false => next ⟨s.l, s.starts, s.goals, s.t7, (wr (s.i + 1))⟩) | false => none) | false => none) | false => out (s, false))
def out43_6 (k : Ex → List PV → Heap → Option R) (o : S43_6 × Bool) : Option R := match o.2 with
  | true => k .ret o.1.enc o.1.encH
  | false => k (.exit 0) o.1.enc o.1.encH
def fuel43_6 (s : S43_6) : Nat := s.l.length + 1
structure S43_11 where
  l : List Unit'
  starts : List Int
  goals : List Spot
  t7 : Int
  k : Int
def S43_11.enc (s : S43_11) : List PV := [.sl .unit s.l, .sl .int s.starts, .sl .spot s.goals, .nsl 3 .int, .i .i64 s.t7, .i .i64 s.k]
def S43_11.encH (s : S43_11) : Heap := []
def dec43_11 : List PV → Heap → Option S43_11
  | [.sl .unit l_, .sl .int starts_, .sl .spot goals_, .nsl 3 .int, .i .i64 t7_, .i .i64 k_], [] => some ⟨l_, starts_, goals_, t7_, k_⟩
  | _, _ => none
theorem dec_enc43_11 (vs : List PV) (hs : Heap) (s : S43_11) (h : dec43_11 vs hs = some s) : vs = s.enc ∧ hs = s.encH := by
  unfold dec43_11 at h
  split at h
  · obtain rfl := Option.some.inj h
    exact ⟨rfl, rfl⟩
  · simp at h
def st43_11 {ρ : Type} (s : S43_11) (next : S43_11 → Option ρ) (out : S43_11 × Bool → Option ρ) : Option ρ := (match (decide (s.k < (s.goals.length : Int))) with | true => (match (inB s.k s.goals.length) with | true => (match (!(Place (atD .spot s.goals s.k))) with | true => out (⟨s.l, s.starts, s.goals, 2, s.k⟩, true) | false => next ⟨s.l, s.starts, s.goals, s.t7, (wr (s.k + 1))⟩) | false => none) | false => out (s, false))
def out43_11 (k : Ex → List PV → Heap → Option R) (o : S43_11 × Bool) : Option R := match o.2 with
  | true => k .ret o.1.enc o.1.encH
  | false => k (.exit 2) o.1.enc o.1.encH
def fuel43_11 (s : S43_11) : Nat := s.goals.length + 1
def K43 : Keep := fun i => match i with
  | 6 => ([0, 1, 2, 6, 7, 8], [])
  | 11 => ([0, 1, 2, 6, 7, 9], [])
  | _ => ([], [])
def L43 : Lam := fun b vs hs k => match loopId b with
  | 6 => loopL dec43_6 st43_6 fuel43_6 out43_6 b vs hs k
  | 11 => loopL dec43_11 st43_11 fuel43_11 out43_11 b vs hs k
  | _ => none
noncomputable def b43_6 : Code := (loopsOf (bodyOf Tryd.f43)).getD 0 .skip
noncomputable def b43_11 : Code := (loopsOf (bodyOf Tryd.f43)).getD 1 .skip
theorem step43_6 (gl : Gl) (j : Nat) (s : S43_6) (k : Ex → List PV → Heap → Option R) : unroll (cxo gl (mkG [(20, F20), (46, F46), (32, F32)]) (mkO [(85, 0, FOR85 1001)]) none [] rlT [] []) K43 L43 Tryd.f43.ntmps (Tryd.f43.ntmps + 16) b43_6 (j + 1) s.enc s.encH k = st43_6 s (fun s' => unroll (cxo gl (mkG [(20, F20), (46, F46), (32, F32)]) (mkO [(85, 0, FOR85 1001)]) none [] rlT [] []) K43 L43 Tryd.f43.ntmps (Tryd.f43.ntmps + 16) b43_6 j s'.enc s'.encH k) (out43_6 k) := by kernel_rfl
theorem step43_11 (gl : Gl) (j : Nat) (s : S43_11) (k : Ex → List PV → Heap → Option R) : unroll (cxo gl (mkG [(20, F20), (46, F46), (32, F32)]) (mkO [(85, 0, FOR85 1001)]) none [] rlT [] []) K43 L43 Tryd.f43.ntmps (Tryd.f43.ntmps + 16) b43_11 (j + 1) s.enc s.encH k = st43_11 s (fun s' => unroll (cxo gl (mkG [(20, F20), (46, F46), (32, F32)]) (mkO [(85, 0, FOR85 1001)]) none [] rlT [] []) K43 L43 Tryd.f43.ntmps (Tryd.f43.ntmps + 16) b43_11 j s'.enc s'.encH k) (out43_11 k) := by kernel_rfl
theorem l43 (gl : Gl) : LoopsOk (cxo gl (mkG [(20, F20), (46, F46), (32, F32)]) (mkO [(85, 0, FOR85 1001)]) none [] rlT [] []) K43 L43 Tryd.f43.ntmps (Tryd.f43.ntmps + 16) (loopsOf (bodyOf Tryd.f43)) := by
  refine loopsOk_list (l := [b43_6, b43_11]) (by kernel_rfl) ?_
  exact List.forall_mem_cons.2 ⟨loopOk1 (fuel := fuel43_6) (enc := S43_6.enc) (encH := S43_6.encH) (fun vs hs k => by kernel_rfl) dec_enc43_6 (step43_6 gl ), List.forall_mem_cons.2 ⟨loopOk1 (fuel := fuel43_11) (enc := S43_11.enc) (encH := S43_11.encH) (fun vs hs k => by kernel_rfl) dec_enc43_11 (step43_11 gl ), (fun _ h => by simp at h)⟩⟩
def asBad (l : List Unit') (starts : List Int) (k : Nat) : Bool := bif (!(unitOk (atN .unit l k))) then true else (!(Time (atN .int starts k)))
def asLong (l : List Unit') (goals : List Spot) : Bool := (bif (decide ((l.length : Int) > 6)) then true else (decide ((goals.length : Int) > 6)))
def asLen (l : List Unit') (starts : List Int) (goals : List Spot) : Bool := (bif ((starts.length : Int) != (l.length : Int)) then true else (decide ((goals.length : Int) > (l.length : Int))))
def asArg (l : List Unit') (starts : List Int) (goals : List Spot) : Bool := bif asLen l starts goals then true else bif (List.range' 0 l.length).any (asBad l starts) then true else List.any goals (fun p => !(Place p))
/-- The document's assignment. -/
def AsW (l : List Unit') (starts : List Int) (goals : List Spot) : List Int := bif asLong l goals then [] else bif asArg l starts goals then [] else chRW l starts goals 0 0 [] 0 0 [] false
def AsE (l : List Unit') (starts : List Int) (goals : List Spot) : Int := bif asLong l goals then 3 else bif asArg l starts goals then 2 else 0
structure AsP (l : List Unit') (starts : List Int) (goals : List Spot) : Prop where
  l6 : l.length ≤ 6
  g6 : goals.length ≤ l.length
  ls : starts.length = l.length
  unit : ∀ k (hk : k < l.length), unitOk l[k] = true
  time : ∀ k (hk : k < starts.length), timed starts[k] = true
  goal : ∀ p ∈ goals, placed p = true
theorem asP {l : List Unit'} {starts : List Int} {goals : List Spot} (h1 : asLong l goals = false) (h2 : asArg l starts goals = false) : AsP l starts goals := by
  unfold asLong at h1
  obtain ⟨a1, a2⟩ := bif_no h1
  have a1 := of_decide_eq_false a1
  unfold asArg at h2
  obtain ⟨b1, b2⟩ := bif_no h2
  obtain ⟨b2, b3⟩ := bif_no b2
  unfold asLen at b1
  obtain ⟨c1, c2⟩ := bif_no b1
  have c2 := of_decide_eq_false c2
  have c1 : starts.length = l.length := by
    have : ((starts.length : Int) = (l.length : Int)) := by simpa using c1
    omega
  rw [List.any_eq_false] at b2 b3
  have hk : ∀ k, k < l.length → unitOk (atN .unit l k) = true ∧ Time (atN .int starts k) = true := fun k hk => by
    have := b2 k (by rw [List.mem_range'_1]; omega)
    have h : asBad l starts k = false := by simpa using this
    unfold asBad at h
    obtain ⟨e1, e2⟩ := bif_no h
    exact ⟨by simpa using e1, by simpa using e2⟩
  refine ⟨by omega, by omega, c1, fun k h => ?_, fun k h => ?_, fun p hp => ?_⟩
  · have := (hk k h).1
    rwa [atN_nat (T := .unit) h] at this
  · have := (hk k (by omega)).2
    rwa [atN_nat (T := .int) h] at this
  · have := b3 p hp
    have : Place p = true := by simpa using this
    exact this
theorem AsP.team {l : List Unit'} {starts : List Int} {goals : List Spot} (h : AsP l starts goals) : okTeam l starts goals = true := by
  have h1 := h.l6
  have h2 := h.g6
  unfold okTeam
  rw [decide_eq_true (show l.length ≤ 1000000 by omega), decide_eq_true h.ls, decide_eq_true (show goals.length ≤ 1000 by omega)]
  show List.all l (fun u => c96 u) = true
  rw [List.all_eq_true]
  intro u hu
  obtain ⟨k, hk, rfl⟩ := List.getElem_of_mem hu
  exact c96_ok (h.unit k hk)
theorem loop43_6 (l : List Unit') (starts : List Int) (goals : List Spot) (hx : l.length ≤ 1000000) (hs : starts.length = l.length) (O : S43_6 × Bool → Option R) (A : Option R) (hA : ∀ k : Nat, O (⟨l, starts, goals, 2, (k : Int)⟩, true) = A) :
    iter st43_6 (fuel43_6 (⟨l, starts, goals, 0, 0⟩ : S43_6)) (⟨l, starts, goals, 0, 0⟩ : S43_6) O = bif (List.range' 0 l.length).any (asBad l starts) then A else O (⟨l, starts, goals, 0, (l.length : Int)⟩, false) := by
  refine (iter_all (step := st43_6) (F := fun k => (⟨l, starts, goals, 0, (k : Int)⟩ : S43_6)) (stop := fun k => bif asBad l starts k then some ((⟨l, starts, goals, 2, (k : Int)⟩ : S43_6), true) else none) (last := ((⟨l, starts, goals, 0, (l.length : Int)⟩ : S43_6), false)) l.length _ (fun k next hk => ?_) (fun next => ?_) _ (Nat.le_refl _) _ rfl).trans ?_
  · simp only [st43_6, decLt_nat hk, inB_nat hk, inB_nat (show k < starts.length by omega), wr_succ (show k ≤ 1000000 by omega), atD, Int.toNat_natCast, Bool.true_or]
    show (match asBad l starts k with | true => _ | false => _) = _
    generalize asBad l starts k = b_
    cases b_ <;> rfl
  · simp only [st43_6, decLt_self]
  · exact runTo_any O (asBad l starts) (fun k => ((⟨l, starts, goals, 2, (k : Int)⟩ : S43_6), true)) A hA l.length 0 (fun j _ _ => rfl)
theorem loop43_11 (l : List Unit') (starts : List Int) (goals : List Spot) (hx : goals.length ≤ 1000000) (O : S43_11 × Bool → Option R) (A : Option R) (hA : ∀ k : Nat, O (⟨l, starts, goals, 2, (k : Int)⟩, true) = A) :
    iter st43_11 (fuel43_11 (⟨l, starts, goals, 0, 0⟩ : S43_11)) (⟨l, starts, goals, 0, 0⟩ : S43_11) O = bif List.any goals (fun p => !(Place p)) then A else O (⟨l, starts, goals, 0, (goals.length : Int)⟩, false) := by
  refine (iter_all (step := st43_11) (F := fun k => (⟨l, starts, goals, 0, (k : Int)⟩ : S43_11)) (stop := fun k => bif !(Place (atN .spot goals k)) then some ((⟨l, starts, goals, 2, (k : Int)⟩ : S43_11), true) else none) (last := ((⟨l, starts, goals, 0, (goals.length : Int)⟩ : S43_11), false)) goals.length _ (fun k next hk => ?_) (fun next => ?_) _ (Nat.le_refl _) _ rfl).trans ?_
  · simp only [st43_11, decLt_nat hk, inB_nat hk, wr_succ (show k ≤ 1000000 by omega), atD, Int.toNat_natCast, Bool.true_or]
    show (match !(Place (atN .spot goals k)) with | true => _ | false => _) = _
    generalize (!(Place (atN .spot goals k))) = b_
    cases b_ <;> rfl
  · simp only [st43_11, decLt_self]
  · have := runTo_any O (fun k => !(Place (atN .spot goals k))) (fun k => ((⟨l, starts, goals, 2, (k : Int)⟩ : S43_11), true)) A hA (stop := fun k => bif !(Place (atN .spot goals k)) then some ((⟨l, starts, goals, 2, (k : Int)⟩ : S43_11), true) else none) (last := ((⟨l, starts, goals, 0, (goals.length : Int)⟩ : S43_11), false)) goals.length 0 (fun j _ _ => rfl)
    rw [this]
    congr 1
    rw [Bool.eq_iff_iff, List.any_eq_true, List.any_eq_true]
    constructor
    · rintro ⟨k, hk, h⟩
      rw [List.mem_range'_1] at hk
      have hk' : k < goals.length := by omega
      exact ⟨goals[k], List.getElem_mem hk', by rw [atN_nat (T := .spot) hk'] at h; exact h⟩
    · rintro ⟨p, hp, h⟩
      obtain ⟨k, hk, rfl⟩ := List.getElem_of_mem hp
      exact ⟨k, by rw [List.mem_range'_1]; omega, by rw [atN_nat (T := .spot) hk]; exact h⟩
theorem fn43 : FnOk 43 Tryd.f43 := ⟨by kernel_rfl, by kernel_rfl, by kernel_rfl, by kernel_rfl⟩
theorem e43 (gl : Gl) (l : List Unit') (starts : List Int) (goals : List Spot) : evFn (cxo gl (mkG [(20, F20), (46, F46), (32, F32)]) (mkO [(85, 0, FOR85 1001)]) none [] rlT [] []) K43 L43 Tryd.f43 [.sl .unit l, .sl .int starts, .sl .spot goals] noObjs = (match (bif (decide ((l.length : Int) > 6)) then true else (decide ((goals.length : Int) > 6))) with | true => an (.tup [.sl .int ([] : List Int), .i .i64 3]) | false => (match (bif ((starts.length : Int) != (l.length : Int)) then true else (decide ((goals.length : Int) > (l.length : Int)))) with | true => an (.tup [.sl .int ([] : List Int), .i .i64 2]) | false => (iter st43_6 (fuel43_6 (⟨l, starts, goals, 0, 0⟩ : S43_6)) (⟨l, starts, goals, 0, 0⟩ : S43_6) fun o6 => (match o6.2 with | true => an (.tup [.sl .int ([] : List Int), .i .i64 o6.1.t7]) | false => (iter st43_11 (fuel43_11 (⟨o6.1.l, o6.1.starts, o6.1.goals, o6.1.t7, 0⟩ : S43_11)) (⟨o6.1.l, o6.1.starts, o6.1.goals, o6.1.t7, 0⟩ : S43_11) fun o11 => (match o11.2 with | true => an (.tup [.sl .int ([] : List Int), .i .i64 o11.1.t7]) | false => (match (okTeam o11.1.l o11.1.starts o11.1.goals && (decide (([] : List Int).length ≤ o11.1.goals.length) && (decide (o11.1.goals.length < ([] : List Int).length + 1001) && (!false || decide (([] : List Int).length = o11.1.goals.length))))) with | true => an (.tup [.sl .int (chRW o11.1.l o11.1.starts o11.1.goals 0 0 ([] : List Int) 0 0 ([] : List Int) false), .i .i64 0]) | false => none))))))) := by kernel_rfl
def F43 : List PV → Option (Bool × PV)
  | [.sl .unit l, .sl .int starts, .sl .spot goals] => some (true, .tup [.sl .int (AsW l starts goals), .i .i64 (AsE l starts goals)])
  | _ => none
theorem s43 {gl : Gl} : Sum gl 43 F43 := by
  intro ps r h
  unfold F43 at h
  split at h
  · rename_i l starts goals
    obtain ⟨hc, rfl⟩ := Prod.mk.inj (Option.some.inj h)
    refine call_byO (K := K43) (L := L43) (bxs := []) (ows := []) (GOk.cons s20 (GOk.cons s46 (GOk.cons s32 (GOk.nil)))) (OOk.cons (soR85 1001) (OOk.nil)) fn43 (l43 gl) (by kernel_rfl) (evF_some ((e43 gl l starts goals).trans ?_))
    unfold AsW AsE
    show (match asLong l goals with | true => _ | false => (match asLen l starts goals with | true => _ | false => _)) = _
    cases h1 : asLong l goals with
    | true => rfl
    | false =>
      have h1' := h1
      unfold asLong at h1'
      obtain ⟨a1, a2⟩ := bif_no h1'
      have a1 := of_decide_eq_false a1
      have a2 := of_decide_eq_false a2
      cases h2 : asLen l starts goals with
      | true =>
        have : asArg l starts goals = true := by unfold asArg; rw [h2]; rfl
        rw [this]
        rfl
      | false =>
        have h2' := h2
        unfold asLen at h2'
        obtain ⟨c1, c2⟩ := bif_no h2'
        have c1 : starts.length = l.length := by
          have : ((starts.length : Int) = (l.length : Int)) := by simpa using c1
          omega
        refine (loop43_6 l starts goals (by omega) c1 _ (an (.tup [.sl .int ([] : List Int), .i .i64 2])) fun k => rfl).trans ?_
        cases h3 : (List.range' 0 l.length).any (asBad l starts) with
        | true =>
          have : asArg l starts goals = true := by unfold asArg; rw [h2, h3]; rfl
          rw [this]
          rfl
        | false =>
          simp only [cond_false]
          refine (loop43_11 l starts goals (by omega) _ (an (.tup [.sl .int ([] : List Int), .i .i64 2])) fun k => rfl).trans ?_
          have e : asArg l starts goals = List.any goals (fun p => !(Place p)) := by unfold asArg; rw [h2, h3]; rfl
          cases h4 : List.any goals (fun p => !(Place p)) with
          | true => rw [e, h4]; rfl
          | false =>
            rw [h4] at e
            have hP := asP h1 e
            rw [e]
            simp only [cond_false, hP.team, Bool.true_and]
            have hg := hP.g6
            have hl := hP.l6
            rw [decide_eq_true (show ([] : List Int).length ≤ goals.length from Nat.zero_le _), decide_eq_true (show goals.length < ([] : List Int).length + 1001 by simp; omega)]
            rfl
  · simp at h
end Go.Proofs.YtnbcmgdogohenaaDoor.Ev
