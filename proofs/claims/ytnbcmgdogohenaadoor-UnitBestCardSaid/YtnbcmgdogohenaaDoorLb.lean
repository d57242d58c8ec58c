/- Summaries of functions, printed by a program out of a list, and what is made of them. -/
import Derived.Test.YtnbcmgdogohenaaDoorLa
set_option linter.unusedVariables false
set_option linter.unusedSimpArgs false
set_option maxRecDepth 100000
namespace Go.Proofs.YtnbcmgdogohenaaDoor.Ev
open Go Go.RowKit Go.Proofs
theorem In_eq (n a b : Int) : In n a b = within n a b := rfl
theorem fn87 : FnOk 87 Tryd.f87 := ⟨by kernel_rfl, by kernel_rfl, by kernel_rfl, by kernel_rfl⟩
def nameByte (c : Int) : Bool := bif (bif (bif (decide (c ≥ 97)) then (decide (c ≤ 122)) else false) then true else (bif (decide (c ≥ 48)) then (decide (c ≤ 57)) else false)) then true else (c == 45)
theorem e87 (gl : Gl) (c : Int) : evFn (cx gl (mkG []) [] []) noK noL Tryd.f87 [.i .u8 c] noObjs = an (.b (bif (bif (bif (decide (c ≥ 97)) then (decide (c ≤ 122)) else false) then true else (bif (decide (c ≥ 48)) then (decide (c ≤ 57)) else false)) then true else (c == 45))) := by kernel_rfl
def F87 : List PV → Option (Bool × PV)
  | [.i .u8 c] => some (true, .b (nameByte c))
  | _ => none
theorem s87 {gl : Gl} : Sum gl 87 F87 := by
  intro ps r h
  unfold F87 at h
  split at h
  · rename_i c
    obtain ⟨hc, rfl⟩ := Prod.mk.inj (Option.some.inj h)
    refine call_by (K := noK) (L := noL) (bxs := []) (ows := []) (GOk.nil) fn87 (noLoops (by kernel_rfl)) (by kernel_rfl) (evF_some ((e87 gl c).trans ?_))
    try unfold nameByte
    rfl
  · simp at h
theorem fn118 : FnOk 118 Tryd.f118 := ⟨by kernel_rfl, by kernel_rfl, by kernel_rfl, by kernel_rfl⟩
theorem e118 (gl : Gl) (c : Int) : evFn (cx gl (mkG [(87, F87)]) [] []) noK noL Tryd.f118 [.i .u8 c, .ptr [.fn (.func 87) [] []] 0] noObjs = an (.b (!(nameByte c))) := by kernel_rfl
def F118 : List PV → Option (Bool × PV)
  | [.i .u8 c, .ptr [.fn (.func 87) [] []] 0] => some (true, .b (!(nameByte c)))
  | _ => none
theorem s118 {gl : Gl} : Sum gl 118 F118 := by
  intro ps r h
  unfold F118 at h
  split at h
  · rename_i c
    obtain ⟨hc, rfl⟩ := Prod.mk.inj (Option.some.inj h)
    refine call_by (K := noK) (L := noL) (bxs := []) (ows := []) (GOk.cons s87 (GOk.nil)) fn118 (noLoops (by kernel_rfl)) (by kernel_rfl) (evF_some ((e118 gl c).trans ?_))
    rfl
  · simp at h
structure S132_2 where
  xs : List Int
  r : Int
  n : Int
  i : Int
def S132_2.enc (s : S132_2) : List PV := [.sl .u8 s.xs, .fn (.func 118) [] [.ptr [.fn (.func 87) [] []] 0], .i .i64 s.r, .i .i64 s.n, .i .i64 s.i]
def S132_2.encH (s : S132_2) : Heap := []
def dec132_2 : List PV → Heap → Option S132_2
  | [.sl .u8 xs_, .fn (.func 118) [] [.ptr [.fn (.func 87) [] []] 0], .i .i64 r_, .i .i64 n_, .i .i64 i_], [] => some ⟨xs_, r_, n_, i_⟩
  | _, _ => none
theorem dec_enc132_2 (vs : List PV) (hs : Heap) (s : S132_2) (h : dec132_2 vs hs = some s) : vs = s.enc ∧ hs = s.encH := by
  unfold dec132_2 at h
  split at h
  · obtain rfl := Option.some.inj h
    exact ⟨rfl, rfl⟩
  · simp at h
def st132_2 {ρ : Type} (s : S132_2) (next : S132_2 → Option ρ) (out : S132_2 × Bool → Option ρ) : Option ρ := (match (decide (s.i < s.n)) with | true => (match (inB s.i s.xs.length) with | true => (match (!(nameByte (atD .u8 s.xs s.i))) with | true => out (⟨s.xs, s.i, s.n, s.i⟩, true) | false => next ⟨s.xs, s.r, s.n, (wr (s.i + 1))⟩) | false => none) | false => out (s, false))
def out132_2 (k : Ex → List PV → Heap → Option R) (o : S132_2 × Bool) : Option R := match o.2 with
  | true => k .ret o.1.enc o.1.encH
  | false => k (.exit 0) o.1.enc o.1.encH
def fuel132_2 (s : S132_2) : Nat := s.xs.length + 1
def K132 : Keep := fun _ => ([0, 1, 4, 7, 8], [])
def L132 : Lam := loopL dec132_2 st132_2 fuel132_2 out132_2
noncomputable def b132_2 : Code := (loopsOf (bodyOf Tryd.f132)).getD 0 .skip
theorem step132_2 (gl : Gl) (j : Nat) (s : S132_2) (k : Ex → List PV → Heap → Option R) : unroll (cx gl (mkG [(118, F118)]) [] []) K132 L132 Tryd.f132.ntmps (Tryd.f132.ntmps + 16) b132_2 (j + 1) s.enc s.encH k = st132_2 s (fun s' => unroll (cx gl (mkG [(118, F118)]) [] []) K132 L132 Tryd.f132.ntmps (Tryd.f132.ntmps + 16) b132_2 j s'.enc s'.encH k) (out132_2 k) := by kernel_rfl
theorem l132 (gl : Gl) : LoopsOk (cx gl (mkG [(118, F118)]) [] []) K132 L132 Tryd.f132.ntmps (Tryd.f132.ntmps + 16) (loopsOf (bodyOf Tryd.f132)) := by
  refine loopsOk_list (l := [b132_2]) (by kernel_rfl) ?_
  exact List.forall_mem_cons.2 ⟨loopOk1 (fuel := fuel132_2) (enc := S132_2.enc) (encH := S132_2.encH) (fun vs hs k => by kernel_rfl) dec_enc132_2 (step132_2 gl ), (fun _ h => by simp at h)⟩
theorem fn132 : FnOk 132 Tryd.f132 := ⟨by kernel_rfl, by kernel_rfl, by kernel_rfl, by kernel_rfl⟩
theorem e132 (gl : Gl) (xs : List Int) : evFn (cx gl (mkG [(118, F118)]) [] []) K132 L132 Tryd.f132 [.sl .u8 xs, .fn (.func 118) [] [.ptr [.fn (.func 87) [] []] 0]] noObjs = (iter st132_2 (fuel132_2 (⟨xs, 0, (xs.length : Int), 0⟩ : S132_2)) (⟨xs, 0, (xs.length : Int), 0⟩ : S132_2) fun o2 => (match o2.2 with | true => an (.i .i64 o2.1.r) | false => an (.i .i64 (-1)))) := by kernel_rfl
def F132 : List PV → Option (Bool × PV)
  | [.sl .u8 xs, .fn (.func 118) [] [.ptr [.fn (.func 87) [] []] 0]] => some ((decide (xs.length ≤ 1000000)), .i .i64 (idxI (fun x => !(nameByte x)) xs))
  | _ => none
theorem s132 {gl : Gl} : Sum gl 132 F132 := by
  intro ps r h
  unfold F132 at h
  split at h
  · rename_i xs
    obtain ⟨hc, rfl⟩ := Prod.mk.inj (Option.some.inj h)
    refine call_by (K := K132) (L := L132) (bxs := []) (ows := []) (GOk.cons s118 (GOk.nil)) fn132 (l132 gl) (by kernel_rfl) (evF_some ((e132 gl xs).trans ?_))
    have hx := of_decide_eq_true hc
    refine (iter_all (step := st132_2) (F := fun k => ⟨xs, 0, xs.length, (k : Int)⟩) (stop := fun k => bif !(nameByte (atN .u8 xs k)) then some (⟨xs, (k : Int), xs.length, (k : Int)⟩, true) else none) (last := (⟨xs, 0, xs.length, (xs.length : Int)⟩, false)) xs.length _ (fun k next hk => ?_) (fun next => ?_) _ (Nat.le_refl _) _ rfl).trans ?_
    · simp only [st132_2, decLt_nat hk, inB_nat hk, wr_succ (show k ≤ 1000000 by omega), atD, Int.toNat_natCast]
      generalize (!(nameByte (atN .u8 xs k))) = b_
      cases b_ <;> rfl
    · simp only [st132_2, decLt_self]
    · rw [runTo_find (fun x => !(nameByte x)) (fun k => (⟨xs, (k : Int), xs.length, (k : Int)⟩, true)) _ _ xs (fun k hk => by rw [atN_nat hk]) xs.length 0 (by omega), List.drop_zero]
      unfold idxI
      cases xs.findIdx? (fun x => !(nameByte x)) with
      | none => rfl
      | some k => simp only [Nat.zero_add]; rfl
  · simp at h
theorem fn117 : FnOk 117 Tryd.f117 := ⟨by kernel_rfl, by kernel_rfl, by kernel_rfl, by kernel_rfl⟩
theorem e117 (gl : Gl) (xs : List Int) : evFn (cx gl (mkG [(132, F132)]) [] []) noK noL Tryd.f117 [.sl .u8 xs, .fn (.func 118) [] [.ptr [.fn (.func 87) [] []] 0]] noObjs = (match (decide (xs.length ≤ 1000000)) with | true => an (.b (decide ((idxI (fun x => !(nameByte x)) xs) ≥ 0))) | false => none) := by kernel_rfl
def F117 : List PV → Option (Bool × PV)
  | [.sl .u8 xs, .fn (.func 118) [] [.ptr [.fn (.func 87) [] []] 0]] => some ((decide (xs.length ≤ 1000000)), .b (List.any xs (fun x => !(nameByte x))))
  | _ => none
theorem s117 {gl : Gl} : Sum gl 117 F117 := by
  intro ps r h
  unfold F117 at h
  split at h
  · rename_i xs
    obtain ⟨hc, rfl⟩ := Prod.mk.inj (Option.some.inj h)
    refine call_by (K := noK) (L := noL) (bxs := []) (ows := []) (GOk.cons s132 (GOk.nil)) fn117 (noLoops (by kernel_rfl)) (by kernel_rfl) (evF_some ((e117 gl xs).trans ?_))
    have hx := of_decide_eq_true hc
    rw [decide_eq_true hx]
    show an (.b (decide (idxI _ xs ≥ 0))) = _
    rw [idxI_any]
    rfl
  · simp at h
theorem fn86 : FnOk 86 Tryd.f86 := ⟨by kernel_rfl, by kernel_rfl, by kernel_rfl, by kernel_rfl⟩
theorem e86 (gl : Gl) (xs : List Int) : evFn (cx gl (mkG [(117, F117)]) [] []) noK noL Tryd.f86 [.sl .u8 xs, .fn (.func 87) [] []] noObjs = (match (decide (xs.length ≤ 1000000)) with | true => an (.b (!(List.any xs (fun x => !(nameByte x))))) | false => none) := by kernel_rfl
def F86 : List PV → Option (Bool × PV)
  | [.sl .u8 xs, .fn (.func 87) [] []] => some ((decide (xs.length ≤ 1000000)), .b (List.all xs (nameByte)))
  | _ => none
theorem s86 {gl : Gl} : Sum gl 86 F86 := by
  intro ps r h
  unfold F86 at h
  split at h
  · rename_i xs
    obtain ⟨hc, rfl⟩ := Prod.mk.inj (Option.some.inj h)
    refine call_by (K := noK) (L := noL) (bxs := []) (ows := []) (GOk.cons s117 (GOk.nil)) fn86 (noLoops (by kernel_rfl)) (by kernel_rfl) (evF_some ((e86 gl xs).trans ?_))
    have hx := of_decide_eq_true hc
    rw [decide_eq_true hx]
    show an (.b (!(xs.any fun x => !((nameByte) x)))) = _
    rw [all_not_any]
    rfl
  · simp at h
theorem bytesOf_len (s : ByteArray) : (bytesOf s).length = s.size := by simp [bytesOf]
theorem byteAt_get (s : ByteArray) (k : Nat) (h : k < s.size) : byteAt s k = (bytesOf s)[k]'(by rw [bytesOf_len]; exact h) := by
  have h' : k < s.data.size := h
  unfold byteAt
  rw [Int.toNat_natCast]
  have : s[k]? = some s.data[k] := by
    show s.data[k]? = _
    simp [h']
  rw [this]
  simp [bytesOf]
def headBad (s : ByteArray) : Bool := bif (bif (!(within (s.size : Int) 1 32)) then true else (decide ((byteAt s 0) < 97))) then true else (decide ((byteAt s 0) > 122))
/-- Is a string a name? -/
def nameS (s : ByteArray) : Bool := !(headBad s) && (bytesOf s).all nameByte
theorem within_size {s : ByteArray} (h : within (s.size : Int) 1 32 = true) : 1 ≤ s.size ∧ s.size ≤ 32 := by
  unfold within at h
  by_cases h1 : (1 : Int) ≤ s.size
  · rw [decide_eq_true h1] at h
    have h2 : (s.size : Int) ≤ 32 := of_decide_eq_true h
    omega
  · rw [decide_eq_false h1] at h
    exact Bool.noConfusion (show false = true from h)
theorem head_tree (s : ByteArray) (t : Option R) (ht : headBad s = false → t = an (.b ((bytesOf s).all nameByte))) : (match ((inB 0 s.size) || ((!(within (s.size : Int) 1 32)) || false)) with | true => (match ((inB 0 s.size) || ((bif (!(within (s.size : Int) 1 32)) then true else (decide ((byteAt s 0) < 97))) || false)) with | true => (match (bif (bif (!(within (s.size : Int) 1 32)) then true else (decide ((byteAt s 0) < 97))) then true else (decide ((byteAt s 0) > 122))) with | true => an (.b false) | false => t) | false => none) | false => none) = an (.b (nameS s)) := by
  have h1 : ((inB 0 s.size) || ((!(within (s.size : Int) 1 32)) || false)) = true := by
    cases hw : within (s.size : Int) 1 32 with
    | false => simp
    | true => rw [show inB 0 s.size = true from inB_nat (k := 0) (by have := within_size hw; omega)]; rfl
  have h2 : ((inB 0 s.size) || ((bif (!(within (s.size : Int) 1 32)) then true else (decide ((byteAt s 0) < 97))) || false)) = true := by
    cases hw : within (s.size : Int) 1 32 with
    | false => simp
    | true => rw [show inB 0 s.size = true from inB_nat (k := 0) (by have := within_size hw; omega)]; rfl
  rw [h1, h2]
  show (match headBad s with | true => an (.b false) | false => t) = _
  unfold nameS
  cases hb : headBad s with
  | true => rfl
  | false => exact ht hb
theorem headBad_size {s : ByteArray} (h : headBad s = false) : s.size ≤ 32 := by
  cases hw : within (s.size : Int) 1 32 with
  | true => exact (within_size hw).2
  | false =>
    unfold headBad at h
    rw [hw] at h
    exact Bool.noConfusion (show true = false from h)
theorem fn51 : FnOk 51 Tryd.f51 := ⟨by kernel_rfl, by kernel_rfl, by kernel_rfl, by kernel_rfl⟩
theorem e51 (gl : Gl) (s : ByteArray) : evFn (cx gl (mkG [(55, F55), (86, F86)]) [] []) noK noL Tryd.f51 [.s s] noObjs = (match ((inB 0 s.size) || ((!(within (s.size : Int) 1 32)) || false)) with | true => (match ((inB 0 s.size) || ((bif (!(within (s.size : Int) 1 32)) then true else (decide ((byteAt s 0) < 97))) || false)) with | true => (match (bif (bif (!(within (s.size : Int) 1 32)) then true else (decide ((byteAt s 0) < 97))) then true else (decide ((byteAt s 0) > 122))) with | true => an (.b false) | false => (match (decide ((bytesOf s).length ≤ 1000000)) with | true => an (.b (List.all (bytesOf s) (nameByte))) | false => none)) | false => none) | false => none) := by kernel_rfl
def F51 : List PV → Option (Bool × PV)
  | [.s s] => some (true, .b (nameS s))
  | _ => none
theorem s51 {gl : Gl} : Sum gl 51 F51 := by
  intro ps r h
  unfold F51 at h
  split at h
  · rename_i s
    obtain ⟨hc, rfl⟩ := Prod.mk.inj (Option.some.inj h)
    refine call_by (K := noK) (L := noL) (bxs := []) (ows := []) (GOk.cons s55 (GOk.cons s86 (GOk.nil))) fn51 (noLoops (by kernel_rfl)) (by kernel_rfl) (evF_some ((e51 gl s).trans ?_))
    exact head_tree s _ fun h => by
      have := headBad_size h
      rw [decide_eq_true (by rw [bytesOf_len]; omega)]
  · simp at h
structure S57_4 where
  s : ByteArray
  t2 : Bool
  i : Int
def S57_4.enc (s : S57_4) : List PV := [.s s.s, .b s.t2, .i .i64 s.i]
def S57_4.encH (s : S57_4) : Heap := []
def dec57_4 : List PV → Heap → Option S57_4
  | [.s s_, .b t2_, .i .i64 i_], [] => some ⟨s_, t2_, i_⟩
  | _, _ => none
theorem dec_enc57_4 (vs : List PV) (hs : Heap) (s : S57_4) (h : dec57_4 vs hs = some s) : vs = s.enc ∧ hs = s.encH := by
  unfold dec57_4 at h
  split at h
  · obtain rfl := Option.some.inj h
    exact ⟨rfl, rfl⟩
  · simp at h
def st57_4 {ρ : Type} (s : S57_4) (next : S57_4 → Option ρ) (out : S57_4 × Bool → Option ρ) : Option ρ := (match (decide (s.i < (s.s.size : Int))) with | true => (match (inB s.i s.s.size) with | true => (match ((inB s.i s.s.size) || ((!(decide ((byteAt s.s s.i) ≥ 97))) || false)) with | true => (match (inB s.i s.s.size) with | true => (match ((inB s.i s.s.size) || ((!(decide ((byteAt s.s s.i) ≥ 48))) || false)) with | true => (match ((inB s.i s.s.size) || ((!(bif (!(bif (decide ((byteAt s.s s.i) ≥ 97)) then (decide ((byteAt s.s s.i) ≤ 122)) else false)) then (!(bif (decide ((byteAt s.s s.i) ≥ 48)) then (decide ((byteAt s.s s.i) ≤ 57)) else false)) else false)) || false)) with | true => (match (bif (bif (!(bif (decide ((byteAt s.s s.i) ≥ 97)) then (decide ((byteAt s.s s.i) ≤ 122)) else false)) then (!(bif (decide ((byteAt s.s s.i) ≥ 48)) then (decide ((byteAt s.s s.i) ≤ 57)) else false)) else false) then ((byteAt s.s s.i) != 45) else false) with | true => out (⟨s.s, false, s.i⟩, true) | false => next ⟨s.s, s.t2, (wr (s.i + 1))⟩) | false => none) | false => none) | false => none) | false => none) | false => none) | false => out (s, false))
def out57_4 (k : Ex → List PV → Heap → Option R) (o : S57_4 × Bool) : Option R := match o.2 with
  | true => k .ret o.1.enc o.1.encH
  | false => k (.exit 0) o.1.enc o.1.encH
def fuel57_4 (s : S57_4) : Nat := s.s.size + 1
def K57 : Keep := fun _ => ([0, 2, 3], [])
def L57 : Lam := loopL dec57_4 st57_4 fuel57_4 out57_4
noncomputable def b57_4 : Code := (loopsOf (bodyOf Tryd.f57)).getD 0 .skip
theorem step57_4 (gl : Gl) (j : Nat) (s : S57_4) (k : Ex → List PV → Heap → Option R) : unroll (cx gl (mkG [(69, F69)]) [] []) K57 L57 Tryd.f57.ntmps (Tryd.f57.ntmps + 16) b57_4 (j + 1) s.enc s.encH k = st57_4 s (fun s' => unroll (cx gl (mkG [(69, F69)]) [] []) K57 L57 Tryd.f57.ntmps (Tryd.f57.ntmps + 16) b57_4 j s'.enc s'.encH k) (out57_4 k) := by kernel_rfl
theorem l57 (gl : Gl) : LoopsOk (cx gl (mkG [(69, F69)]) [] []) K57 L57 Tryd.f57.ntmps (Tryd.f57.ntmps + 16) (loopsOf (bodyOf Tryd.f57)) := by
  refine loopsOk_list (l := [b57_4]) (by kernel_rfl) ?_
  exact List.forall_mem_cons.2 ⟨loopOk1 (fuel := fuel57_4) (enc := S57_4.enc) (encH := S57_4.encH) (fun vs hs k => by kernel_rfl) dec_enc57_4 (step57_4 gl ), (fun _ h => by simp at h)⟩
theorem loop57 (s : ByteArray) (hs : s.size ≤ 32) : (iter st57_4 (fuel57_4 (⟨s, false, 0⟩ : S57_4)) (⟨s, false, 0⟩ : S57_4) fun o4 => (match o4.2 with | true => an (.b o4.1.t2) | false => an (.b true))) = an (.b ((bytesOf s).all nameByte)) := by
  refine (iter_all (step := st57_4) (F := fun k => ⟨s, false, (k : Int)⟩) (stop := fun k => bif !(nameByte (byteAt s k)) then some (⟨s, false, (k : Int)⟩, true) else none) (last := (⟨s, false, (s.size : Int)⟩, false)) s.size _ (fun k next hk => ?_) (fun next => ?_) _ (Nat.le_refl _) _ rfl).trans ?_
  · simp only [st57_4, decLt_nat hk, inB_nat hk, Bool.true_or, wr_succ (show k ≤ 1000000 by omega)]
    unfold nameByte
    generalize byteAt s k = c
    by_cases h1 : c ≥ 97 <;> by_cases h2 : c ≤ 122 <;> by_cases h3 : c ≥ 48 <;> by_cases h4 : c ≤ 57 <;> cases h5 : c == 45 <;> simp [h1, h2, h3, h4, h5, bne]
  · simp only [st57_4, decLt_self]
  · have hl : (bytesOf s).length = s.size := bytesOf_len s
    rw [← hl, runTo_find (fun x => !(nameByte x)) (fun k => ((⟨s, false, (k : Int)⟩ : S57_4), true)) _ _ (bytesOf s) (fun k hk => by rw [byteAt_get s k (by rw [← hl]; exact hk)]) (bytesOf s).length 0 (by omega), List.drop_zero, ← all_not_any]
    have hf := find_any (fun x => !(nameByte x)) (bytesOf s) false true
    cases h : (bytesOf s).findIdx? (fun x => !(nameByte x)) with
    | none => rw [h] at hf; cases ha : (bytesOf s).any (fun x => !(nameByte x)) <;> rw [ha] at hf <;> first | rfl | (simp at hf)
    | some k => rw [h] at hf; cases ha : (bytesOf s).any (fun x => !(nameByte x)) <;> rw [ha] at hf <;> first | rfl | (simp at hf)
theorem fn57 : FnOk 57 Tryd.f57 := ⟨by kernel_rfl, by kernel_rfl, by kernel_rfl, by kernel_rfl⟩
theorem e57 (gl : Gl) (s : ByteArray) : evFn (cx gl (mkG [(69, F69)]) [] []) K57 L57 Tryd.f57 [.s s] noObjs = (match ((inB 0 s.size) || ((!(In (s.size : Int) 1 32)) || false)) with | true => (match ((inB 0 s.size) || ((bif (!(In (s.size : Int) 1 32)) then true else (decide ((byteAt s 0) < 97))) || false)) with | true => (match (bif (bif (!(In (s.size : Int) 1 32)) then true else (decide ((byteAt s 0) < 97))) then true else (decide ((byteAt s 0) > 122))) with | true => an (.b false) | false => (iter st57_4 (fuel57_4 (⟨s, false, 0⟩ : S57_4)) (⟨s, false, 0⟩ : S57_4) fun o4 => (match o4.2 with | true => an (.b o4.1.t2) | false => an (.b true)))) | false => none) | false => none) := by kernel_rfl
def F57 : List PV → Option (Bool × PV)
  | [.s s] => some (true, .b (nameS s))
  | _ => none
theorem s57 {gl : Gl} : Sum gl 57 F57 := by
  intro ps r h
  unfold F57 at h
  split at h
  · rename_i s
    obtain ⟨hc, rfl⟩ := Prod.mk.inj (Option.some.inj h)
    refine call_by (K := K57) (L := L57) (bxs := []) (ows := []) (GOk.cons s69 (GOk.nil)) fn57 (l57 gl) (by kernel_rfl) (evF_some ((e57 gl s).trans ?_))
    exact head_tree s _ fun h => loop57 s (headBad_size h)
  · simp at h
theorem fn59 : FnOk 59 Tryd.f59 := ⟨by kernel_rfl, by kernel_rfl, by kernel_rfl, by kernel_rfl⟩
def frontOk (x : Front) : Bool := bif (bif (bif (bif (bif (timed x.fr) then (timed x.to_) else false) then (decide (x.fr ≤ x.to_)) else false) then (bif (bif (bif (placed x.low) then (placed x.high) else false) then (decide (x.low.x ≤ x.high.x)) else false) then (decide (x.low.y ≤ x.high.y)) else false) else false) then (within x.sea 0 100) else false) then (within x.wind 0 100) else false
theorem e59 (gl : Gl) (x : Front) : evFn (cx gl (mkG [(52, F52), (48, F48), (55, F55)]) [] []) noK noL Tryd.f59 [.agg [.i .i64 x.fr, .i .i64 x.to_, .i .i64 x.low.x, .i .i64 x.low.y, .i .i64 x.high.x, .i .i64 x.high.y, .i .i64 x.sea, .i .i64 x.wind]] noObjs = an (.b (bif (bif (bif (bif (bif (timed x.fr) then (timed x.to_) else false) then (decide (x.fr ≤ x.to_)) else false) then (bif (bif (bif (placed x.low) then (placed x.high) else false) then (decide (x.low.x ≤ x.high.x)) else false) then (decide (x.low.y ≤ x.high.y)) else false) else false) then (within x.sea 0 100) else false) then (within x.wind 0 100) else false)) := by kernel_rfl
def F59 : List PV → Option (Bool × PV)
  | [.agg xL] => (ETy.dec .front xL).bind fun x => some (true, .b (frontOk x))
  | _ => none
theorem s59 {gl : Gl} : Sum gl 59 F59 := by
  intro ps r h
  unfold F59 at h
  split at h
  · rename_i xL
    obtain ⟨x, hx, h_x⟩ := Option.bind_eq_some_iff.1 h
    obtain rfl := dec_is (by simp) hx
    obtain ⟨hc, rfl⟩ := Prod.mk.inj (Option.some.inj h_x)
    refine call_by (K := noK) (L := noL) (bxs := []) (ows := []) (GOk.cons s52 (GOk.cons s48 (GOk.cons s55 (GOk.nil)))) fn59 (noLoops (by kernel_rfl)) (by kernel_rfl) (evF_some ((e59 gl x).trans ?_))
    try unfold frontOk
    rfl
  · simp at h
theorem fn91 : FnOk 91 Tryd.f91 := ⟨by kernel_rfl, by kernel_rfl, by kernel_rfl, by kernel_rfl⟩
theorem e91 (gl : Gl) (x : Front) : evFn (cx gl (mkG [(59, F59)]) [] []) noK noL Tryd.f91 [.agg [.i .i64 x.fr, .i .i64 x.to_, .i .i64 x.low.x, .i .i64 x.low.y, .i .i64 x.high.x, .i .i64 x.high.y, .i .i64 x.sea, .i .i64 x.wind], .ptr [.fn (.func 59) [] []] 0] noObjs = an (.b (!(frontOk x))) := by kernel_rfl
def F91 : List PV → Option (Bool × PV)
  | [.agg xL, .ptr [.fn (.func 59) [] []] 0] => (ETy.dec .front xL).bind fun x => some (true, .b (!(frontOk x)))
  | _ => none
theorem s91 {gl : Gl} : Sum gl 91 F91 := by
  intro ps r h
  unfold F91 at h
  split at h
  · rename_i xL
    obtain ⟨x, hx, h_x⟩ := Option.bind_eq_some_iff.1 h
    obtain rfl := dec_is (by simp) hx
    obtain ⟨hc, rfl⟩ := Prod.mk.inj (Option.some.inj h_x)
    refine call_by (K := noK) (L := noL) (bxs := []) (ows := []) (GOk.cons s59 (GOk.nil)) fn91 (noLoops (by kernel_rfl)) (by kernel_rfl) (evF_some ((e91 gl x).trans ?_))
    rfl
  · simp at h
structure S120_2 where
  xs : List Front
  r : Int
  n : Int
  i : Int
def S120_2.enc (s : S120_2) : List PV := [.sl .front s.xs, .fn (.func 91) [] [.ptr [.fn (.func 59) [] []] 0], .i .i64 s.r, .i .i64 s.n, .i .i64 s.i]
def S120_2.encH (s : S120_2) : Heap := []
def dec120_2 : List PV → Heap → Option S120_2
  | [.sl .front xs_, .fn (.func 91) [] [.ptr [.fn (.func 59) [] []] 0], .i .i64 r_, .i .i64 n_, .i .i64 i_], [] => some ⟨xs_, r_, n_, i_⟩
  | _, _ => none
theorem dec_enc120_2 (vs : List PV) (hs : Heap) (s : S120_2) (h : dec120_2 vs hs = some s) : vs = s.enc ∧ hs = s.encH := by
  unfold dec120_2 at h
  split at h
  · obtain rfl := Option.some.inj h
    exact ⟨rfl, rfl⟩
  · simp at h
def st120_2 {ρ : Type} (s : S120_2) (next : S120_2 → Option ρ) (out : S120_2 × Bool → Option ρ) : Option ρ := (match (decide (s.i < s.n)) with | true => (match (inB s.i s.xs.length) with | true => (match (!(frontOk (atD .front s.xs s.i))) with | true => out (⟨s.xs, s.i, s.n, s.i⟩, true) | false => next ⟨s.xs, s.r, s.n, (wr (s.i + 1))⟩) | false => none) | false => out (s, false))
def out120_2 (k : Ex → List PV → Heap → Option R) (o : S120_2 × Bool) : Option R := match o.2 with
  | true => k .ret o.1.enc o.1.encH
  | false => k (.exit 0) o.1.enc o.1.encH
def fuel120_2 (s : S120_2) : Nat := s.xs.length + 1
def K120 : Keep := fun _ => ([0, 1, 4, 7, 8], [])
def L120 : Lam := loopL dec120_2 st120_2 fuel120_2 out120_2
noncomputable def b120_2 : Code := (loopsOf (bodyOf Tryd.f120)).getD 0 .skip
theorem step120_2 (gl : Gl) (j : Nat) (s : S120_2) (k : Ex → List PV → Heap → Option R) : unroll (cx gl (mkG [(91, F91)]) [] []) K120 L120 Tryd.f120.ntmps (Tryd.f120.ntmps + 16) b120_2 (j + 1) s.enc s.encH k = st120_2 s (fun s' => unroll (cx gl (mkG [(91, F91)]) [] []) K120 L120 Tryd.f120.ntmps (Tryd.f120.ntmps + 16) b120_2 j s'.enc s'.encH k) (out120_2 k) := by kernel_rfl
theorem l120 (gl : Gl) : LoopsOk (cx gl (mkG [(91, F91)]) [] []) K120 L120 Tryd.f120.ntmps (Tryd.f120.ntmps + 16) (loopsOf (bodyOf Tryd.f120)) := by
  refine loopsOk_list (l := [b120_2]) (by kernel_rfl) ?_
  exact List.forall_mem_cons.2 ⟨loopOk1 (fuel := fuel120_2) (enc := S120_2.enc) (encH := S120_2.encH) (fun vs hs k => by kernel_rfl) dec_enc120_2 (step120_2 gl ), (fun _ h => by simp at h)⟩
theorem fn120 : FnOk 120 Tryd.f120 := ⟨by kernel_rfl, by kernel_rfl, by kernel_rfl, by kernel_rfl⟩
theorem e120 (gl : Gl) (xs : List Front) : evFn (cx gl (mkG [(91, F91)]) [] []) K120 L120 Tryd.f120 [.sl .front xs, .fn (.func 91) [] [.ptr [.fn (.func 59) [] []] 0]] noObjs = (iter st120_2 (fuel120_2 (⟨xs, 0, (xs.length : Int), 0⟩ : S120_2)) (⟨xs, 0, (xs.length : Int), 0⟩ : S120_2) fun o2 => (match o2.2 with | true => an (.i .i64 o2.1.r) | false => an (.i .i64 (-1)))) := by kernel_rfl
def F120 : List PV → Option (Bool × PV)
  | [.sl .front xs, .fn (.func 91) [] [.ptr [.fn (.func 59) [] []] 0]] => some ((decide (xs.length ≤ 1000000)), .i .i64 (idxI (fun x => !(frontOk x)) xs))
  | _ => none
theorem s120 {gl : Gl} : Sum gl 120 F120 := by
  intro ps r h
  unfold F120 at h
  split at h
  · rename_i xs
    obtain ⟨hc, rfl⟩ := Prod.mk.inj (Option.some.inj h)
    refine call_by (K := K120) (L := L120) (bxs := []) (ows := []) (GOk.cons s91 (GOk.nil)) fn120 (l120 gl) (by kernel_rfl) (evF_some ((e120 gl xs).trans ?_))
    have hx := of_decide_eq_true hc
    refine (iter_all (step := st120_2) (F := fun k => ⟨xs, 0, xs.length, (k : Int)⟩) (stop := fun k => bif !(frontOk (atN .front xs k)) then some (⟨xs, (k : Int), xs.length, (k : Int)⟩, true) else none) (last := (⟨xs, 0, xs.length, (xs.length : Int)⟩, false)) xs.length _ (fun k next hk => ?_) (fun next => ?_) _ (Nat.le_refl _) _ rfl).trans ?_
    · simp only [st120_2, decLt_nat hk, inB_nat hk, wr_succ (show k ≤ 1000000 by omega), atD, Int.toNat_natCast]
      generalize (!(frontOk (atN .front xs k))) = b_
      cases b_ <;> rfl
    · simp only [st120_2, decLt_self]
    · rw [runTo_find (fun x => !(frontOk x)) (fun k => (⟨xs, (k : Int), xs.length, (k : Int)⟩, true)) _ _ xs (fun k hk => by rw [atN_nat hk]) xs.length 0 (by omega), List.drop_zero]
      unfold idxI
      cases xs.findIdx? (fun x => !(frontOk x)) with
      | none => rfl
      | some k => simp only [Nat.zero_add]; rfl
  · simp at h
theorem fn90 : FnOk 90 Tryd.f90 := ⟨by kernel_rfl, by kernel_rfl, by kernel_rfl, by kernel_rfl⟩
theorem e90 (gl : Gl) (xs : List Front) : evFn (cx gl (mkG [(120, F120)]) [] []) noK noL Tryd.f90 [.sl .front xs, .fn (.func 91) [] [.ptr [.fn (.func 59) [] []] 0]] noObjs = (match (decide (xs.length ≤ 1000000)) with | true => an (.b (decide ((idxI (fun x => !(frontOk x)) xs) ≥ 0))) | false => none) := by kernel_rfl
def F90 : List PV → Option (Bool × PV)
  | [.sl .front xs, .fn (.func 91) [] [.ptr [.fn (.func 59) [] []] 0]] => some ((decide (xs.length ≤ 1000000)), .b (List.any xs (fun x => !(frontOk x))))
  | _ => none
theorem s90 {gl : Gl} : Sum gl 90 F90 := by
  intro ps r h
  unfold F90 at h
  split at h
  · rename_i xs
    obtain ⟨hc, rfl⟩ := Prod.mk.inj (Option.some.inj h)
    refine call_by (K := noK) (L := noL) (bxs := []) (ows := []) (GOk.cons s120 (GOk.nil)) fn90 (noLoops (by kernel_rfl)) (by kernel_rfl) (evF_some ((e90 gl xs).trans ?_))
    have hx := of_decide_eq_true hc
    rw [decide_eq_true hx]
    show an (.b (decide (idxI _ xs ≥ 0))) = _
    rw [idxI_any]
    rfl
  · simp at h
theorem fn58 : FnOk 58 Tryd.f58 := ⟨by kernel_rfl, by kernel_rfl, by kernel_rfl, by kernel_rfl⟩
theorem e58 (gl : Gl) (xs : List Front) : evFn (cx gl (mkG [(90, F90)]) [] []) noK noL Tryd.f58 [.sl .front xs, .fn (.func 59) [] []] noObjs = (match (decide (xs.length ≤ 1000000)) with | true => an (.b (!(List.any xs (fun x => !(frontOk x))))) | false => none) := by kernel_rfl
def F58 : List PV → Option (Bool × PV)
  | [.sl .front xs, .fn (.func 59) [] []] => some ((decide (xs.length ≤ 1000000)), .b (List.all xs (frontOk)))
  | _ => none
theorem s58 {gl : Gl} : Sum gl 58 F58 := by
  intro ps r h
  unfold F58 at h
  split at h
  · rename_i xs
    obtain ⟨hc, rfl⟩ := Prod.mk.inj (Option.some.inj h)
    refine call_by (K := noK) (L := noL) (bxs := []) (ows := []) (GOk.cons s90 (GOk.nil)) fn58 (noLoops (by kernel_rfl)) (by kernel_rfl) (evF_some ((e58 gl xs).trans ?_))
    have hx := of_decide_eq_true hc
    rw [decide_eq_true hx]
    show an (.b (!(xs.any fun x => !((frontOk) x)))) = _
    rw [all_not_any]
    rfl
  · simp at h
def skyOk (l : List Front) : Bool := decide ((l.length : Int) ≤ 100) && l.all frontOk
def unitOk (u : Unit') : Bool := bif (bif (bif (bif (bif (nameS u.name) then (bif (In u.speed 1 1000000) then (In u.burn 0 1048576) else false) else false) then (bif (In u.fuel 0 1073741824) then (In u.reserve 0 u.fuel) else false) else false) then (bif (bif (bif (In u.sea 0 100) then (In u.wind 0 100) else false) then (In u.margin 0 100000) else false) then (In u.level 0 100) else false) else false) then (Time u.hours) else false) then (Place u.base) else false
theorem fn21 : FnOk 21 Tryd.f21 := ⟨by kernel_rfl, by kernel_rfl, by kernel_rfl, by kernel_rfl⟩
theorem e21 (gl : Gl) (l : List Front) : evFn (cx gl (mkG [(58, F58)]) [] []) noK noL Tryd.f21 [.sl .front l] noObjs = (match ((decide (l.length ≤ 1000000)) || ((!(decide ((l.length : Int) ≤ 100))) || false)) with | true => an (.b (bif (decide ((l.length : Int) ≤ 100)) then (List.all l (frontOk)) else false)) | false => none) := by kernel_rfl
def F21 : List PV → Option (Bool × PV)
  | [.sl .front l] => some (true, .b (skyOk l))
  | _ => none
theorem s21 {gl : Gl} : Sum gl 21 F21 := by
  intro ps r h
  unfold F21 at h
  split at h
  · rename_i l
    obtain ⟨hc, rfl⟩ := Prod.mk.inj (Option.some.inj h)
    refine call_by (K := noK) (L := noL) (bxs := []) (ows := []) (GOk.cons s58 (GOk.nil)) fn21 (noLoops (by kernel_rfl)) (by kernel_rfl) (evF_some ((e21 gl l).trans ?_))
    have key : ((decide (l.length ≤ 1000000)) || ((!(decide ((l.length : Int) ≤ 100))) || false)) = true := by
      by_cases h : (l.length : Int) ≤ 100
      · rw [decide_eq_true (show l.length ≤ 1000000 by omega)]; rfl
      · rw [decide_eq_false h]; simp
    rw [key]
    unfold skyOk
    cases decide ((l.length : Int) ≤ 100) <;> rfl
  · simp at h
structure S22_2 where
  l : List Front
  t2 : Bool
  i : Int
def S22_2.enc (s : S22_2) : List PV := [.sl .front s.l, .b s.t2, .i .i64 s.i]
def S22_2.encH (s : S22_2) : Heap := []
def dec22_2 : List PV → Heap → Option S22_2
  | [.sl .front l_, .b t2_, .i .i64 i_], [] => some ⟨l_, t2_, i_⟩
  | _, _ => none
theorem dec_enc22_2 (vs : List PV) (hs : Heap) (s : S22_2) (h : dec22_2 vs hs = some s) : vs = s.enc ∧ hs = s.encH := by
  unfold dec22_2 at h
  split at h
  · obtain rfl := Option.some.inj h
    exact ⟨rfl, rfl⟩
  · simp at h
def st22_2 {ρ : Type} (s : S22_2) (next : S22_2 → Option ρ) (out : S22_2 × Bool → Option ρ) : Option ρ := (match (decide (s.i < (s.l.length : Int))) with | true => (match (inB s.i s.l.length) with | true => (match (bif (bif (bif (!(bif (bif (Time ((atD .front s.l s.i).fr)) then (Time ((atD .front s.l s.i).to_)) else false) then (decide (((atD .front s.l s.i).fr) ≤ ((atD .front s.l s.i).to_))) else false)) then true else (!(bif (bif (bif (Place ((atD .front s.l s.i).low)) then (Place ((atD .front s.l s.i).high)) else false) then (decide (((atD .front s.l s.i).low.x) ≤ ((atD .front s.l s.i).high.x))) else false) then (decide (((atD .front s.l s.i).low.y) ≤ ((atD .front s.l s.i).high.y))) else false))) then true else (!(In ((atD .front s.l s.i).sea) 0 100))) then true else (!(In ((atD .front s.l s.i).wind) 0 100))) with | true => out (⟨s.l, false, s.i⟩, true) | false => next ⟨s.l, s.t2, (wr (s.i + 1))⟩) | false => none) | false => out (s, false))
def out22_2 (k : Ex → List PV → Heap → Option R) (o : S22_2 × Bool) : Option R := match o.2 with
  | true => k .ret o.1.enc o.1.encH
  | false => k (.exit 0) o.1.enc o.1.encH
def fuel22_2 (s : S22_2) : Nat := s.l.length + 1
def K22 : Keep := fun _ => ([0, 2, 3], [])
def L22 : Lam := loopL dec22_2 st22_2 fuel22_2 out22_2
noncomputable def b22_2 : Code := (loopsOf (bodyOf Tryd.f22)).getD 0 .skip
theorem step22_2 (gl : Gl) (j : Nat) (s : S22_2) (k : Ex → List PV → Heap → Option R) : unroll (cx gl (mkG [(46, F46), (32, F32), (56, F56)]) [] []) K22 L22 Tryd.f22.ntmps (Tryd.f22.ntmps + 16) b22_2 (j + 1) s.enc s.encH k = st22_2 s (fun s' => unroll (cx gl (mkG [(46, F46), (32, F32), (56, F56)]) [] []) K22 L22 Tryd.f22.ntmps (Tryd.f22.ntmps + 16) b22_2 j s'.enc s'.encH k) (out22_2 k) := by kernel_rfl
theorem l22 (gl : Gl) : LoopsOk (cx gl (mkG [(46, F46), (32, F32), (56, F56)]) [] []) K22 L22 Tryd.f22.ntmps (Tryd.f22.ntmps + 16) (loopsOf (bodyOf Tryd.f22)) := by
  refine loopsOk_list (l := [b22_2]) (by kernel_rfl) ?_
  exact List.forall_mem_cons.2 ⟨loopOk1 (fuel := fuel22_2) (enc := S22_2.enc) (encH := S22_2.encH) (fun vs hs k => by kernel_rfl) dec_enc22_2 (step22_2 gl ), (fun _ h => by simp at h)⟩
theorem Time_eq (n : Int) : Time n = timed n := rfl
theorem Place_eq (p : Spot) : Place p = placed p := rfl
def bad22 (x : Front) : Bool := bif (bif (bif (!(bif (bif (Time (x.fr)) then (Time (x.to_)) else false) then (decide ((x.fr) ≤ (x.to_))) else false)) then true else (!(bif (bif (bif (Place (x.low)) then (Place (x.high)) else false) then (decide ((x.low.x) ≤ (x.high.x))) else false) then (decide ((x.low.y) ≤ (x.high.y))) else false))) then true else (!(In (x.sea) 0 100))) then true else (!(In (x.wind) 0 100))
theorem bad22_eq (x : Front) : bad22 x = !(frontOk x) := by
  simp only [bad22, frontOk, Time_eq, Place_eq, In_eq, bif_f, bif_t, Bool.not_and, Bool.not_or, Bool.not_not, Bool.and_assoc, Bool.or_assoc]
theorem loop22 (l : List Front) (hx : l.length ≤ 1000000)  : (iter st22_2 (fuel22_2 (⟨l, false, 0⟩ : S22_2)) (⟨l, false, 0⟩ : S22_2) fun o2 => (match o2.2 with | true => an (.b o2.1.t2) | false => an (.b (decide ((o2.1.l.length : Int) ≤ 100))))) = bif List.any l (fun x => !(frontOk x)) then an (.b false) else an (.b (decide ((l.length : Int) ≤ 100))) := by
  refine (iter_all (step := st22_2) (F := fun k => (⟨l, false, (k : Int)⟩ : S22_2)) (stop := fun k => bif !(frontOk (atN .front l k)) then some ((⟨l, false, (k : Int)⟩ : S22_2), true) else none) (last := ((⟨l, false, (l.length : Int)⟩ : S22_2), false)) l.length _ (fun k next hk => ?_) (fun next => ?_) _ (Nat.le_refl _) _ rfl).trans ?_
  · simp only [st22_2, decLt_nat hk, inB_nat hk, wr_succ (show k ≤ 1000000 by omega), atD, Int.toNat_natCast, Bool.true_or]
    show (match bad22 (atN .front l k) with | true => _ | false => _) = _
    rw [bad22_eq]
    generalize (!(frontOk (atN .front l k))) = b_
    cases b_ <;> rfl
  · simp only [st22_2, decLt_self]
  · rw [runTo_find (fun x => !(frontOk x)) (fun k => ((⟨l, false, (k : Int)⟩ : S22_2), true)) _ _ l (fun k hk => by rw [atN_nat hk]) l.length 0 (by omega), List.drop_zero, ← find_any (fun x => !(frontOk x)) l]
    cases List.findIdx? (fun x => !(frontOk x)) l with
    | none => rfl
    | some k => rfl
theorem fn22 : FnOk 22 Tryd.f22 := ⟨by kernel_rfl, by kernel_rfl, by kernel_rfl, by kernel_rfl⟩
theorem e22 (gl : Gl) (l : List Front) : evFn (cx gl (mkG [(46, F46), (32, F32), (56, F56)]) [] []) K22 L22 Tryd.f22 [.sl .front l] noObjs = (iter st22_2 (fuel22_2 (⟨l, false, 0⟩ : S22_2)) (⟨l, false, 0⟩ : S22_2) fun o2 => (match o2.2 with | true => an (.b o2.1.t2) | false => an (.b (decide ((o2.1.l.length : Int) ≤ 100))))) := by kernel_rfl
def F22 : List PV → Option (Bool × PV)
  | [.sl .front l] => some ((decide (l.length ≤ 1000000)), .b (skyOk l))
  | _ => none
theorem s22 {gl : Gl} : Sum gl 22 F22 := by
  intro ps r h
  unfold F22 at h
  split at h
  · rename_i l
    obtain ⟨hc, rfl⟩ := Prod.mk.inj (Option.some.inj h)
    refine call_by (K := K22) (L := L22) (bxs := []) (ows := []) (GOk.cons s46 (GOk.cons s32 (GOk.cons s56 (GOk.nil)))) fn22 (l22 gl) (by kernel_rfl) (evF_some ((e22 gl l).trans ?_))
    refine (loop22 l (of_decide_eq_true hc)).trans ?_
    unfold skyOk
    rw [← all_not_any]
    cases List.any l (fun x => !(frontOk x)) <;> cases decide ((l.length : Int) ≤ 100) <;> rfl
  · simp at h
theorem fn20 : FnOk 20 Tryd.f20 := ⟨by kernel_rfl, by kernel_rfl, by kernel_rfl, by kernel_rfl⟩
theorem e20 (gl : Gl) (u : Unit') : evFn (cx gl (mkG [(56, F56), (57, F57), (46, F46), (32, F32)]) [] []) noK noL Tryd.f20 [.agg [.s u.name, .i .i64 u.speed, .i .i64 u.fuel, .i .i64 u.burn, .i .i64 u.reserve, .i .i64 u.hours, .i .i64 u.sea, .i .i64 u.wind, .i .i64 u.base.x, .i .i64 u.base.y, .i .i64 u.margin, .i .i64 u.level]] noObjs = an (.b (bif (bif (bif (bif (bif (nameS u.name) then (bif (In u.speed 1 1000000) then (In u.burn 0 1048576) else false) else false) then (bif (In u.fuel 0 1073741824) then (In u.reserve 0 u.fuel) else false) else false) then (bif (bif (bif (In u.sea 0 100) then (In u.wind 0 100) else false) then (In u.margin 0 100000) else false) then (In u.level 0 100) else false) else false) then (Time u.hours) else false) then (Place u.base) else false)) := by kernel_rfl
def F20 : List PV → Option (Bool × PV)
  | [.agg uL] => (ETy.dec .unit uL).bind fun u => some (true, .b (unitOk u))
  | _ => none
theorem s20 {gl : Gl} : Sum gl 20 F20 := by
  intro ps r h
  unfold F20 at h
  split at h
  · rename_i uL
    obtain ⟨u, hu, h_u⟩ := Option.bind_eq_some_iff.1 h
    obtain rfl := dec_is (by simp) hu
    obtain ⟨hc, rfl⟩ := Prod.mk.inj (Option.some.inj h_u)
    refine call_by (K := noK) (L := noL) (bxs := []) (ows := []) (GOk.cons s56 (GOk.cons s57 (GOk.cons s46 (GOk.cons s32 (GOk.nil))))) fn20 (noLoops (by kernel_rfl)) (by kernel_rfl) (evF_some ((e20 gl u).trans ?_))
    rfl
  · simp at h
theorem unit_tree (u : Unit') : (match (bif (bif (!(nameS u.name)) then true else (!(placed u.base))) then true else (!(timed u.hours))) with | true => an (.b false) | false => (match (decide (([⟨u.speed, 1, 1000000⟩, ⟨u.fuel, 0, 1073741824⟩, ⟨u.burn, 0, 1048576⟩, ⟨u.reserve, 0, u.fuel⟩, ⟨u.sea, 0, 100⟩, ⟨u.wind, 0, 100⟩, ⟨u.margin, 0, 100000⟩, ⟨u.level, 0, 100⟩] : List Arr3).length ≤ 1000000)) with | true => an (.b (List.all ([⟨u.speed, 1, 1000000⟩, ⟨u.fuel, 0, 1073741824⟩, ⟨u.burn, 0, 1048576⟩, ⟨u.reserve, 0, u.fuel⟩, ⟨u.sea, 0, 100⟩, ⟨u.wind, 0, 100⟩, ⟨u.margin, 0, 100000⟩, ⟨u.level, 0, 100⟩] : List Arr3) (lim3))) | false => none)) = an (.b (unitOk u)) := by
  have h8 : ∀ a b c d e f g h : Arr3, decide (([a, b, c, d, e, f, g, h] : List Arr3).length ≤ 1000000) = true := fun _ _ _ _ _ _ _ _ => rfl
  rw [h8]
  simp only [unitOk, lim3, List.all_cons, List.all_nil, Time_eq, Place_eq, In_eq, bif_f, bif_t, Bool.and_true]
  generalize nameS u.name = a
  generalize placed u.base = b
  generalize timed u.hours = c
  generalize within u.speed 1 1000000 = d
  generalize within u.fuel 0 1073741824 = e
  generalize within u.burn 0 1048576 = f
  generalize within u.reserve 0 u.fuel = g
  generalize within u.sea 0 100 = h
  generalize within u.wind 0 100 = i
  generalize within u.margin 0 100000 = j
  generalize within u.level 0 100 = k
  cases a <;> cases b <;> cases c <;> simp [an] <;> cases d <;> cases e <;> cases f <;> cases g <;> simp [Bool.and_assoc]
theorem fn19 : FnOk 19 Tryd.f19 := ⟨by kernel_rfl, by kernel_rfl, by kernel_rfl, by kernel_rfl⟩
theorem e19 (gl : Gl) (u : Unit') : evFn (cx gl (mkG [(51, F51), (48, F48), (52, F52), (53, F53)]) [] []) noK noL Tryd.f19 [.agg [.s u.name, .i .i64 u.speed, .i .i64 u.fuel, .i .i64 u.burn, .i .i64 u.reserve, .i .i64 u.hours, .i .i64 u.sea, .i .i64 u.wind, .i .i64 u.base.x, .i .i64 u.base.y, .i .i64 u.margin, .i .i64 u.level]] noObjs = (match (bif (bif (!(nameS u.name)) then true else (!(placed u.base))) then true else (!(timed u.hours))) with | true => an (.b false) | false => (match (decide (([⟨u.speed, 1, 1000000⟩, ⟨u.fuel, 0, 1073741824⟩, ⟨u.burn, 0, 1048576⟩, ⟨u.reserve, 0, u.fuel⟩, ⟨u.sea, 0, 100⟩, ⟨u.wind, 0, 100⟩, ⟨u.margin, 0, 100000⟩, ⟨u.level, 0, 100⟩] : List Arr3).length ≤ 1000000)) with | true => an (.b (List.all ([⟨u.speed, 1, 1000000⟩, ⟨u.fuel, 0, 1073741824⟩, ⟨u.burn, 0, 1048576⟩, ⟨u.reserve, 0, u.fuel⟩, ⟨u.sea, 0, 100⟩, ⟨u.wind, 0, 100⟩, ⟨u.margin, 0, 100000⟩, ⟨u.level, 0, 100⟩] : List Arr3) (lim3))) | false => none)) := by kernel_rfl
def F19 : List PV → Option (Bool × PV)
  | [.agg uL] => (ETy.dec .unit uL).bind fun u => some (true, .b (unitOk u))
  | _ => none
theorem s19 {gl : Gl} : Sum gl 19 F19 := by
  intro ps r h
  unfold F19 at h
  split at h
  · rename_i uL
    obtain ⟨u, hu, h_u⟩ := Option.bind_eq_some_iff.1 h
    obtain rfl := dec_is (by simp) hu
    obtain ⟨hc, rfl⟩ := Prod.mk.inj (Option.some.inj h_u)
    refine call_by (K := noK) (L := noL) (bxs := []) (ows := []) (GOk.cons s51 (GOk.cons s48 (GOk.cons s52 (GOk.cons s53 (GOk.nil))))) fn19 (noLoops (by kernel_rfl)) (by kernel_rfl) (evF_some ((e19 gl u).trans ?_))
    exact unit_tree _
  · simp at h
end Go.Proofs.YtnbcmgdogohenaaDoor.Ev
/- Summaries of functions, printed by a program out of a list, and what is made of them. -/
namespace Go.Proofs.YtnbcmgdogohenaaDoor.Ev
open Go Go.RowKit Go.Proofs
theorem fn93 : FnOk 93 Tryd.f93 := ⟨by kernel_rfl, by kernel_rfl, by kernel_rfl, by kernel_rfl⟩
def wayOk (w : Way) : Bool := bif (placed w.to_) then (timed w.stay) else false
theorem e93 (gl : Gl) (w : Way) : evFn (cx gl (mkG [(48, F48), (52, F52)]) [] []) noK noL Tryd.f93 [.agg [.i .i64 w.to_.x, .i .i64 w.to_.y, .i .i64 w.stay]] noObjs = an (.b (bif (placed w.to_) then (timed w.stay) else false)) := by kernel_rfl
def F93 : List PV → Option (Bool × PV)
  | [.agg [.i .i64 w0, .i .i64 w1, .i .i64 w2]] => some (true, .b (wayOk (⟨⟨w0, w1⟩, w2⟩ : Way)))
  | _ => none
theorem s93 {gl : Gl} : Sum gl 93 F93 := by
  intro ps r h
  unfold F93 at h
  split at h
  · rename_i w0 w1 w2
    obtain ⟨hc, rfl⟩ := Prod.mk.inj (Option.some.inj h)
    refine call_by (K := noK) (L := noL) (bxs := []) (ows := []) (GOk.cons s48 (GOk.cons s52 (GOk.nil))) fn93 (noLoops (by kernel_rfl)) (by kernel_rfl) (evF_some ((e93 gl ⟨⟨w0, w1⟩, w2⟩).trans ?_))
    try unfold wayOk
    rfl
  · simp at h
theorem fn122 : FnOk 122 Tryd.f122 := ⟨by kernel_rfl, by kernel_rfl, by kernel_rfl, by kernel_rfl⟩
theorem e122 (gl : Gl) (w : Way) : evFn (cx gl (mkG [(93, F93)]) [] []) noK noL Tryd.f122 [.agg [.i .i64 w.to_.x, .i .i64 w.to_.y, .i .i64 w.stay], .ptr [.fn (.func 93) [] []] 0] noObjs = an (.b (!(wayOk w))) := by kernel_rfl
def F122 : List PV → Option (Bool × PV)
  | [.agg [.i .i64 w0, .i .i64 w1, .i .i64 w2], .ptr [.fn (.func 93) [] []] 0] => some (true, .b (!(wayOk (⟨⟨w0, w1⟩, w2⟩ : Way))))
  | _ => none
theorem s122 {gl : Gl} : Sum gl 122 F122 := by
  intro ps r h
  unfold F122 at h
  split at h
  · rename_i w0 w1 w2
    obtain ⟨hc, rfl⟩ := Prod.mk.inj (Option.some.inj h)
    refine call_by (K := noK) (L := noL) (bxs := []) (ows := []) (GOk.cons s93 (GOk.nil)) fn122 (noLoops (by kernel_rfl)) (by kernel_rfl) (evF_some ((e122 gl ⟨⟨w0, w1⟩, w2⟩).trans ?_))
    rfl
  · simp at h
structure S133_2 where
  xs : List Way
  r : Int
  n : Int
  i : Int
def S133_2.enc (s : S133_2) : List PV := [.sl .way s.xs, .fn (.func 122) [] [.ptr [.fn (.func 93) [] []] 0], .i .i64 s.r, .i .i64 s.n, .i .i64 s.i]
def S133_2.encH (s : S133_2) : Heap := []
def dec133_2 : List PV → Heap → Option S133_2
  | [.sl .way xs_, .fn (.func 122) [] [.ptr [.fn (.func 93) [] []] 0], .i .i64 r_, .i .i64 n_, .i .i64 i_], [] => some ⟨xs_, r_, n_, i_⟩
  | _, _ => none
theorem dec_enc133_2 (vs : List PV) (hs : Heap) (s : S133_2) (h : dec133_2 vs hs = some s) : vs = s.enc ∧ hs = s.encH := by
  unfold dec133_2 at h
  split at h
  · obtain rfl := Option.some.inj h
    exact ⟨rfl, rfl⟩
  · simp at h
def st133_2 {ρ : Type} (s : S133_2) (next : S133_2 → Option ρ) (out : S133_2 × Bool → Option ρ) : Option ρ := (match (decide (s.i < s.n)) with | true => (match (inB s.i s.xs.length) with | true => (match (!(wayOk (atD .way s.xs s.i))) with | true => out (⟨s.xs, s.i, s.n, s.i⟩, true) | false => next ⟨s.xs, s.r, s.n, (wr (s.i + 1))⟩) | false => none) | false => out (s, false))
def out133_2 (k : Ex → List PV → Heap → Option R) (o : S133_2 × Bool) : Option R := match o.2 with
  | true => k .ret o.1.enc o.1.encH
  | false => k (.exit 0) o.1.enc o.1.encH
def fuel133_2 (s : S133_2) : Nat := s.xs.length + 1
def K133 : Keep := fun _ => ([0, 1, 4, 7, 8], [])
def L133 : Lam := loopL dec133_2 st133_2 fuel133_2 out133_2
noncomputable def b133_2 : Code := (loopsOf (bodyOf Tryd.f133)).getD 0 .skip
theorem step133_2 (gl : Gl) (j : Nat) (s : S133_2) (k : Ex → List PV → Heap → Option R) : unroll (cx gl (mkG [(122, F122)]) [] []) K133 L133 Tryd.f133.ntmps (Tryd.f133.ntmps + 16) b133_2 (j + 1) s.enc s.encH k = st133_2 s (fun s' => unroll (cx gl (mkG [(122, F122)]) [] []) K133 L133 Tryd.f133.ntmps (Tryd.f133.ntmps + 16) b133_2 j s'.enc s'.encH k) (out133_2 k) := by kernel_rfl
theorem l133 (gl : Gl) : LoopsOk (cx gl (mkG [(122, F122)]) [] []) K133 L133 Tryd.f133.ntmps (Tryd.f133.ntmps + 16) (loopsOf (bodyOf Tryd.f133)) := by
  refine loopsOk_list (l := [b133_2]) (by kernel_rfl) ?_
  exact List.forall_mem_cons.2 ⟨loopOk1 (fuel := fuel133_2) (enc := S133_2.enc) (encH := S133_2.encH) (fun vs hs k => by kernel_rfl) dec_enc133_2 (step133_2 gl ), (fun _ h => by simp at h)⟩
theorem fn133 : FnOk 133 Tryd.f133 := ⟨by kernel_rfl, by kernel_rfl, by kernel_rfl, by kernel_rfl⟩
theorem e133 (gl : Gl) (xs : List Way) : evFn (cx gl (mkG [(122, F122)]) [] []) K133 L133 Tryd.f133 [.sl .way xs, .fn (.func 122) [] [.ptr [.fn (.func 93) [] []] 0]] noObjs = (iter st133_2 (fuel133_2 (⟨xs, 0, (xs.length : Int), 0⟩ : S133_2)) (⟨xs, 0, (xs.length : Int), 0⟩ : S133_2) fun o2 => (match o2.2 with | true => an (.i .i64 o2.1.r) | false => an (.i .i64 (-1)))) := by kernel_rfl
def F133 : List PV → Option (Bool × PV)
  | [.sl .way xs, .fn (.func 122) [] [.ptr [.fn (.func 93) [] []] 0]] => some ((decide (xs.length ≤ 1000000)), .i .i64 (idxI (fun x => !(wayOk x)) xs))
  | _ => none
theorem s133 {gl : Gl} : Sum gl 133 F133 := by
  intro ps r h
  unfold F133 at h
  split at h
  · rename_i xs
    obtain ⟨hc, rfl⟩ := Prod.mk.inj (Option.some.inj h)
    refine call_by (K := K133) (L := L133) (bxs := []) (ows := []) (GOk.cons s122 (GOk.nil)) fn133 (l133 gl) (by kernel_rfl) (evF_some ((e133 gl xs).trans ?_))
    have hx := of_decide_eq_true hc
    refine (iter_all (step := st133_2) (F := fun k => ⟨xs, 0, xs.length, (k : Int)⟩) (stop := fun k => bif !(wayOk (atN .way xs k)) then some (⟨xs, (k : Int), xs.length, (k : Int)⟩, true) else none) (last := (⟨xs, 0, xs.length, (xs.length : Int)⟩, false)) xs.length _ (fun k next hk => ?_) (fun next => ?_) _ (Nat.le_refl _) _ rfl).trans ?_
    · simp only [st133_2, decLt_nat hk, inB_nat hk, wr_succ (show k ≤ 1000000 by omega), atD, Int.toNat_natCast]
      generalize (!(wayOk (atN .way xs k))) = b_
      cases b_ <;> rfl
    · simp only [st133_2, decLt_self]
    · rw [runTo_find (fun x => !(wayOk x)) (fun k => (⟨xs, (k : Int), xs.length, (k : Int)⟩, true)) _ _ xs (fun k hk => by rw [atN_nat hk]) xs.length 0 (by omega), List.drop_zero]
      unfold idxI
      cases xs.findIdx? (fun x => !(wayOk x)) with
      | none => rfl
      | some k => simp only [Nat.zero_add]; rfl
  · simp at h
theorem fn121 : FnOk 121 Tryd.f121 := ⟨by kernel_rfl, by kernel_rfl, by kernel_rfl, by kernel_rfl⟩
theorem e121 (gl : Gl) (xs : List Way) : evFn (cx gl (mkG [(133, F133)]) [] []) noK noL Tryd.f121 [.sl .way xs, .fn (.func 122) [] [.ptr [.fn (.func 93) [] []] 0]] noObjs = (match (decide (xs.length ≤ 1000000)) with | true => an (.b (decide ((idxI (fun x => !(wayOk x)) xs) ≥ 0))) | false => none) := by kernel_rfl
def F121 : List PV → Option (Bool × PV)
  | [.sl .way xs, .fn (.func 122) [] [.ptr [.fn (.func 93) [] []] 0]] => some ((decide (xs.length ≤ 1000000)), .b (List.any xs (fun x => !(wayOk x))))
  | _ => none
theorem s121 {gl : Gl} : Sum gl 121 F121 := by
  intro ps r h
  unfold F121 at h
  split at h
  · rename_i xs
    obtain ⟨hc, rfl⟩ := Prod.mk.inj (Option.some.inj h)
    refine call_by (K := noK) (L := noL) (bxs := []) (ows := []) (GOk.cons s133 (GOk.nil)) fn121 (noLoops (by kernel_rfl)) (by kernel_rfl) (evF_some ((e121 gl xs).trans ?_))
    have hx := of_decide_eq_true hc
    rw [decide_eq_true hx]
    show an (.b (decide (idxI _ xs ≥ 0))) = _
    rw [idxI_any]
    rfl
  · simp at h
theorem fn92 : FnOk 92 Tryd.f92 := ⟨by kernel_rfl, by kernel_rfl, by kernel_rfl, by kernel_rfl⟩
theorem e92 (gl : Gl) (xs : List Way) : evFn (cx gl (mkG [(121, F121)]) [] []) noK noL Tryd.f92 [.sl .way xs, .fn (.func 93) [] []] noObjs = (match (decide (xs.length ≤ 1000000)) with | true => an (.b (!(List.any xs (fun x => !(wayOk x))))) | false => none) := by kernel_rfl
def F92 : List PV → Option (Bool × PV)
  | [.sl .way xs, .fn (.func 93) [] []] => some ((decide (xs.length ≤ 1000000)), .b (List.all xs (wayOk)))
  | _ => none
theorem s92 {gl : Gl} : Sum gl 92 F92 := by
  intro ps r h
  unfold F92 at h
  split at h
  · rename_i xs
    obtain ⟨hc, rfl⟩ := Prod.mk.inj (Option.some.inj h)
    refine call_by (K := noK) (L := noL) (bxs := []) (ows := []) (GOk.cons s121 (GOk.nil)) fn92 (noLoops (by kernel_rfl)) (by kernel_rfl) (evF_some ((e92 gl xs).trans ?_))
    have hx := of_decide_eq_true hc
    rw [decide_eq_true hx]
    show an (.b (!(xs.any fun x => !((wayOk) x)))) = _
    rw [all_not_any]
    rfl
  · simp at h
theorem fn60 : FnOk 60 Tryd.f60 := ⟨by kernel_rfl, by kernel_rfl, by kernel_rfl, by kernel_rfl⟩
theorem e60 (gl : Gl) (l : List Way) : evFn (cx gl (mkG [(92, F92)]) [] []) noK noL Tryd.f60 [.sl .way l] noObjs = (match (decide (l.length ≤ 1000000)) with | true => an (.b (List.all l (wayOk))) | false => none) := by kernel_rfl
def F60 : List PV → Option (Bool × PV)
  | [.sl .way l] => some ((decide (l.length ≤ 1000000)), .b (List.all l wayOk))
  | _ => none
theorem s60 {gl : Gl} : Sum gl 60 F60 := by
  intro ps r h
  unfold F60 at h
  split at h
  · rename_i l
    obtain ⟨hc, rfl⟩ := Prod.mk.inj (Option.some.inj h)
    refine call_by (K := noK) (L := noL) (bxs := []) (ows := []) (GOk.cons s92 (GOk.nil)) fn60 (noLoops (by kernel_rfl)) (by kernel_rfl) (evF_some ((e60 gl l).trans ?_))
    rw [hc]; rfl
  · simp at h
structure S62_2 where
  l : List Way
  t2 : Bool
  i : Int
def S62_2.enc (s : S62_2) : List PV := [.sl .way s.l, .b s.t2, .i .i64 s.i]
def S62_2.encH (s : S62_2) : Heap := []
def dec62_2 : List PV → Heap → Option S62_2
  | [.sl .way l_, .b t2_, .i .i64 i_], [] => some ⟨l_, t2_, i_⟩
  | _, _ => none
theorem dec_enc62_2 (vs : List PV) (hs : Heap) (s : S62_2) (h : dec62_2 vs hs = some s) : vs = s.enc ∧ hs = s.encH := by
  unfold dec62_2 at h
  split at h
  · obtain rfl := Option.some.inj h
    exact ⟨rfl, rfl⟩
  · simp at h
def st62_2 {ρ : Type} (s : S62_2) (next : S62_2 → Option ρ) (out : S62_2 × Bool → Option ρ) : Option ρ := (match (decide (s.i < (s.l.length : Int))) with | true => (match (inB s.i s.l.length) with | true => (match ((inB s.i s.l.length) || ((!(Place ((atD .way s.l s.i).to_))) || false)) with | true => (match (bif (!(Place ((atD .way s.l s.i).to_))) then true else (!(Time ((atD .way s.l s.i).stay)))) with | true => out (⟨s.l, false, s.i⟩, true) | false => next ⟨s.l, s.t2, (wr (s.i + 1))⟩) | false => none) | false => none) | false => out (s, false))
def out62_2 (k : Ex → List PV → Heap → Option R) (o : S62_2 × Bool) : Option R := match o.2 with
  | true => k .ret o.1.enc o.1.encH
  | false => k (.exit 0) o.1.enc o.1.encH
def fuel62_2 (s : S62_2) : Nat := s.l.length + 1
def K62 : Keep := fun _ => ([0, 2, 3], [])
def L62 : Lam := loopL dec62_2 st62_2 fuel62_2 out62_2
noncomputable def b62_2 : Code := (loopsOf (bodyOf Tryd.f62)).getD 0 .skip
theorem step62_2 (gl : Gl) (j : Nat) (s : S62_2) (k : Ex → List PV → Heap → Option R) : unroll (cx gl (mkG [(32, F32), (46, F46)]) [] []) K62 L62 Tryd.f62.ntmps (Tryd.f62.ntmps + 16) b62_2 (j + 1) s.enc s.encH k = st62_2 s (fun s' => unroll (cx gl (mkG [(32, F32), (46, F46)]) [] []) K62 L62 Tryd.f62.ntmps (Tryd.f62.ntmps + 16) b62_2 j s'.enc s'.encH k) (out62_2 k) := by kernel_rfl
theorem l62 (gl : Gl) : LoopsOk (cx gl (mkG [(32, F32), (46, F46)]) [] []) K62 L62 Tryd.f62.ntmps (Tryd.f62.ntmps + 16) (loopsOf (bodyOf Tryd.f62)) := by
  refine loopsOk_list (l := [b62_2]) (by kernel_rfl) ?_
  exact List.forall_mem_cons.2 ⟨loopOk1 (fuel := fuel62_2) (enc := S62_2.enc) (encH := S62_2.encH) (fun vs hs k => by kernel_rfl) dec_enc62_2 (step62_2 gl ), (fun _ h => by simp at h)⟩
def bad62 (x : Way) : Bool := bif (!(Place (x.to_))) then true else (!(Time (x.stay)))
theorem bad62_eq (x : Way) : bad62 x = !(wayOk x) := by
  simp only [bad62, wayOk, Time_eq, Place_eq, In_eq, bif_f, bif_t, Bool.not_and]
theorem loop62 (l : List Way) (hx : l.length ≤ 1000000)  : (iter st62_2 (fuel62_2 (⟨l, false, 0⟩ : S62_2)) (⟨l, false, 0⟩ : S62_2) fun o2 => (match o2.2 with | true => an (.b o2.1.t2) | false => an (.b true))) = bif List.any l (fun x => !(wayOk x)) then an (.b false) else an (.b true) := by
  refine (iter_all (step := st62_2) (F := fun k => (⟨l, false, (k : Int)⟩ : S62_2)) (stop := fun k => bif !(wayOk (atN .way l k)) then some ((⟨l, false, (k : Int)⟩ : S62_2), true) else none) (last := ((⟨l, false, (l.length : Int)⟩ : S62_2), false)) l.length _ (fun k next hk => ?_) (fun next => ?_) _ (Nat.le_refl _) _ rfl).trans ?_
  · simp only [st62_2, decLt_nat hk, inB_nat hk, wr_succ (show k ≤ 1000000 by omega), atD, Int.toNat_natCast, Bool.true_or]
    show (match bad62 (atN .way l k) with | true => _ | false => _) = _
    rw [bad62_eq]
    generalize (!(wayOk (atN .way l k))) = b_
    cases b_ <;> rfl
  · simp only [st62_2, decLt_self]
  · rw [runTo_find (fun x => !(wayOk x)) (fun k => ((⟨l, false, (k : Int)⟩ : S62_2), true)) _ _ l (fun k hk => by rw [atN_nat hk]) l.length 0 (by omega), List.drop_zero, ← find_any (fun x => !(wayOk x)) l]
    cases List.findIdx? (fun x => !(wayOk x)) l with
    | none => rfl
    | some k => rfl
theorem fn62 : FnOk 62 Tryd.f62 := ⟨by kernel_rfl, by kernel_rfl, by kernel_rfl, by kernel_rfl⟩
theorem e62 (gl : Gl) (l : List Way) : evFn (cx gl (mkG [(32, F32), (46, F46)]) [] []) K62 L62 Tryd.f62 [.sl .way l] noObjs = (iter st62_2 (fuel62_2 (⟨l, false, 0⟩ : S62_2)) (⟨l, false, 0⟩ : S62_2) fun o2 => (match o2.2 with | true => an (.b o2.1.t2) | false => an (.b true))) := by kernel_rfl
def F62 : List PV → Option (Bool × PV)
  | [.sl .way l] => some ((decide (l.length ≤ 1000000)), .b (List.all l wayOk))
  | _ => none
theorem s62 {gl : Gl} : Sum gl 62 F62 := by
  intro ps r h
  unfold F62 at h
  split at h
  · rename_i l
    obtain ⟨hc, rfl⟩ := Prod.mk.inj (Option.some.inj h)
    refine call_by (K := K62) (L := L62) (bxs := []) (ows := []) (GOk.cons s32 (GOk.cons s46 (GOk.nil))) fn62 (l62 gl) (by kernel_rfl) (evF_some ((e62 gl l).trans ?_))
    refine (loop62 l (of_decide_eq_true hc)).trans ?_
    rw [← all_not_any]
    cases List.any l (fun x => !(wayOk x)) <;> rfl
  · simp at h
theorem fn23 : FnOk 23 Tryd.f23 := ⟨by kernel_rfl, by kernel_rfl, by kernel_rfl, by kernel_rfl⟩
def largeS (route : List Way) (sky : List Front) : Bool := bif (decide ((route.length : Int) > 40)) then true else (decide ((sky.length : Int) > 110))
theorem e23 (gl : Gl) (start : Int) (route : List Way) (sky : List Front) : evFn (cx gl (mkG []) [] []) noK noL Tryd.f23 [.agg [.i .i64 start, .sl .way route, .sl .front sky]] noObjs = an (.b (bif (decide ((route.length : Int) > 40)) then true else (decide ((sky.length : Int) > 110)))) := by kernel_rfl
def F23 : List PV → Option (Bool × PV)
  | [.agg [.i .i64 start, .sl .way route, .sl .front sky]] => some (true, .b (largeS route sky))
  | _ => none
theorem s23 {gl : Gl} : Sum gl 23 F23 := by
  intro ps r h
  unfold F23 at h
  split at h
  · rename_i start route sky
    obtain ⟨hc, rfl⟩ := Prod.mk.inj (Option.some.inj h)
    refine call_by (K := noK) (L := noL) (bxs := []) (ows := []) (GOk.nil) fn23 (noLoops (by kernel_rfl)) (by kernel_rfl) (evF_some ((e23 gl start route sky).trans ?_))
    try unfold largeS
    rfl
  · simp at h
def legOk (x : Leg) : Bool := placed x.fr && (placed x.to_ && (timed x.start && (timed x.arrive && (timed x.leave && (decide (x.start ≤ x.arrive) && (decide (x.arrive ≤ x.leave) && ((!(x.start == x.arrive) || (x.fr.x == x.to_.x && (x.fr.y == x.to_.y && true))) && within x.fuel 0 1073741824)))))))
def linkOk (p x : Leg) : Bool := ((x.fr.x == p.to_.x) && ((x.fr.y == p.to_.y) && true)) && (x.start == p.leave)
def legBad (xs : List Leg) : Nat → Bool
  | 0 => !(legOk (atN .leg xs 0))
  | j + 1 => !(legOk (atN .leg xs (j + 1))) || !(linkOk (atN .leg xs j) (atN .leg xs (j + 1)))
/-- Are legs valid? -/
def legsOk (xs : List Leg) : Bool := bif (List.range' 0 xs.length).any (legBad xs) then false else decide ((xs.length : Int) > 0)
theorem not_le (a b : Int) : (!(decide (a ≤ b))) = decide (a > b) := by
  by_cases h : a ≤ b
  · rw [decide_eq_true h, decide_eq_false (by omega)]; rfl
  · rw [decide_eq_false h, decide_eq_true (by omega)]; rfl
structure S64_2 where
  legs : List Leg
  t2 : Bool
  t5 : List Leg
  t6 : Int
  t7 : Int
def S64_2.enc (s : S64_2) : List PV := [.sl .leg s.legs, .b s.t2, .sl .leg s.t5, .i .i64 s.t6, .i .i64 s.t7]
def S64_2.encH (s : S64_2) : Heap := []
def dec64_2 : List PV → Heap → Option S64_2
  | [.sl .leg legs_, .b t2_, .sl .leg t5_, .i .i64 t6_, .i .i64 t7_], [] => some ⟨legs_, t2_, t5_, t6_, t7_⟩
  | _, _ => none
theorem dec_enc64_2 (vs : List PV) (hs : Heap) (s : S64_2) (h : dec64_2 vs hs = some s) : vs = s.enc ∧ hs = s.encH := by
  unfold dec64_2 at h
  split at h
  · obtain rfl := Option.some.inj h
    exact ⟨rfl, rfl⟩
  · simp at h
def st64_2 {ρ : Type} (s : S64_2) (next : S64_2 → Option ρ) (out : S64_2 × Bool → Option ρ) : Option ρ := (match (decide (s.t7 < s.t6)) with | true => (match (inB s.t7 s.t5.length) with | true => (match (bif (bif (bif (bif (bif (bif (bif (bif (!(placed ((atD .leg s.t5 s.t7).fr))) then true else (!(placed ((atD .leg s.t5 s.t7).to_)))) then true else (!(timed ((atD .leg s.t5 s.t7).start)))) then true else (!(timed ((atD .leg s.t5 s.t7).arrive)))) then true else (!(timed ((atD .leg s.t5 s.t7).leave)))) then true else (decide (((atD .leg s.t5 s.t7).start) > ((atD .leg s.t5 s.t7).arrive)))) then true else (decide (((atD .leg s.t5 s.t7).arrive) > ((atD .leg s.t5 s.t7).leave)))) then true else (bif (((atD .leg s.t5 s.t7).start) == ((atD .leg s.t5 s.t7).arrive)) then (!((((atD .leg s.t5 s.t7).fr.x) == ((atD .leg s.t5 s.t7).to_.x)) && ((((atD .leg s.t5 s.t7).fr.y) == ((atD .leg s.t5 s.t7).to_.y)) && true))) else false)) then true else (!(within ((atD .leg s.t5 s.t7).fuel) 0 1073741824))) with | true => out (⟨s.legs, false, s.t5, s.t6, s.t7⟩, true) | false => (match ((inB (wr (s.t7 - 1)) s.legs.length) || ((!(decide (s.t7 > 0))) || false)) with | true => (match ((inB (wr (s.t7 - 1)) s.legs.length) || ((!(decide (s.t7 > 0))) || ((!((((atD .leg s.t5 s.t7).fr.x) == ((atD .leg s.legs (wr (s.t7 - 1))).to_.x)) && ((((atD .leg s.t5 s.t7).fr.y) == ((atD .leg s.legs (wr (s.t7 - 1))).to_.y)) && true))) || false))) with | true => (match (bif (decide (s.t7 > 0)) then (bif (!((((atD .leg s.t5 s.t7).fr.x) == ((atD .leg s.legs (wr (s.t7 - 1))).to_.x)) && ((((atD .leg s.t5 s.t7).fr.y) == ((atD .leg s.legs (wr (s.t7 - 1))).to_.y)) && true))) then true else (((atD .leg s.t5 s.t7).start) != ((atD .leg s.legs (wr (s.t7 - 1))).leave))) else false) with | true => out (⟨s.legs, false, s.t5, s.t6, s.t7⟩, true) | false => next ⟨s.legs, s.t2, s.t5, s.t6, (wr (s.t7 + 1))⟩) | false => none) | false => none)) | false => none) | false => out (s, false))
def out64_2 (k : Ex → List PV → Heap → Option R) (o : S64_2 × Bool) : Option R := match o.2 with
  | true => k .ret o.1.enc o.1.encH
  | false => k (.exit 0) o.1.enc o.1.encH
def fuel64_2 (s : S64_2) : Nat := s.legs.length + 1
def K64 : Keep := fun _ => ([0, 2, 5, 6, 7], [])
def L64 : Lam := loopL dec64_2 st64_2 fuel64_2 out64_2
noncomputable def b64_2 : Code := (loopsOf (bodyOf Tryd.f64)).getD 0 .skip
theorem step64_2 (gl : Gl) (j : Nat) (s : S64_2) (k : Ex → List PV → Heap → Option R) : unroll (cx gl (mkG [(48, F48), (52, F52), (55, F55)]) [] []) K64 L64 Tryd.f64.ntmps (Tryd.f64.ntmps + 16) b64_2 (j + 1) s.enc s.encH k = st64_2 s (fun s' => unroll (cx gl (mkG [(48, F48), (52, F52), (55, F55)]) [] []) K64 L64 Tryd.f64.ntmps (Tryd.f64.ntmps + 16) b64_2 j s'.enc s'.encH k) (out64_2 k) := by kernel_rfl
theorem l64 (gl : Gl) : LoopsOk (cx gl (mkG [(48, F48), (52, F52), (55, F55)]) [] []) K64 L64 Tryd.f64.ntmps (Tryd.f64.ntmps + 16) (loopsOf (bodyOf Tryd.f64)) := by
  refine loopsOk_list (l := [b64_2]) (by kernel_rfl) ?_
  exact List.forall_mem_cons.2 ⟨loopOk1 (fuel := fuel64_2) (enc := S64_2.enc) (encH := S64_2.encH) (fun vs hs k => by kernel_rfl) dec_enc64_2 (step64_2 gl ), (fun _ h => by simp at h)⟩
structure S36_2 where
  l : List Leg
  t2 : Bool
  i : Int
def S36_2.enc (s : S36_2) : List PV := [.sl .leg s.l, .b s.t2, .i .i64 s.i]
def S36_2.encH (s : S36_2) : Heap := []
def dec36_2 : List PV → Heap → Option S36_2
  | [.sl .leg l_, .b t2_, .i .i64 i_], [] => some ⟨l_, t2_, i_⟩
  | _, _ => none
theorem dec_enc36_2 (vs : List PV) (hs : Heap) (s : S36_2) (h : dec36_2 vs hs = some s) : vs = s.enc ∧ hs = s.encH := by
  unfold dec36_2 at h
  split at h
  · obtain rfl := Option.some.inj h
    exact ⟨rfl, rfl⟩
  · simp at h
def st36_2 {ρ : Type} (s : S36_2) (next : S36_2 → Option ρ) (out : S36_2 × Bool → Option ρ) : Option ρ := (match (decide (s.i < (s.l.length : Int))) with | true => (match (inB s.i s.l.length) with | true => (match (bif (bif (!(bif (bif (Place ((atD .leg s.l s.i).fr)) then (Place ((atD .leg s.l s.i).to_)) else false) then (bif (((atD .leg s.l s.i).start) != ((atD .leg s.l s.i).arrive)) then true else ((((atD .leg s.l s.i).fr.x) == ((atD .leg s.l s.i).to_.x)) && ((((atD .leg s.l s.i).fr.y) == ((atD .leg s.l s.i).to_.y)) && true))) else false)) then true else (!(bif (bif (bif (bif (Time ((atD .leg s.l s.i).start)) then (Time ((atD .leg s.l s.i).arrive)) else false) then (Time ((atD .leg s.l s.i).leave)) else false) then (decide (((atD .leg s.l s.i).start) ≤ ((atD .leg s.l s.i).arrive))) else false) then (decide (((atD .leg s.l s.i).arrive) ≤ ((atD .leg s.l s.i).leave))) else false))) then true else (!(In ((atD .leg s.l s.i).fuel) 0 1073741824))) with | true => out (⟨s.l, false, s.i⟩, true) | false => (match ((inB (wr (s.i - 1)) s.l.length) || ((!(decide (s.i > 0))) || false)) with | true => (match ((inB (wr (s.i - 1)) s.l.length) || ((!(decide (s.i > 0))) || ((!((((atD .leg s.l s.i).fr.x) == ((atD .leg s.l (wr (s.i - 1))).to_.x)) && ((((atD .leg s.l s.i).fr.y) == ((atD .leg s.l (wr (s.i - 1))).to_.y)) && true))) || false))) with | true => (match (bif (decide (s.i > 0)) then (bif (!((((atD .leg s.l s.i).fr.x) == ((atD .leg s.l (wr (s.i - 1))).to_.x)) && ((((atD .leg s.l s.i).fr.y) == ((atD .leg s.l (wr (s.i - 1))).to_.y)) && true))) then true else (((atD .leg s.l s.i).start) != ((atD .leg s.l (wr (s.i - 1))).leave))) else false) with | true => out (⟨s.l, false, s.i⟩, true) | false => next ⟨s.l, s.t2, (wr (s.i + 1))⟩) | false => none) | false => none)) | false => none) | false => out (s, false))
def out36_2 (k : Ex → List PV → Heap → Option R) (o : S36_2 × Bool) : Option R := match o.2 with
  | true => k .ret o.1.enc o.1.encH
  | false => k (.exit 0) o.1.enc o.1.encH
def fuel36_2 (s : S36_2) : Nat := s.l.length + 1
def K36 : Keep := fun _ => ([0, 2, 3], [])
def L36 : Lam := loopL dec36_2 st36_2 fuel36_2 out36_2
noncomputable def b36_2 : Code := (loopsOf (bodyOf Tryd.f36)).getD 0 .skip
theorem step36_2 (gl : Gl) (j : Nat) (s : S36_2) (k : Ex → List PV → Heap → Option R) : unroll (cx gl (mkG [(32, F32), (46, F46), (56, F56)]) [] []) K36 L36 Tryd.f36.ntmps (Tryd.f36.ntmps + 16) b36_2 (j + 1) s.enc s.encH k = st36_2 s (fun s' => unroll (cx gl (mkG [(32, F32), (46, F46), (56, F56)]) [] []) K36 L36 Tryd.f36.ntmps (Tryd.f36.ntmps + 16) b36_2 j s'.enc s'.encH k) (out36_2 k) := by kernel_rfl
theorem l36 (gl : Gl) : LoopsOk (cx gl (mkG [(32, F32), (46, F46), (56, F56)]) [] []) K36 L36 Tryd.f36.ntmps (Tryd.f36.ntmps + 16) (loopsOf (bodyOf Tryd.f36)) := by
  refine loopsOk_list (l := [b36_2]) (by kernel_rfl) ?_
  exact List.forall_mem_cons.2 ⟨loopOk1 (fuel := fuel36_2) (enc := S36_2.enc) (encH := S36_2.encH) (fun vs hs k => by kernel_rfl) dec_enc36_2 (step36_2 gl ), (fun _ h => by simp at h)⟩
def b64 (x : Leg) : Bool := bif (bif (bif (bif (bif (bif (bif (bif (!(placed (x.fr))) then true else (!(placed (x.to_)))) then true else (!(timed (x.start)))) then true else (!(timed (x.arrive)))) then true else (!(timed (x.leave)))) then true else (decide ((x.start) > (x.arrive)))) then true else (decide ((x.arrive) > (x.leave)))) then true else (bif ((x.start) == (x.arrive)) then (!(((x.fr.x) == (x.to_.x)) && (((x.fr.y) == (x.to_.y)) && true))) else false)) then true else (!(within (x.fuel) 0 1073741824))
def c64 (p x : Leg) : Bool := (bif (!(((x.fr.x) == (p.to_.x)) && (((x.fr.y) == (p.to_.y)) && true))) then true else ((x.start) != (p.leave)))
def b36 (x : Leg) : Bool := bif (bif (!(bif (bif (Place (x.fr)) then (Place (x.to_)) else false) then (bif ((x.start) != (x.arrive)) then true else (((x.fr.x) == (x.to_.x)) && (((x.fr.y) == (x.to_.y)) && true))) else false)) then true else (!(bif (bif (bif (bif (Time (x.start)) then (Time (x.arrive)) else false) then (Time (x.leave)) else false) then (decide ((x.start) ≤ (x.arrive))) else false) then (decide ((x.arrive) ≤ (x.leave))) else false))) then true else (!(In (x.fuel) 0 1073741824))
theorem b64_eq (x : Leg) : b64 x = !(legOk x) := by
  simp only [b64, legOk, bif_f, bif_t, Bool.not_and, Bool.not_or, Bool.not_not, Bool.or_assoc, ← not_le]
theorem b36_eq (x : Leg) : b36 x = !(legOk x) := by
  simp only [b36, legOk, Time_eq, Place_eq, In_eq, bif_f, bif_t, Bool.not_and, Bool.not_or, Bool.not_not, Bool.or_assoc, bne]
  generalize (!(placed x.fr)) = a
  generalize (!(placed x.to_)) = b
  generalize (!(timed x.start)) = c
  generalize (!(timed x.arrive)) = d
  generalize (!(timed x.leave)) = e
  generalize (!(decide (x.start ≤ x.arrive))) = f
  generalize (!(decide (x.arrive ≤ x.leave))) = g
  cases a <;> cases b <;> cases c <;> cases d <;> cases e <;> cases f <;> cases g <;> simp
theorem c64_eq (p x : Leg) : c64 p x = !(linkOk p x) := by
  simp only [c64, linkOk, bif_f, bif_t, Bool.not_and, bne]
theorem loop64 (legs : List Leg) (hx : legs.length ≤ 1000000) : (iter st64_2 (fuel64_2 (⟨legs, false, legs, (legs.length : Int), 0⟩ : S64_2)) (⟨legs, false, legs, (legs.length : Int), 0⟩ : S64_2) fun o2 => (match o2.2 with | true => an (.b o2.1.t2) | false => an (.b (decide ((o2.1.legs.length : Int) > 0))))) = an (.b (legsOk legs)) := by
  refine (iter_all (step := st64_2) (F := fun k => (⟨legs, false, legs, (legs.length : Int), (k : Int)⟩ : S64_2)) (stop := fun k => bif legBad legs k then some ((⟨legs, false, legs, (legs.length : Int), (k : Int)⟩ : S64_2), true) else none) (last := ((⟨legs, false, legs, (legs.length : Int), (legs.length : Int)⟩ : S64_2), false)) legs.length _ (fun k next hk => ?_) (fun next => ?_) _ (Nat.le_refl _) _ rfl).trans ?_
  · cases k with
    | zero =>
      simp only [st64_2, decLt_nat hk, inB_nat hk, wr_succ (show 0 ≤ 1000000 by omega), atD, Int.toNat_natCast]
      have h0 : (decide ((((0 : Nat) : Int)) > 0)) = false := rfl
      simp only [h0, Bool.not_false, Bool.true_or, Bool.or_true]
      show (match b64 (atN .leg legs 0) with | true => _ | false => _) = _
      rw [b64_eq]
      rw [show legBad legs 0 = !(legOk (atN .leg legs 0)) from rfl]
      generalize (!(legOk (atN .leg legs 0))) = b_
      cases b_ <;> rfl
    | succ j =>
      have hj : j < legs.length := by omega
      simp only [st64_2, decLt_nat hk, inB_nat hk, wr_succ (show j + 1 ≤ 1000000 by omega), wr_pred (show j ≤ 1000000 by omega), inB_nat hj, decPos, Bool.true_or, atD, Int.toNat_natCast]
      show (match b64 (atN .leg legs (j + 1)) with | true => _ | false => (match c64 (atN .leg legs j) (atN .leg legs (j + 1)) with | true => _ | false => _)) = _
      rw [b64_eq, c64_eq]
      rw [show legBad legs (j + 1) = (!(legOk (atN .leg legs (j + 1))) || !(linkOk (atN .leg legs j) (atN .leg legs (j + 1)))) from rfl]
      generalize (!(legOk (atN .leg legs (j + 1)))) = b_
      generalize (!(linkOk (atN .leg legs j) (atN .leg legs (j + 1)))) = c_
      cases b_ <;> cases c_ <;> rfl
  · simp only [st64_2, decLt_self]
  · refine (runTo_any (fun o => (match o.2 with | true => an (.b o.1.t2) | false => an (.b (decide ((o.1.legs.length : Int) > 0))))) (legBad legs) (fun k => ((⟨legs, false, legs, (legs.length : Int), (k : Int)⟩ : S64_2), true)) (an (.b false)) (fun j => rfl) legs.length 0 (fun j _ _ => rfl)).trans ?_
    unfold legsOk
    cases (List.range' 0 legs.length).any (legBad legs) <;> rfl
theorem fn64 : FnOk 64 Tryd.f64 := ⟨by kernel_rfl, by kernel_rfl, by kernel_rfl, by kernel_rfl⟩
theorem e64 (gl : Gl) (legs : List Leg) : evFn (cx gl (mkG [(48, F48), (52, F52), (55, F55)]) [] []) K64 L64 Tryd.f64 [.sl .leg legs] noObjs = (iter st64_2 (fuel64_2 (⟨legs, false, legs, (legs.length : Int), 0⟩ : S64_2)) (⟨legs, false, legs, (legs.length : Int), 0⟩ : S64_2) fun o2 => (match o2.2 with | true => an (.b o2.1.t2) | false => an (.b (decide ((o2.1.legs.length : Int) > 0))))) := by kernel_rfl
def F64 : List PV → Option (Bool × PV)
  | [.sl .leg legs] => some ((decide (legs.length ≤ 1000000)), .b (legsOk legs))
  | _ => none
theorem s64 {gl : Gl} : Sum gl 64 F64 := by
  intro ps r h
  unfold F64 at h
  split at h
  · rename_i legs
    obtain ⟨hc, rfl⟩ := Prod.mk.inj (Option.some.inj h)
    refine call_by (K := K64) (L := L64) (bxs := []) (ows := []) (GOk.cons s48 (GOk.cons s52 (GOk.cons s55 (GOk.nil)))) fn64 (l64 gl) (by kernel_rfl) (evF_some ((e64 gl legs).trans ?_))
    exact loop64 legs (of_decide_eq_true hc)
  · simp at h
theorem loop36 (legs : List Leg) (hx : legs.length ≤ 1000000) : (iter st36_2 (fuel36_2 (⟨legs, false, 0⟩ : S36_2)) (⟨legs, false, 0⟩ : S36_2) fun o2 => (match o2.2 with | true => an (.b o2.1.t2) | false => an (.b (decide ((o2.1.l.length : Int) > 0))))) = an (.b (legsOk legs)) := by
  refine (iter_all (step := st36_2) (F := fun k => (⟨legs, false, (k : Int)⟩ : S36_2)) (stop := fun k => bif legBad legs k then some ((⟨legs, false, (k : Int)⟩ : S36_2), true) else none) (last := ((⟨legs, false, (legs.length : Int)⟩ : S36_2), false)) legs.length _ (fun k next hk => ?_) (fun next => ?_) _ (Nat.le_refl _) _ rfl).trans ?_
  · cases k with
    | zero =>
      simp only [st36_2, decLt_nat hk, inB_nat hk, wr_succ (show 0 ≤ 1000000 by omega), atD, Int.toNat_natCast]
      have h0 : (decide ((((0 : Nat) : Int)) > 0)) = false := rfl
      simp only [h0, Bool.not_false, Bool.true_or, Bool.or_true]
      show (match b36 (atN .leg legs 0) with | true => _ | false => _) = _
      rw [b36_eq]
      rw [show legBad legs 0 = !(legOk (atN .leg legs 0)) from rfl]
      generalize (!(legOk (atN .leg legs 0))) = b_
      cases b_ <;> rfl
    | succ j =>
      have hj : j < legs.length := by omega
      simp only [st36_2, decLt_nat hk, inB_nat hk, wr_succ (show j + 1 ≤ 1000000 by omega), wr_pred (show j ≤ 1000000 by omega), inB_nat hj, decPos, Bool.true_or, atD, Int.toNat_natCast]
      show (match b36 (atN .leg legs (j + 1)) with | true => _ | false => (match c64 (atN .leg legs j) (atN .leg legs (j + 1)) with | true => _ | false => _)) = _
      rw [b36_eq, c64_eq]
      rw [show legBad legs (j + 1) = (!(legOk (atN .leg legs (j + 1))) || !(linkOk (atN .leg legs j) (atN .leg legs (j + 1)))) from rfl]
      generalize (!(legOk (atN .leg legs (j + 1)))) = b_
      generalize (!(linkOk (atN .leg legs j) (atN .leg legs (j + 1)))) = c_
      cases b_ <;> cases c_ <;> rfl
  · simp only [st36_2, decLt_self]
  · refine (runTo_any (fun o => (match o.2 with | true => an (.b o.1.t2) | false => an (.b (decide ((o.1.l.length : Int) > 0))))) (legBad legs) (fun k => ((⟨legs, false, (k : Int)⟩ : S36_2), true)) (an (.b false)) (fun j => rfl) legs.length 0 (fun j _ _ => rfl)).trans ?_
    unfold legsOk
    cases (List.range' 0 legs.length).any (legBad legs) <;> rfl
theorem fn36 : FnOk 36 Tryd.f36 := ⟨by kernel_rfl, by kernel_rfl, by kernel_rfl, by kernel_rfl⟩
theorem e36 (gl : Gl) (legs : List Leg) : evFn (cx gl (mkG [(32, F32), (46, F46), (56, F56)]) [] []) K36 L36 Tryd.f36 [.sl .leg legs] noObjs = (iter st36_2 (fuel36_2 (⟨legs, false, 0⟩ : S36_2)) (⟨legs, false, 0⟩ : S36_2) fun o2 => (match o2.2 with | true => an (.b o2.1.t2) | false => an (.b (decide ((o2.1.l.length : Int) > 0))))) := by kernel_rfl
def F36 : List PV → Option (Bool × PV)
  | [.sl .leg legs] => some ((decide (legs.length ≤ 1000000)), .b (legsOk legs))
  | _ => none
theorem s36 {gl : Gl} : Sum gl 36 F36 := by
  intro ps r h
  unfold F36 at h
  split at h
  · rename_i legs
    obtain ⟨hc, rfl⟩ := Prod.mk.inj (Option.some.inj h)
    refine call_by (K := K36) (L := L36) (bxs := []) (ows := []) (GOk.cons s32 (GOk.cons s46 (GOk.cons s56 (GOk.nil)))) fn36 (l36 gl) (by kernel_rfl) (evF_some ((e36 gl legs).trans ?_))
    exact loop36 legs (of_decide_eq_true hc)
  · simp at h
end Go.Proofs.YtnbcmgdogohenaaDoor.Ev
/- Summaries of functions, printed by a program out of a list, and what is made of them. -/
namespace Go.Proofs.YtnbcmgdogohenaaDoor.Ev
open Go Go.RowKit Go.Proofs
def dfLeg : Leg := ⟨⟨0, 0⟩, ⟨0, 0⟩, 0, 0, 0, 0⟩
def qAt (t : Int) (l : Leg) : Option (Option Leg) := bif decide (t < l.start) then some none else bif decide (t ≤ l.leave) then some (some l) else none
/-- The leg at a time, if there is one. -/
def atS (legs : List Leg) (t : Int) : Option Leg := match legs.findSome? (qAt t) with
  | some o => o
  | none => none
def atB (legs : List Leg) (t : Int) : Bool := (atS legs t).isSome
def atV (legs : List Leg) (t : Int) : Leg := (atS legs t).getD dfLeg
structure S65_2 where
  t : Int
  t5 : Bool
  xs : List Leg
  n : Int
  i : Int
  l : Leg
def S65_2.enc (s : S65_2) : List PV := [.i .i64 s.t, .ref 12 0, .b s.t5, .sl .leg s.xs, .i .i64 s.n, .i .i64 s.i]
def S65_2.encH (s : S65_2) : Heap := [some (.cells 49 [.i .i64 s.l.fr.x, .i .i64 s.l.fr.y, .i .i64 s.l.to_.x, .i .i64 s.l.to_.y, .i .i64 s.l.start, .i .i64 s.l.arrive, .i .i64 s.l.leave, .i .i64 s.l.fuel])]
def dec65_2 : List PV → Heap → Option S65_2
  | [.i .i64 t_, .ref 12 0, .b t5_, .sl .leg xs_, .i .i64 n_, .i .i64 i_], [some (.cells 49 lL)] => (ETy.dec .leg lL).bind fun l_ => some ⟨t_, t5_, xs_, n_, i_, l_⟩
  | _, _ => none
theorem dec_enc65_2 (vs : List PV) (hs : Heap) (s : S65_2) (h : dec65_2 vs hs = some s) : vs = s.enc ∧ hs = s.encH := by
  unfold dec65_2 at h
  split at h
  · obtain ⟨l_, hl, h_l⟩ := Option.bind_eq_some_iff.1 h
    obtain rfl := dec_is (by simp) hl
    obtain rfl := Option.some.inj h_l
    exact ⟨rfl, rfl⟩
  · simp at h
def st65_2 {ρ : Type} (s : S65_2) (next : S65_2 → Option ρ) (out : S65_2 × Bool → Option ρ) : Option ρ := (match (decide (s.i < s.n)) with | true => (match (inB s.i s.xs.length) with | true => (match (decide (s.t < ((atD .leg s.xs s.i).start))) with | true => out (s, false) | false => (match (decide (s.t ≤ ((atD .leg s.xs s.i).leave))) with | true => out (⟨s.t, true, s.xs, s.n, s.i, (atD .leg s.xs s.i)⟩, true) | false => next ⟨s.t, s.t5, s.xs, s.n, (wr (s.i + 1)), s.l⟩)) | false => none) | false => out (s, false))
def out65_2 (k : Ex → List PV → Heap → Option R) (o : S65_2 × Bool) : Option R := match o.2 with
  | true => k .ret o.1.enc o.1.encH
  | false => k (.exit 0) o.1.enc o.1.encH
def fuel65_2 (s : S65_2) : Nat := s.xs.length + 1
def K65 : Keep := fun _ => ([1, 4, 5, 8, 9, 10], [12])
def L65 : Lam := loopL dec65_2 st65_2 fuel65_2 out65_2
noncomputable def b65_2 : Code := (loopsOf (bodyOf Tryd.f65)).getD 0 .skip
theorem step65_2 (gl : Gl) (j : Nat) (s : S65_2) (k : Ex → List PV → Heap → Option R) : unroll (cx gl (mkG []) [] []) K65 L65 Tryd.f65.ntmps (Tryd.f65.ntmps + 16) b65_2 (j + 1) s.enc s.encH k = st65_2 s (fun s' => unroll (cx gl (mkG []) [] []) K65 L65 Tryd.f65.ntmps (Tryd.f65.ntmps + 16) b65_2 j s'.enc s'.encH k) (out65_2 k) := by kernel_rfl
theorem l65 (gl : Gl) : LoopsOk (cx gl (mkG []) [] []) K65 L65 Tryd.f65.ntmps (Tryd.f65.ntmps + 16) (loopsOf (bodyOf Tryd.f65)) := by
  refine loopsOk_list (l := [b65_2]) (by kernel_rfl) ?_
  exact List.forall_mem_cons.2 ⟨loopOk1 (fuel := fuel65_2) (enc := S65_2.enc) (encH := S65_2.encH) (fun vs hs k => by kernel_rfl) dec_enc65_2 (step65_2 gl ), (fun _ h => by simp at h)⟩
def mk65 (legs : List Leg) (t : Int) (k : Nat) : Option Leg → S65_2 × Bool
  | some l => (⟨t, true, legs, (legs.length : Int), (k : Int), l⟩, true)
  | none => (⟨t, false, legs, (legs.length : Int), (k : Int), dfLeg⟩, false)
theorem loop65 (legs : List Leg) (t : Int) (hx : legs.length ≤ 1000000) : (iter st65_2 (fuel65_2 (⟨t, false, legs, (legs.length : Int), 0, ⟨⟨0, 0⟩, ⟨0, 0⟩, 0, 0, 0, 0⟩⟩ : S65_2)) (⟨t, false, legs, (legs.length : Int), 0, ⟨⟨0, 0⟩, ⟨0, 0⟩, 0, 0, 0, 0⟩⟩ : S65_2) fun o2 => (match o2.2 with | true => an (.tup [.agg [.i .i64 o2.1.l.fr.x, .i .i64 o2.1.l.fr.y, .i .i64 o2.1.l.to_.x, .i .i64 o2.1.l.to_.y, .i .i64 o2.1.l.start, .i .i64 o2.1.l.arrive, .i .i64 o2.1.l.leave, .i .i64 o2.1.l.fuel], .b o2.1.t5]) | false => an (.tup [.agg [.i .i64 0, .i .i64 0, .i .i64 0, .i .i64 0, .i .i64 0, .i .i64 0, .i .i64 0, .i .i64 0], .b false]))) = an (.tup [.agg (ETy.cells .leg (atV legs t)), .b (atB legs t)]) := by
  refine (iter_all (step := st65_2) (F := fun k => (⟨t, false, legs, (legs.length : Int), (k : Int), dfLeg⟩ : S65_2)) (stop := fun k => (qAt t (atN .leg legs k)).map (mk65 legs t k)) (last := ((⟨t, false, legs, (legs.length : Int), (legs.length : Int), dfLeg⟩ : S65_2), false)) legs.length _ (fun k next hk => ?_) (fun next => ?_) _ (Nat.le_refl _) _ rfl).trans ?_
  · simp only [st65_2, decLt_nat hk, inB_nat hk, wr_succ (show k ≤ 1000000 by omega), atD, Int.toNat_natCast]
    show (match decide (t < (atN .leg legs k).start) with | true => _ | false => (match decide (t ≤ (atN .leg legs k).leave) with | true => _ | false => _)) = _
    rw [show qAt t (atN .leg legs k) = bif decide (t < (atN .leg legs k).start) then some none else bif decide (t ≤ (atN .leg legs k).leave) then some (some (atN .leg legs k)) else none from rfl]
    generalize decide (t < (atN .leg legs k).start) = a_
    generalize decide (t ≤ (atN .leg legs k).leave) = b_
    cases a_ <;> cases b_ <;> rfl
  · simp only [st65_2, decLt_self]
  · refine (runTo_some (stop := fun k => (qAt t (atN .leg legs k)).map (mk65 legs t k)) (last := ((⟨t, false, legs, (legs.length : Int), (legs.length : Int), dfLeg⟩ : S65_2), false)) (qAt t) (mk65 legs t) (fun o => (match o.2 with | true => an (.tup [.agg [.i .i64 o.1.l.fr.x, .i .i64 o.1.l.fr.y, .i .i64 o.1.l.to_.x, .i .i64 o.1.l.to_.y, .i .i64 o.1.l.start, .i .i64 o.1.l.arrive, .i .i64 o.1.l.leave, .i .i64 o.1.l.fuel], .b o.1.t5]) | false => an (.tup [.agg [.i .i64 0, .i .i64 0, .i .i64 0, .i .i64 0, .i .i64 0, .i .i64 0, .i .i64 0, .i .i64 0], .b false]))) (fun b => an (.tup [.agg (ETy.cells .leg (b.getD dfLeg)), .b b.isSome])) (fun k b => by cases b <;> rfl) legs (fun k hk => by show Option.map (mk65 legs t k) (qAt t (atN .leg legs k)) = _; rw [atN_nat hk]) legs.length 0 (by omega)).trans ?_
    rw [List.drop_zero]
    unfold atV atB atS
    cases legs.findSome? (qAt t) with
    | none => rfl
    | some b => rfl
theorem fn65 : FnOk 65 Tryd.f65 := ⟨by kernel_rfl, by kernel_rfl, by kernel_rfl, by kernel_rfl⟩
theorem e65 (gl : Gl) (legs : List Leg) (t : Int) : evFn (cx gl (mkG []) [] []) K65 L65 Tryd.f65 [.sl .leg legs, .i .i64 t] noObjs = (iter st65_2 (fuel65_2 (⟨t, false, legs, (legs.length : Int), 0, ⟨⟨0, 0⟩, ⟨0, 0⟩, 0, 0, 0, 0⟩⟩ : S65_2)) (⟨t, false, legs, (legs.length : Int), 0, ⟨⟨0, 0⟩, ⟨0, 0⟩, 0, 0, 0, 0⟩⟩ : S65_2) fun o2 => (match o2.2 with | true => an (.tup [.agg [.i .i64 o2.1.l.fr.x, .i .i64 o2.1.l.fr.y, .i .i64 o2.1.l.to_.x, .i .i64 o2.1.l.to_.y, .i .i64 o2.1.l.start, .i .i64 o2.1.l.arrive, .i .i64 o2.1.l.leave, .i .i64 o2.1.l.fuel], .b o2.1.t5]) | false => an (.tup [.agg [.i .i64 0, .i .i64 0, .i .i64 0, .i .i64 0, .i .i64 0, .i .i64 0, .i .i64 0, .i .i64 0], .b false]))) := by kernel_rfl
def F65 : List PV → Option (Bool × PV)
  | [.sl .leg legs, .i .i64 t] => some ((decide (legs.length ≤ 1000000)), .tup [.agg [.i .i64 ((atV legs t).fr.x), .i .i64 ((atV legs t).fr.y), .i .i64 ((atV legs t).to_.x), .i .i64 ((atV legs t).to_.y), .i .i64 ((atV legs t).start), .i .i64 ((atV legs t).arrive), .i .i64 ((atV legs t).leave), .i .i64 ((atV legs t).fuel)], .b (atB legs t)])
  | _ => none
theorem s65 {gl : Gl} : Sum gl 65 F65 := by
  intro ps r h
  unfold F65 at h
  split at h
  · rename_i legs t
    obtain ⟨hc, rfl⟩ := Prod.mk.inj (Option.some.inj h)
    refine call_by (K := K65) (L := L65) (bxs := []) (ows := []) (GOk.nil) fn65 (l65 gl) (by kernel_rfl) (evF_some ((e65 gl legs t).trans ?_))
    exact loop65 legs t (of_decide_eq_true hc)
  · simp at h
def byS (l : List Leg) (t : Int) : Int := bif decide (t < (atN .leg l 0).start) then -1 else idxI (fun x => decide (x.leave ≥ t)) l
structure S67_4 where
  l : List Leg
  t : Int
  r : Int
  i : Int
def S67_4.enc (s : S67_4) : List PV := [.sl .leg s.l, .i .i64 s.t, .i .i64 s.r, .i .i64 s.i]
def S67_4.encH (s : S67_4) : Heap := []
def dec67_4 : List PV → Heap → Option S67_4
  | [.sl .leg l_, .i .i64 t_, .i .i64 r_, .i .i64 i_], [] => some ⟨l_, t_, r_, i_⟩
  | _, _ => none
theorem dec_enc67_4 (vs : List PV) (hs : Heap) (s : S67_4) (h : dec67_4 vs hs = some s) : vs = s.enc ∧ hs = s.encH := by
  unfold dec67_4 at h
  split at h
  · obtain rfl := Option.some.inj h
    exact ⟨rfl, rfl⟩
  · simp at h
def st67_4 {ρ : Type} (s : S67_4) (next : S67_4 → Option ρ) (out : S67_4 × Bool → Option ρ) : Option ρ := (match (decide (s.i < (s.l.length : Int))) with | true => (match (inB s.i s.l.length) with | true => (match (decide (((atD .leg s.l s.i).leave) ≥ s.t)) with | true => out (⟨s.l, s.t, s.i, s.i⟩, true) | false => next ⟨s.l, s.t, s.r, (wr (s.i + 1))⟩) | false => none) | false => out (s, false))
def out67_4 (k : Ex → List PV → Heap → Option R) (o : S67_4 × Bool) : Option R := match o.2 with
  | true => k .ret o.1.enc o.1.encH
  | false => k (.exit 0) o.1.enc o.1.encH
def fuel67_4 (s : S67_4) : Nat := s.l.length + 1
def K67 : Keep := fun _ => ([0, 1, 4, 5], [])
def L67 : Lam := loopL dec67_4 st67_4 fuel67_4 out67_4
noncomputable def b67_4 : Code := (loopsOf (bodyOf Tryd.f67)).getD 0 .skip
theorem step67_4 (gl : Gl) (j : Nat) (s : S67_4) (k : Ex → List PV → Heap → Option R) : unroll (cx gl (mkG []) [] []) K67 L67 Tryd.f67.ntmps (Tryd.f67.ntmps + 16) b67_4 (j + 1) s.enc s.encH k = st67_4 s (fun s' => unroll (cx gl (mkG []) [] []) K67 L67 Tryd.f67.ntmps (Tryd.f67.ntmps + 16) b67_4 j s'.enc s'.encH k) (out67_4 k) := by kernel_rfl
theorem l67 (gl : Gl) : LoopsOk (cx gl (mkG []) [] []) K67 L67 Tryd.f67.ntmps (Tryd.f67.ntmps + 16) (loopsOf (bodyOf Tryd.f67)) := by
  refine loopsOk_list (l := [b67_4]) (by kernel_rfl) ?_
  exact List.forall_mem_cons.2 ⟨loopOk1 (fuel := fuel67_4) (enc := S67_4.enc) (encH := S67_4.encH) (fun vs hs k => by kernel_rfl) dec_enc67_4 (step67_4 gl ), (fun _ h => by simp at h)⟩
theorem loop67 (l : List Leg) (t : Int) (hx : l.length ≤ 1000000) : (iter st67_4 (fuel67_4 (⟨l, t, 0, 0⟩ : S67_4)) (⟨l, t, 0, 0⟩ : S67_4) fun o4 => (match o4.2 with | true => an (.i .i64 o4.1.r) | false => an (.i .i64 (-1)))) = an (.i .i64 (idxI (fun x => decide (x.leave ≥ t)) l)) := by
  refine (iter_all (step := st67_4) (F := fun k => (⟨l, t, 0, (k : Int)⟩ : S67_4)) (stop := fun k => bif decide ((atN .leg l k).leave ≥ t) then some ((⟨l, t, (k : Int), (k : Int)⟩ : S67_4), true) else none) (last := ((⟨l, t, 0, (l.length : Int)⟩ : S67_4), false)) l.length _ (fun k next hk => ?_) (fun next => ?_) _ (Nat.le_refl _) _ rfl).trans ?_
  · simp only [st67_4, decLt_nat hk, inB_nat hk, wr_succ (show k ≤ 1000000 by omega), atD, Int.toNat_natCast]
    show (match decide ((atN .leg l k).leave ≥ t) with | true => _ | false => _) = _
    generalize decide ((atN .leg l k).leave ≥ t) = a_
    cases a_ <;> rfl
  · simp only [st67_4, decLt_self]
  · rw [runTo_find (fun x : Leg => decide (x.leave ≥ t)) (fun k => ((⟨l, t, (k : Int), (k : Int)⟩ : S67_4), true)) _ _ l (fun k hk => by rw [atN_nat hk]) l.length 0 (by omega), List.drop_zero]
    unfold idxI
    cases l.findIdx? (fun x : Leg => decide (x.leave ≥ t)) with
    | none => rfl
    | some k => (simp only [Nat.zero_add]; try rfl)
theorem fn67 : FnOk 67 Tryd.f67 := ⟨by kernel_rfl, by kernel_rfl, by kernel_rfl, by kernel_rfl⟩
theorem e67 (gl : Gl) (l : List Leg) (t : Int) : evFn (cx gl (mkG []) [] []) K67 L67 Tryd.f67 [.sl .leg l, .i .i64 t] noObjs = (match (inB 0 l.length) with | true => (match (decide (t < ((atD .leg l 0).start))) with | true => an (.i .i64 (-1)) | false => (iter st67_4 (fuel67_4 (⟨l, t, 0, 0⟩ : S67_4)) (⟨l, t, 0, 0⟩ : S67_4) fun o4 => (match o4.2 with | true => an (.i .i64 o4.1.r) | false => an (.i .i64 (-1))))) | false => none) := by kernel_rfl
def F67 : List PV → Option (Bool × PV)
  | [.sl .leg l, .i .i64 t] => some ((decide (l.length ≤ 1000000) && decide (1 ≤ l.length)), .i .i64 (byS l t))
  | _ => none
theorem s67 {gl : Gl} : Sum gl 67 F67 := by
  intro ps r h
  unfold F67 at h
  split at h
  · rename_i l t
    obtain ⟨hc, rfl⟩ := Prod.mk.inj (Option.some.inj h)
    refine call_by (K := K67) (L := L67) (bxs := []) (ows := []) (GOk.nil) fn67 (l67 gl) (by kernel_rfl) (evF_some ((e67 gl l t).trans ?_))
    rw [Bool.and_eq_true] at hc
    have h0 : inB 0 l.length = true := inB_nat (k := 0) (by have := of_decide_eq_true hc.2; omega)
    rw [h0]
    show (match decide (t < (atN .leg l 0).start) with | true => _ | false => _) = _
    unfold byS
    cases decide (t < (atN .leg l 0).start) with
    | true => rfl
    | false => exact loop67 l t (of_decide_eq_true hc.1)
  · simp at h
theorem fn66 : FnOk 66 Tryd.f66 := ⟨by kernel_rfl, by kernel_rfl, by kernel_rfl, by kernel_rfl⟩
def plX (l : Leg) (t : Int) : Int := bif (decide (t ≥ l.arrive)) then l.to_.x else (wr (l.fr.x + (floorS (wr ((wr (l.to_.x - l.fr.x)) * (wr (t - l.start)))) (wr (l.arrive - l.start)))))
def plY (l : Leg) (t : Int) : Int := bif (decide (t ≥ l.arrive)) then l.to_.y else (wr (l.fr.y + (floorS (wr ((wr (l.to_.y - l.fr.y)) * (wr (t - l.start)))) (wr (l.arrive - l.start)))))
def plHX (l : Leg) (t : Int) : Int := bif (decide (t ≥ l.arrive)) then l.to_.x else (wr (l.fr.x - (floorS (wr (0 - (wr ((wr (l.to_.x - l.fr.x)) * (wr (t - l.start)))))) (wr (l.arrive - l.start)))))
def plHY (l : Leg) (t : Int) : Int := bif (decide (t ≥ l.arrive)) then l.to_.y else (wr (l.fr.y - (floorS (wr (0 - (wr ((wr (l.to_.y - l.fr.y)) * (wr (t - l.start)))))) (wr (l.arrive - l.start)))))
def c66 (l : Leg) (t : Int) : Bool := bif (decide (t ≥ l.arrive)) then true else ((c98 (wr (l.arrive - l.start))) && ((c98 (wr (l.arrive - l.start))) && ((c98 (wr (l.arrive - l.start))) && (c98 (wr (l.arrive - l.start))))))
theorem e66 (gl : Gl) (l : Leg) (t : Int) : evFn (cx gl (mkG [(98, F98)]) [] []) noK noL Tryd.f66 [.agg [.i .i64 l.fr.x, .i .i64 l.fr.y, .i .i64 l.to_.x, .i .i64 l.to_.y, .i .i64 l.start, .i .i64 l.arrive, .i .i64 l.leave, .i .i64 l.fuel], .i .i64 t] noObjs = (match (decide (t ≥ l.arrive)) with | true => an (.tup [.agg [.i .i64 l.to_.x, .i .i64 l.to_.y], .agg [.i .i64 l.to_.x, .i .i64 l.to_.y]]) | false => (match (c98 (wr (l.arrive - l.start))) with | true => (match (c98 (wr (l.arrive - l.start))) with | true => (match (c98 (wr (l.arrive - l.start))) with | true => (match (c98 (wr (l.arrive - l.start))) with | true => an (.tup [.agg [.i .i64 (wr (l.fr.x + (floorS (wr ((wr (l.to_.x - l.fr.x)) * (wr (t - l.start)))) (wr (l.arrive - l.start))))), .i .i64 (wr (l.fr.y + (floorS (wr ((wr (l.to_.y - l.fr.y)) * (wr (t - l.start)))) (wr (l.arrive - l.start)))))], .agg [.i .i64 (wr (l.fr.x - (floorS (wr (0 - (wr ((wr (l.to_.x - l.fr.x)) * (wr (t - l.start)))))) (wr (l.arrive - l.start))))), .i .i64 (wr (l.fr.y - (floorS (wr (0 - (wr ((wr (l.to_.y - l.fr.y)) * (wr (t - l.start)))))) (wr (l.arrive - l.start)))))]]) | false => none) | false => none) | false => none) | false => none)) := by kernel_rfl
def F66 : List PV → Option (Bool × PV)
  | [.agg lL, .i .i64 t] => (ETy.dec .leg lL).bind fun l => some ((c66 l t), .tup [.agg [.i .i64 (plX l t), .i .i64 (plY l t)], .agg [.i .i64 (plHX l t), .i .i64 (plHY l t)]])
  | _ => none
theorem s66 {gl : Gl} : Sum gl 66 F66 := by
  intro ps r h
  unfold F66 at h
  split at h
  · rename_i lL t
    obtain ⟨l, hl, h_l⟩ := Option.bind_eq_some_iff.1 h
    obtain rfl := dec_is (by simp) hl
    obtain ⟨hc, rfl⟩ := Prod.mk.inj (Option.some.inj h_l)
    refine call_by (K := noK) (L := noL) (bxs := []) (ows := []) (GOk.cons s98 (GOk.nil)) fn66 (noLoops (by kernel_rfl)) (by kernel_rfl) (evF_some ((e66 gl l t).trans ?_))
    try unfold plX at hc
    try unfold plY at hc
    try unfold plHX at hc
    try unfold plHY at hc
    try unfold c66 at hc
    try unfold plX
    try unfold plY
    try unfold plHX
    try unfold plHY
    try unfold c66
    revert hc
    generalize ((decide (t ≥ l.arrive))) = b_
    cases b_
    · intro hc
      revert hc
      generalize ((c98 (wr (l.arrive - l.start)))) = b_
      cases b_
      · intro hc
        exact Bool.noConfusion (show false = true from hc)
      · intro hc
        rfl
    · intro hc
      rfl
  · simp at h
theorem fn99 : FnOk 99 Tryd.f99 := ⟨by kernel_rfl, by kernel_rfl, by kernel_rfl, by kernel_rfl⟩
def partL (a : Int) (b : Int) (n : Int) (of_ : Int) : Int := bif (decide ((Int.tmod (wr ((wr (b - a)) * n)) of_) < 0)) then (wr ((wr (a + (wr (Int.tdiv (wr ((wr (b - a)) * n)) of_)))) - 1)) else (wr (a + (wr (Int.tdiv (wr ((wr (b - a)) * n)) of_))))
def partH (a : Int) (b : Int) (n : Int) (of_ : Int) : Int := bif (decide ((Int.tmod (wr ((wr (b - a)) * n)) of_) < 0)) then (wr (a + (wr (Int.tdiv (wr ((wr (b - a)) * n)) of_)))) else (bif (decide ((Int.tmod (wr ((wr (b - a)) * n)) of_) > 0)) then (wr ((wr (a + (wr (Int.tdiv (wr ((wr (b - a)) * n)) of_)))) + 1)) else (wr (a + (wr (Int.tdiv (wr ((wr (b - a)) * n)) of_)))))
def c99 (of_ : Int) : Bool := (!(of_ == 0)) && (!(of_ == 0))
theorem e99 (gl : Gl) (a : Int) (b : Int) (n : Int) (of_ : Int) : evFn (cx gl (mkG []) [] []) noK noL Tryd.f99 [.i .i64 a, .i .i64 b, .i .i64 n, .i .i64 of_] noObjs = (match (!(of_ == 0)) with | true => (match (!(of_ == 0)) with | true => (match (decide ((Int.tmod (wr ((wr (b - a)) * n)) of_) < 0)) with | true => an (.tup [.i .i64 (wr ((wr (a + (wr (Int.tdiv (wr ((wr (b - a)) * n)) of_)))) - 1)), .i .i64 (wr (a + (wr (Int.tdiv (wr ((wr (b - a)) * n)) of_))))]) | false => (match (decide ((Int.tmod (wr ((wr (b - a)) * n)) of_) > 0)) with | true => an (.tup [.i .i64 (wr (a + (wr (Int.tdiv (wr ((wr (b - a)) * n)) of_)))), .i .i64 (wr ((wr (a + (wr (Int.tdiv (wr ((wr (b - a)) * n)) of_)))) + 1))]) | false => an (.tup [.i .i64 (wr (a + (wr (Int.tdiv (wr ((wr (b - a)) * n)) of_)))), .i .i64 (wr (a + (wr (Int.tdiv (wr ((wr (b - a)) * n)) of_))))]))) | false => none) | false => none) := by kernel_rfl
def F99 : List PV → Option (Bool × PV)
  | [.i .i64 a, .i .i64 b, .i .i64 n, .i .i64 of_] => some ((c99 of_), .tup [.i .i64 (partL a b n of_), .i .i64 (partH a b n of_)])
  | _ => none
theorem s99 {gl : Gl} : Sum gl 99 F99 := by
  intro ps r h
  unfold F99 at h
  split at h
  · rename_i a b n of_
    obtain ⟨hc, rfl⟩ := Prod.mk.inj (Option.some.inj h)
    refine call_by (K := noK) (L := noL) (bxs := []) (ows := []) (GOk.nil) fn99 (noLoops (by kernel_rfl)) (by kernel_rfl) (evF_some ((e99 gl a b n of_).trans ?_))
    try unfold partL at hc
    try unfold partH at hc
    try unfold c99 at hc
    try unfold partL
    try unfold partH
    try unfold c99
    revert hc
    generalize ((!(of_ == 0))) = b_
    cases b_
    · intro hc
      exact Bool.noConfusion (show false = true from hc)
    · intro hc
      revert hc
      generalize ((decide ((Int.tmod (wr ((wr (b - a)) * n)) of_) < 0))) = b_
      cases b_
      · intro hc
        revert hc
        generalize ((decide ((Int.tmod (wr ((wr (b - a)) * n)) of_) > 0))) = b_
        cases b_
        · intro hc
          rfl
        · intro hc
          rfl
      · intro hc
        rfl
  · simp at h
theorem fn68 : FnOk 68 Tryd.f68 := ⟨by kernel_rfl, by kernel_rfl, by kernel_rfl, by kernel_rfl⟩
def prX (x : Leg) (t : Int) : Int := bif (decide (t ≥ x.arrive)) then x.to_.x else (partL x.fr.x x.to_.x (wr (t - x.start)) (wr (x.arrive - x.start)))
def prY (x : Leg) (t : Int) : Int := bif (decide (t ≥ x.arrive)) then x.to_.y else (partL x.fr.y x.to_.y (wr (t - x.start)) (wr (x.arrive - x.start)))
def prHX (x : Leg) (t : Int) : Int := bif (decide (t ≥ x.arrive)) then x.to_.x else (partH x.fr.x x.to_.x (wr (t - x.start)) (wr (x.arrive - x.start)))
def prHY (x : Leg) (t : Int) : Int := bif (decide (t ≥ x.arrive)) then x.to_.y else (partH x.fr.y x.to_.y (wr (t - x.start)) (wr (x.arrive - x.start)))
def c68 (x : Leg) (t : Int) : Bool := bif (decide (t ≥ x.arrive)) then true else ((c99 (wr (x.arrive - x.start))) && (c99 (wr (x.arrive - x.start))))
theorem e68 (gl : Gl) (x : Leg) (t : Int) : evFn (cx gl (mkG [(99, F99)]) [] []) noK noL Tryd.f68 [.agg [.i .i64 x.fr.x, .i .i64 x.fr.y, .i .i64 x.to_.x, .i .i64 x.to_.y, .i .i64 x.start, .i .i64 x.arrive, .i .i64 x.leave, .i .i64 x.fuel], .i .i64 t] noObjs = (match (decide (t ≥ x.arrive)) with | true => an (.tup [.agg [.i .i64 x.to_.x, .i .i64 x.to_.y], .agg [.i .i64 x.to_.x, .i .i64 x.to_.y]]) | false => (match (c99 (wr (x.arrive - x.start))) with | true => (match (c99 (wr (x.arrive - x.start))) with | true => an (.tup [.agg [.i .i64 (partL x.fr.x x.to_.x (wr (t - x.start)) (wr (x.arrive - x.start))), .i .i64 (partL x.fr.y x.to_.y (wr (t - x.start)) (wr (x.arrive - x.start)))], .agg [.i .i64 (partH x.fr.x x.to_.x (wr (t - x.start)) (wr (x.arrive - x.start))), .i .i64 (partH x.fr.y x.to_.y (wr (t - x.start)) (wr (x.arrive - x.start)))]]) | false => none) | false => none)) := by kernel_rfl
def F68 : List PV → Option (Bool × PV)
  | [.agg xL, .i .i64 t] => (ETy.dec .leg xL).bind fun x => some ((c68 x t), .tup [.agg [.i .i64 (prX x t), .i .i64 (prY x t)], .agg [.i .i64 (prHX x t), .i .i64 (prHY x t)]])
  | _ => none
theorem s68 {gl : Gl} : Sum gl 68 F68 := by
  intro ps r h
  unfold F68 at h
  split at h
  · rename_i xL t
    obtain ⟨x, hx, h_x⟩ := Option.bind_eq_some_iff.1 h
    obtain rfl := dec_is (by simp) hx
    obtain ⟨hc, rfl⟩ := Prod.mk.inj (Option.some.inj h_x)
    refine call_by (K := noK) (L := noL) (bxs := []) (ows := []) (GOk.cons s99 (GOk.nil)) fn68 (noLoops (by kernel_rfl)) (by kernel_rfl) (evF_some ((e68 gl x t).trans ?_))
    try unfold prX at hc
    try unfold prY at hc
    try unfold prHX at hc
    try unfold prHY at hc
    try unfold c68 at hc
    try unfold prX
    try unfold prY
    try unfold prHX
    try unfold prHY
    try unfold c68
    revert hc
    generalize ((decide (t ≥ x.arrive))) = b_
    cases b_
    · intro hc
      revert hc
      generalize ((c99 (wr (x.arrive - x.start)))) = b_
      cases b_
      · intro hc
        exact Bool.noConfusion (show false = true from hc)
      · intro hc
        rfl
    · intro hc
      rfl
  · simp at h
end Go.Proofs.YtnbcmgdogohenaaDoor.Ev
/- Pure laws: valid legs; the leg at a time; the place on a leg. -/
namespace Go.Proofs.YtnbcmgdogohenaaDoor.Ev
open Go Go.RowKit

theorem within_iff (n a b : Int) : within n a b = true ↔ a ≤ n ∧ n ≤ b := by
  unfold within
  rw [bif_f, Bool.and_eq_true, decide_eq_true_eq, decide_eq_true_eq]
theorem timed_iff (n : Int) : timed n = true ↔ 0 ≤ n ∧ n ≤ 1073741824 := within_iff n 0 1073741824
theorem placed_iff (p : Spot) : placed p = true ↔ (-16777216 ≤ p.x ∧ p.x ≤ 16777216) ∧ -16777216 ≤ p.y ∧ p.y ≤ 16777216 := by
  unfold placed
  rw [bif_f, Bool.and_eq_true]
  rw [within_iff, within_iff]
/-- A valid leg. -/
structure LegP (x : Leg) : Prop where
  fr : placed x.fr = true
  to_ : placed x.to_ = true
  s0 : 0 ≤ x.start
  sa : x.start ≤ x.arrive
  al : x.arrive ≤ x.leave
  l1 : x.leave ≤ 1073741824
  same : x.start = x.arrive → x.fr = x.to_
  fuel : 0 ≤ x.fuel ∧ x.fuel ≤ 1073741824
theorem spot_ext {p q : Spot} (h1 : p.x = q.x) (h2 : p.y = q.y) : p = q := by cases p; cases q; simp_all
theorem legOk_P {x : Leg} (h : legOk x = true) : LegP x := by
  simp only [legOk, Bool.and_eq_true, Bool.or_eq_true, Bool.not_eq_true', decide_eq_true_eq, beq_eq_false_iff_ne, beq_iff_eq, timed_iff, within_iff] at h
  obtain ⟨h1, h2, h3, h4, h5, h6, h7, h8, h9⟩ := h
  refine ⟨h1, h2, h3.1, h6, h7, h5.2, fun he => ?_, h9⟩
  rcases h8 with h8 | h8
  · exact absurd he h8
  · exact spot_ext h8.1 h8.2.1
theorem linkOk_P {p x : Leg} (h : linkOk p x = true) : x.fr = p.to_ ∧ x.start = p.leave := by
  simp only [linkOk, Bool.and_eq_true, beq_iff_eq] at h
  exact ⟨spot_ext h.1.1 h.1.2.1, h.2⟩
structure LegsP (xs : List Leg) : Prop where
  ne : 0 < xs.length
  leg : ∀ k (hk : k < xs.length), LegP xs[k]
  link : ∀ k (hk : k + 1 < xs.length), xs[k + 1].fr = xs[k].to_ ∧ xs[k + 1].start = xs[k].leave
theorem legsOk_bad {xs : List Leg} (h : legsOk xs = true) : 0 < xs.length ∧ ∀ k, k < xs.length → legBad xs k = false := by
  unfold legsOk at h
  cases ha : (List.range' 0 xs.length).any (legBad xs) with
  | true => rw [ha] at h; exact Bool.noConfusion (show false = true from h)
  | false =>
    rw [ha] at h
    have h' : ((xs.length : Int) > 0) := of_decide_eq_true h
    refine ⟨by omega, fun k hk => ?_⟩
    rw [List.any_eq_false] at ha
    have := ha k (by rw [List.mem_range'_1]; omega)
    simpa using this
theorem legsOk_P {xs : List Leg} (h : legsOk xs = true) : LegsP xs := by
  obtain ⟨h0, hb⟩ := legsOk_bad h
  refine ⟨h0, fun k hk => ?_, fun k hk => ?_⟩
  · have := hb k hk
    cases k with
    | zero =>
      have : (!(legOk (atN .leg xs 0))) = false := this
      rw [atN_nat hk] at this
      exact legOk_P (by simpa using this)
    | succ j =>
      have : (!(legOk (atN .leg xs (j + 1))) || !(linkOk (atN .leg xs j) (atN .leg xs (j + 1)))) = false := this
      rw [Bool.or_eq_false_iff, atN_nat hk] at this
      exact legOk_P (by simpa using this.1)
  · have : (!(legOk (atN .leg xs (k + 1))) || !(linkOk (atN .leg xs k) (atN .leg xs (k + 1)))) = false := hb (k + 1) hk
    rw [Bool.or_eq_false_iff, atN_nat hk, atN_nat (show k < xs.length by omega)] at this
    exact linkOk_P (by simpa using this.2)

/-! ### The leg at a time -/
theorem LegsP.tail {x : Leg} {xs : List Leg} (h : LegsP (x :: xs)) (hne : xs ≠ []) : LegsP xs :=
  ⟨List.length_pos_iff.2 hne, fun k hk => h.leg (k + 1) (by simpa using hk), fun k hk => h.link (k + 1) (by simpa using hk)⟩
theorem findSome_at (t : Int) : ∀ (xs : List Leg), LegsP xs → (∀ (h : 0 < xs.length), xs[0].start ≤ t) → xs.findSome? (qAt t) = (xs.find? fun x => decide (x.leave ≥ t)).map some
  | [], h, _ => rfl
  | x :: xs, h, h0 => by
    have hs : x.start ≤ t := h0 (by simp)
    rw [List.findSome?_cons, List.find?_cons]
    rw [show qAt t x = bif decide (t < x.start) then some none else bif decide (t ≤ x.leave) then some (some x) else none from rfl, decide_eq_false (show ¬ t < x.start by omega)]
    by_cases hl : t ≤ x.leave
    · rw [decide_eq_true hl]
      rfl
    · rw [decide_eq_false hl]
      simp only [cond]
      by_cases hne : xs = []
      · subst hne; rfl
      · refine findSome_at t xs (h.tail hne) fun hp => ?_
        have := (h.link 0 (by simpa using hp)).2
        simp only [List.getElem_cons_succ, List.getElem_cons_zero, Nat.zero_add] at this
        omega
theorem find_idx (p : Leg → Bool) : ∀ (xs : List Leg), xs.find? p = (xs.findIdx? p).bind fun k => xs[k]?
  | [] => rfl
  | x :: xs => by
    rw [List.find?_cons, List.findIdx?_cons]
    cases p x with
    | true => rfl
    | false =>
      simp only [find_idx p xs]
      cases xs.findIdx? p <;> simp
/-- Both ways to find the leg at a time lead to the same. -/
theorem at_by {l : List Leg} (h : LegsP l) (t : Int) : (byS l t < 0 ∧ atS l t = none) ∨ ∃ k : Nat, byS l t = k ∧ ∃ hk : k < l.length, atS l t = some l[k] ∧ l[k].start ≤ t ∧ t ≤ l[k].leave := by
  have h0 := h.ne
  unfold byS atS
  rw [atN_nat (T := .leg) h0]
  by_cases hs : t < l[0].start
  · left
    rw [decide_eq_true hs]
    refine ⟨by show (-1 : Int) < 0; decide, ?_⟩
    obtain ⟨x, xs, rfl⟩ : ∃ x xs, l = x :: xs := by cases l with | nil => simp at h0 | cons x xs => exact ⟨x, xs, rfl⟩
    rw [List.findSome?_cons]
    unfold qAt
    rw [decide_eq_true (show t < x.start from hs)]
    rfl
  · rw [decide_eq_false hs]
    have key := findSome_at t l h fun _ => by omega
    rw [key, find_idx]
    show (idxI _ l < 0 ∧ _) ∨ _
    unfold idxI
    cases hf : l.findIdx? (fun x => decide (x.leave ≥ t)) with
    | none => left; exact ⟨by decide, rfl⟩
    | some k =>
      right
      rw [List.findIdx?_eq_some_iff_getElem] at hf
      obtain ⟨hk, hp, hlt⟩ := hf
      refine ⟨k, rfl, hk, by simp [hk], ?_, by simpa using hp⟩
      cases k with
      | zero => omega
      | succ j =>
        have := hlt j (Nat.lt_succ_self j)
        have hl := (h.link j hk).2
        simp at this
        omega

/-! ### The place on a leg -/
theorem wr_small {x : Int} (h1 : -4611686018427387904 ≤ x) (h2 : x ≤ 4611686018427387904) : wr x = x := wr_id (by omega) (by omega)
theorem mul_bound {a b A B : Int} (ha : -A ≤ a ∧ a ≤ A) (hb : 0 ≤ b ∧ b ≤ B) (hA : 0 ≤ A) : -(A * B) ≤ a * b ∧ a * b ≤ A * B := by
  have h1 : a * b ≤ A * b := Int.mul_le_mul_of_nonneg_right ha.2 hb.1
  have h2 : A * b ≤ A * B := Int.mul_le_mul_of_nonneg_left hb.2 hA
  have h3 : (-A) * b ≤ a * b := Int.mul_le_mul_of_nonneg_right ha.1 hb.1
  have h4 : (-A) * b = -(A * b) := Int.neg_mul A b
  omega
theorem tdiv_bound {n b : Int} (hb : 0 < b) : -(n.natAbs : Int) ≤ n.tdiv b ∧ n.tdiv b ≤ n.natAbs := by
  have := Int.natAbs_tdiv_le_natAbs n b
  omega
/-- A quotient rounded down; rounded up. -/
theorem floorS_eq {n b : Int} (hn : -2 ^ 60 ≤ n ∧ n ≤ 2 ^ 60) (hb : 0 < b) : floorS n b = if n.tmod b < 0 then n.tdiv b - 1 else n.tdiv b := by
  have hq := tdiv_bound (n := n) hb
  unfold floorS
  by_cases h : n.tmod b < 0
  · rw [decide_eq_true h, if_pos h]
    show wr (wr (n.tdiv b) - 1) = _
    rw [wr_small (x := n.tdiv b) (by omega) (by omega), wr_small (by omega) (by omega)]
  · rw [decide_eq_false h, if_neg h]
    exact wr_small (by omega) (by omega)
theorem part_eq {a b n of_ : Int} (ha : -16777216 ≤ a ∧ a ≤ 16777216) (hb : -16777216 ≤ b ∧ b ≤ 16777216) (hn : 0 ≤ n ∧ n ≤ 1073741824) (ho : 0 < of_) (ho1 : of_ ≤ 1073741824) :
    wr (a + floorS (wr (wr (b - a) * n)) of_) = partL a b n of_ ∧ wr (a - floorS (wr (0 - wr (wr (b - a) * n))) of_) = partH a b n of_ := by
  have hd : wr (b - a) = b - a := wr_small (by omega) (by omega)
  have hm := mul_bound (a := b - a) (b := n) (A := 33554432) (B := 1073741824) (by omega) hn (by omega)
  have hp : wr ((b - a) * n) = (b - a) * n := wr_small (by omega) (by omega)
  unfold partL partH
  rw [hd, hp]
  generalize (b - a) * n = x at *
  have hx : wr (0 - x) = -x := by rw [wr_small (by omega) (by omega)]; omega
  rw [hx, floorS_eq (by omega) ho, floorS_eq (by omega) ho]
  have hq := tdiv_bound (n := x) ho
  have hqn : (x.natAbs : Int) ≤ 2 ^ 56 := by omega
  rw [wr_small (x := x.tdiv of_) (by omega) (by omega), wr_small (x := a + x.tdiv of_) (by omega) (by omega), Int.neg_tdiv, Int.neg_tmod]
  by_cases h1 : x.tmod of_ < 0
  · rw [if_pos h1, if_neg (by omega), decide_eq_true h1]
    refine ⟨?_, ?_⟩
    · show wr (a + (x.tdiv of_ - 1)) = wr (a + x.tdiv of_ - 1)
      congr 1
      omega
    · show wr (a - -x.tdiv of_) = a + x.tdiv of_
      rw [wr_small (by omega) (by omega)]
      omega
  · rw [if_neg h1, decide_eq_false h1]
    refine ⟨?_, ?_⟩
    · show wr (a + x.tdiv of_) = a + x.tdiv of_
      rw [wr_small (by omega) (by omega)]
    · by_cases h2 : x.tmod of_ > 0
      · rw [if_pos (by omega), decide_eq_true h2]
        show wr (a - (-x.tdiv of_ - 1)) = wr (a + x.tdiv of_ + 1)
        congr 1
        omega
      · rw [if_neg (by omega), decide_eq_false h2]
        show wr (a - -x.tdiv of_) = a + x.tdiv of_
        rw [wr_small (by omega) (by omega)]
        omega
theorem place_eq {x : Leg} (h : LegP x) {t : Int} (ht : x.start ≤ t) : plX x t = prX x t ∧ plY x t = prY x t ∧ plHX x t = prHX x t ∧ plHY x t = prHY x t ∧ c66 x t = true ∧ c68 x t = true := by
  have hf := (placed_iff _).1 h.fr
  have hto := (placed_iff _).1 h.to_
  have h1 := h.s0
  have h2 := h.sa
  have h3 := h.al
  have h4 := h.l1
  unfold plX plY plHX plHY prX prY prHX prHY c66 c68
  by_cases hta : t ≥ x.arrive
  · rw [decide_eq_true hta]
    exact ⟨rfl, rfl, rfl, rfl, rfl, rfl⟩
  · rw [decide_eq_false hta]
    have hn : wr (t - x.start) = t - x.start := wr_small (by omega) (by omega)
    have ho : wr (x.arrive - x.start) = x.arrive - x.start := wr_small (by omega) (by omega)
    rw [hn, ho]
    have ex := part_eq (a := x.fr.x) (b := x.to_.x) (n := t - x.start) (of_ := x.arrive - x.start) hf.1 hto.1 (by omega) (by omega) (by omega)
    have ey := part_eq (a := x.fr.y) (b := x.to_.y) (n := t - x.start) (of_ := x.arrive - x.start) hf.2 hto.2 (by omega) (by omega) (by omega)
    have hz : ((x.arrive - x.start) == 0) = false := by
      rw [beq_eq_false_iff_ne]
      omega
    refine ⟨ex.1, ey.1, ex.2, ey.2, ?_, ?_⟩
    · simp only [c98, hz]; rfl
    · simp only [c99, hz]; rfl
theorem at_ok {l : List Leg} {t : Int} (h : legsOk l = true) (ha : atB l t = true) : LegP (atV l t) ∧ (atV l t).start ≤ t ∧ t ≤ (atV l t).leave ∧ decide (byS l t < 0) = false ∧ inB (byS l t) l.length = true ∧ atD .leg l (byS l t) = atV l t ∧ ∃ k : Nat, ∃ hk : k < l.length, atV l t = l[k] := by
  have hp := legsOk_P h
  unfold atB at ha
  rcases at_by hp t with ⟨_, h2⟩ | ⟨k, h1, hk, h2, h3, h4⟩
  · rw [h2] at ha; simp at ha
  · have hv : atV l t = l[k] := by unfold atV; rw [h2]; rfl
    rw [hv, h1]
    exact ⟨hp.leg k hk, h3, h4, decide_eq_false (by omega), inB_nat hk, atD_nat hk, k, hk, rfl⟩
theorem at_no {l : List Leg} {t : Int} (h : legsOk l = true) (ha : atB l t = false) : decide (byS l t < 0) = true := by
  have hp := legsOk_P h
  unfold atB at ha
  rcases at_by hp t with ⟨h1, _⟩ | ⟨k, h1, hk, h2, h3, h4⟩
  · exact decide_eq_true h1
  · rw [h2] at ha; simp at ha
theorem legsOk_pos {l : List Leg} (h : legsOk l = true) : decide (1 ≤ l.length) = true := decide_eq_true (legsOk_P h).ne
end Go.Proofs.YtnbcmgdogohenaaDoor.Ev
/- Summaries of functions, printed by a program out of a list, and what is made of them. -/
namespace Go.Proofs.YtnbcmgdogohenaaDoor.Ev
open Go Go.RowKit Go.Proofs
theorem fn27 : FnOk 27 Tryd.f27 := ⟨by kernel_rfl, by kernel_rfl, by kernel_rfl, by kernel_rfl⟩
def whX (legs : List Leg) (t : Int) : Int := bif (!(legsOk legs)) then 0 else (bif (!(atB legs t)) then 0 else (plX (atV legs t) t))
def whY (legs : List Leg) (t : Int) : Int := bif (!(legsOk legs)) then 0 else (bif (!(atB legs t)) then 0 else (plY (atV legs t) t))
def whHX (legs : List Leg) (t : Int) : Int := bif (!(legsOk legs)) then 0 else (bif (!(atB legs t)) then 0 else (plHX (atV legs t) t))
def whHY (legs : List Leg) (t : Int) : Int := bif (!(legsOk legs)) then 0 else (bif (!(atB legs t)) then 0 else (plHY (atV legs t) t))
def whE (legs : List Leg) (t : Int) : Int := bif (!(legsOk legs)) then 2 else (bif (!(atB legs t)) then 7 else 0)
theorem e27 (gl : Gl) (legs : List Leg) (t : Int) : evFn (cx gl (mkG [(64, F64), (65, F65), (66, F66)]) [] []) noK noL Tryd.f27 [.sl .leg legs, .i .i64 t] noObjs = (match (decide (legs.length ≤ 1000000)) with | true => (match (!(legsOk legs)) with | true => an (.tup [.agg [.i .i64 0, .i .i64 0], .agg [.i .i64 0, .i .i64 0], .i .i64 2]) | false => (match (decide (legs.length ≤ 1000000)) with | true => (match (!(atB legs t)) with | true => an (.tup [.agg [.i .i64 0, .i .i64 0], .agg [.i .i64 0, .i .i64 0], .i .i64 7]) | false => (match (c66 (atV legs t) t) with | true => an (.tup [.agg [.i .i64 (plX (atV legs t) t), .i .i64 (plY (atV legs t) t)], .agg [.i .i64 (plHX (atV legs t) t), .i .i64 (plHY (atV legs t) t)], .i .i64 0]) | false => none)) | false => none)) | false => none) := by kernel_rfl
def F27 : List PV → Option (Bool × PV)
  | [.sl .leg legs, .i .i64 t] => some ((decide (legs.length ≤ 1000000)), .tup [.agg [.i .i64 (whX legs t), .i .i64 (whY legs t)], .agg [.i .i64 (whHX legs t), .i .i64 (whHY legs t)], .i .i64 (whE legs t)])
  | _ => none
theorem s27 {gl : Gl} : Sum gl 27 F27 := by
  intro ps r h
  unfold F27 at h
  split at h
  · rename_i legs t
    obtain ⟨hc, rfl⟩ := Prod.mk.inj (Option.some.inj h)
    refine call_by (K := noK) (L := noL) (bxs := []) (ows := []) (GOk.cons s64 (GOk.cons s65 (GOk.cons s66 (GOk.nil)))) fn27 (noLoops (by kernel_rfl)) (by kernel_rfl) (evF_some ((e27 gl legs t).trans ?_))
    rw [hc]
    unfold whX whY whHX whHY whE
    cases hL : legsOk legs with
    | false => rfl
    | true =>
      cases hA : atB legs t with
      | false => rfl
      | true =>
        obtain ⟨h1, h2, _⟩ := at_ok hL hA
        rw [(place_eq h1 h2).2.2.2.2.1]
        rfl
  · simp at h
theorem fn28 : FnOk 28 Tryd.f28 := ⟨by kernel_rfl, by kernel_rfl, by kernel_rfl, by kernel_rfl⟩
theorem e28 (gl : Gl) (l : List Leg) (t : Int) : evFn (cx gl (mkG [(36, F36), (67, F67), (68, F68)]) [] []) noK noL Tryd.f28 [.sl .leg l, .i .i64 t] noObjs = (match (decide (l.length ≤ 1000000)) with | true => (match (!(legsOk l)) with | true => an (.tup [.agg [.i .i64 0, .i .i64 0], .agg [.i .i64 0, .i .i64 0], .i .i64 2]) | false => (match (decide (l.length ≤ 1000000) && decide (1 ≤ l.length)) with | true => (match (decide ((byS l t) < 0)) with | true => an (.tup [.agg [.i .i64 0, .i .i64 0], .agg [.i .i64 0, .i .i64 0], .i .i64 7]) | false => (match (inB (byS l t) l.length) with | true => (match (c68 (atD .leg l (byS l t)) t) with | true => an (.tup [.agg [.i .i64 (prX (atD .leg l (byS l t)) t), .i .i64 (prY (atD .leg l (byS l t)) t)], .agg [.i .i64 (prHX (atD .leg l (byS l t)) t), .i .i64 (prHY (atD .leg l (byS l t)) t)], .i .i64 0]) | false => none) | false => none)) | false => none)) | false => none) := by kernel_rfl
def F28 : List PV → Option (Bool × PV)
  | [.sl .leg l, .i .i64 t] => some ((decide (l.length ≤ 1000000)), .tup [.agg [.i .i64 (whX l t), .i .i64 (whY l t)], .agg [.i .i64 (whHX l t), .i .i64 (whHY l t)], .i .i64 (whE l t)])
  | _ => none
theorem s28 {gl : Gl} : Sum gl 28 F28 := by
  intro ps r h
  unfold F28 at h
  split at h
  · rename_i l t
    obtain ⟨hc, rfl⟩ := Prod.mk.inj (Option.some.inj h)
    refine call_by (K := noK) (L := noL) (bxs := []) (ows := []) (GOk.cons s36 (GOk.cons s67 (GOk.cons s68 (GOk.nil)))) fn28 (noLoops (by kernel_rfl)) (by kernel_rfl) (evF_some ((e28 gl l t).trans ?_))
    rw [hc]
    unfold whX whY whHX whHY whE
    cases hL : legsOk l with
    | false => rfl
    | true =>
      rw [legsOk_pos hL]
      cases hA : atB l t with
      | false =>
        simp only [at_no hL hA]
        rfl
      | true =>
        obtain ⟨h1, h2, _, h3, h4, h5, _⟩ := at_ok hL hA
        obtain ⟨e1, e2, e3, e4, _, e6⟩ := place_eq h1 h2
        simp only [h3, h4, h5, e6, ← e1, ← e2, ← e3, ← e4]
        rfl
  · simp at h
theorem fn29 : FnOk 29 Tryd.f29 := ⟨by kernel_rfl, by kernel_rfl, by kernel_rfl, by kernel_rfl⟩
def leftV (u : Unit') (legs : List Leg) (t : Int) : Int := bif (bif (!(unitOk u)) then true else (!(legsOk legs))) then 0 else (bif (!(atB legs t)) then 0 else (wr (((atV legs t).fuel) + (wr (Int.tdiv (wr (u.burn * (wr (((atV legs t).leave) - t)))) 3600)))))
def leftE (u : Unit') (legs : List Leg) (t : Int) : Int := bif (bif (!(unitOk u)) then true else (!(legsOk legs))) then 2 else (bif (!(atB legs t)) then 7 else 0)
theorem e29 (gl : Gl) (u : Unit') (legs : List Leg) (t : Int) : evFn (cx gl (mkG [(19, F19), (64, F64), (65, F65)]) [] []) noK noL Tryd.f29 [.agg [.s u.name, .i .i64 u.speed, .i .i64 u.fuel, .i .i64 u.burn, .i .i64 u.reserve, .i .i64 u.hours, .i .i64 u.sea, .i .i64 u.wind, .i .i64 u.base.x, .i .i64 u.base.y, .i .i64 u.margin, .i .i64 u.level], .sl .leg legs, .i .i64 t] noObjs = (match ((decide (legs.length ≤ 1000000)) || ((!(unitOk u)) || false)) with | true => (match (bif (!(unitOk u)) then true else (!(legsOk legs))) with | true => an (.tup [.i .i64 0, .i .i64 2]) | false => (match (decide (legs.length ≤ 1000000)) with | true => (match (!(atB legs t)) with | true => an (.tup [.i .i64 0, .i .i64 7]) | false => an (.tup [.i .i64 (wr (((atV legs t).fuel) + (wr (Int.tdiv (wr (u.burn * (wr (((atV legs t).leave) - t)))) 3600)))), .i .i64 0])) | false => none)) | false => none) := by kernel_rfl
def F29 : List PV → Option (Bool × PV)
  | [.agg uL, .sl .leg legs, .i .i64 t] => (ETy.dec .unit uL).bind fun u => some ((decide (legs.length ≤ 1000000)), .tup [.i .i64 (leftV u legs t), .i .i64 (leftE u legs t)])
  | _ => none
theorem s29 {gl : Gl} : Sum gl 29 F29 := by
  intro ps r h
  unfold F29 at h
  split at h
  · rename_i uL legs t
    obtain ⟨u, hu, h_u⟩ := Option.bind_eq_some_iff.1 h
    obtain rfl := dec_is (by simp) hu
    obtain ⟨hc, rfl⟩ := Prod.mk.inj (Option.some.inj h_u)
    refine call_by (K := noK) (L := noL) (bxs := []) (ows := []) (GOk.cons s19 (GOk.cons s64 (GOk.cons s65 (GOk.nil)))) fn29 (noLoops (by kernel_rfl)) (by kernel_rfl) (evF_some ((e29 gl u legs t).trans ?_))
    rw [hc]
    unfold leftV leftE
    cases hU : unitOk _ with
    | false => rfl
    | true =>
      cases hL : legsOk legs with
      | false => rfl
      | true =>
        cases hA : atB legs t with
        | false => rfl
        | true => rfl
  · simp at h
theorem fn30 : FnOk 30 Tryd.f30 := ⟨by kernel_rfl, by kernel_rfl, by kernel_rfl, by kernel_rfl⟩
theorem e30 (gl : Gl) (u : Unit') (l : List Leg) (t : Int) : evFn (cx gl (mkG [(20, F20), (36, F36), (67, F67)]) [] []) noK noL Tryd.f30 [.agg [.s u.name, .i .i64 u.speed, .i .i64 u.fuel, .i .i64 u.burn, .i .i64 u.reserve, .i .i64 u.hours, .i .i64 u.sea, .i .i64 u.wind, .i .i64 u.base.x, .i .i64 u.base.y, .i .i64 u.margin, .i .i64 u.level], .sl .leg l, .i .i64 t] noObjs = (match ((decide (l.length ≤ 1000000)) || ((!(unitOk u)) || false)) with | true => (match (bif (!(unitOk u)) then true else (!(legsOk l))) with | true => an (.tup [.i .i64 0, .i .i64 2]) | false => (match (decide (l.length ≤ 1000000) && decide (1 ≤ l.length)) with | true => (match (decide ((byS l t) < 0)) with | true => an (.tup [.i .i64 0, .i .i64 7]) | false => (match (inB (byS l t) l.length) with | true => (match (inB (byS l t) l.length) with | true => an (.tup [.i .i64 (wr (((atD .leg l (byS l t)).fuel) + (wr (Int.tdiv (wr (u.burn * (wr (((atD .leg l (byS l t)).leave) - t)))) 3600)))), .i .i64 0]) | false => none) | false => none)) | false => none)) | false => none) := by kernel_rfl
def F30 : List PV → Option (Bool × PV)
  | [.agg uL, .sl .leg l, .i .i64 t] => (ETy.dec .unit uL).bind fun u => some ((decide (l.length ≤ 1000000)), .tup [.i .i64 (leftV u l t), .i .i64 (leftE u l t)])
  | _ => none
theorem s30 {gl : Gl} : Sum gl 30 F30 := by
  intro ps r h
  unfold F30 at h
  split at h
  · rename_i uL l t
    obtain ⟨u, hu, h_u⟩ := Option.bind_eq_some_iff.1 h
    obtain rfl := dec_is (by simp) hu
    obtain ⟨hc, rfl⟩ := Prod.mk.inj (Option.some.inj h_u)
    refine call_by (K := noK) (L := noL) (bxs := []) (ows := []) (GOk.cons s20 (GOk.cons s36 (GOk.cons s67 (GOk.nil)))) fn30 (noLoops (by kernel_rfl)) (by kernel_rfl) (evF_some ((e30 gl u l t).trans ?_))
    rw [hc]
    unfold leftV leftE
    cases hU : unitOk _ with
    | false => rfl
    | true =>
      cases hL : legsOk l with
      | false => rfl
      | true =>
        rw [legsOk_pos hL]
        cases hA : atB l t with
        | false =>
          simp only [at_no hL hA]
          rfl
        | true =>
          obtain ⟨h1, h2, _, h3, h4, h5, _⟩ := at_ok hL hA
          simp only [h3, h4, h5]
          rfl
  · simp at h
end Go.Proofs.YtnbcmgdogohenaaDoor.Ev
