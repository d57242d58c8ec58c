/- Summaries of functions, printed by a program out of a list, and what is made of them. -/
import Derived.Test.YtnbcmgdogohenaaDoorKp
set_option linter.unusedVariables false
set_option linter.unusedSimpArgs false
set_option maxRecDepth 100000
namespace Go.Proofs.YtnbcmgdogohenaaDoor.Ev
open Go Go.RowKit Go.Proofs
theorem fn55 : FnOk 55 Tryd.f55 := ⟨by kernel_rfl, by kernel_rfl, by kernel_rfl, by kernel_rfl⟩
def within (n : Int) (a : Int) (b : Int) : Bool := bif (decide (a ≤ n)) then (decide (n ≤ b)) else false
theorem e55 (gl : Gl) (n : Int) (a : Int) (b : Int) : evFn (cx gl (mkG []) [] []) noK noL Tryd.f55 [.i .i64 n, .i .i64 a, .i .i64 b] noObjs = an (.b (bif (decide (a ≤ n)) then (decide (n ≤ b)) else false)) := by kernel_rfl
def F55 : List PV → Option (Bool × PV)
  | [.i .i64 n, .i .i64 a, .i .i64 b] => some (true, .b (within n a b))
  | _ => none
theorem s55 {gl : Gl} : Sum gl 55 F55 := by
  intro ps r h
  unfold F55 at h
  split at h
  · rename_i n a b
    obtain ⟨hc, rfl⟩ := Prod.mk.inj (Option.some.inj h)
    refine call_by (K := noK) (L := noL) (bxs := []) (ows := []) (GOk.nil) fn55 (noLoops (by kernel_rfl)) (by kernel_rfl) (evF_some ((e55 gl n a b).trans ?_))
    try unfold within
    rfl
  · simp at h
theorem fn69 : FnOk 69 Tryd.f69 := ⟨by kernel_rfl, by kernel_rfl, by kernel_rfl, by kernel_rfl⟩
def In (n : Int) (a : Int) (b : Int) : Bool := bif (decide (n ≥ a)) then (decide (n ≤ b)) else false
theorem e69 (gl : Gl) (n : Int) (a : Int) (b : Int) : evFn (cx gl (mkG []) [] []) noK noL Tryd.f69 [.i .i64 n, .i .i64 a, .i .i64 b] noObjs = an (.b (bif (decide (n ≥ a)) then (decide (n ≤ b)) else false)) := by kernel_rfl
def F69 : List PV → Option (Bool × PV)
  | [.i .i64 n, .i .i64 a, .i .i64 b] => some (true, .b (In n a b))
  | _ => none
theorem s69 {gl : Gl} : Sum gl 69 F69 := by
  intro ps r h
  unfold F69 at h
  split at h
  · rename_i n a b
    obtain ⟨hc, rfl⟩ := Prod.mk.inj (Option.some.inj h)
    refine call_by (K := noK) (L := noL) (bxs := []) (ows := []) (GOk.nil) fn69 (noLoops (by kernel_rfl)) (by kernel_rfl) (evF_some ((e69 gl n a b).trans ?_))
    try unfold In
    rfl
  · simp at h
theorem fn56 : FnOk 56 Tryd.f56 := ⟨by kernel_rfl, by kernel_rfl, by kernel_rfl, by kernel_rfl⟩
theorem e56 (gl : Gl) (n : Int) (a : Int) (b : Int) : evFn (cx gl (mkG [(69, F69)]) [] []) noK noL Tryd.f56 [.i .i64 n, .i .i64 a, .i .i64 b] noObjs = an (.b (In n a b)) := by kernel_rfl
def F56 : List PV → Option (Bool × PV)
  | [.i .i64 n, .i .i64 a, .i .i64 b] => some (true, .b (In n a b))
  | _ => none
theorem s56 {gl : Gl} : Sum gl 56 F56 := by
  intro ps r h
  unfold F56 at h
  split at h
  · rename_i n a b
    obtain ⟨hc, rfl⟩ := Prod.mk.inj (Option.some.inj h)
    refine call_by (K := noK) (L := noL) (bxs := []) (ows := []) (GOk.cons s69 (GOk.nil)) fn56 (noLoops (by kernel_rfl)) (by kernel_rfl) (evF_some ((e56 gl n a b).trans ?_))
    rfl
  · simp at h
theorem fn52 : FnOk 52 Tryd.f52 := ⟨by kernel_rfl, by kernel_rfl, by kernel_rfl, by kernel_rfl⟩
def timed (n : Int) : Bool := within n 0 1073741824
theorem e52 (gl : Gl) (n : Int) : evFn (cx gl (mkG [(55, F55)]) [] []) noK noL Tryd.f52 [.i .i64 n] noObjs = an (.b (within n 0 1073741824)) := by kernel_rfl
def F52 : List PV → Option (Bool × PV)
  | [.i .i64 n] => some (true, .b (timed n))
  | _ => none
theorem s52 {gl : Gl} : Sum gl 52 F52 := by
  intro ps r h
  unfold F52 at h
  split at h
  · rename_i n
    obtain ⟨hc, rfl⟩ := Prod.mk.inj (Option.some.inj h)
    refine call_by (K := noK) (L := noL) (bxs := []) (ows := []) (GOk.cons s55 (GOk.nil)) fn52 (noLoops (by kernel_rfl)) (by kernel_rfl) (evF_some ((e52 gl n).trans ?_))
    try unfold timed
    rfl
  · simp at h
theorem fn46 : FnOk 46 Tryd.f46 := ⟨by kernel_rfl, by kernel_rfl, by kernel_rfl, by kernel_rfl⟩
def Time (n : Int) : Bool := In n 0 1073741824
theorem e46 (gl : Gl) (n : Int) : evFn (cx gl (mkG [(69, F69)]) [] []) noK noL Tryd.f46 [.i .i64 n] noObjs = an (.b (In n 0 1073741824)) := by kernel_rfl
def F46 : List PV → Option (Bool × PV)
  | [.i .i64 n] => some (true, .b (Time n))
  | _ => none
theorem s46 {gl : Gl} : Sum gl 46 F46 := by
  intro ps r h
  unfold F46 at h
  split at h
  · rename_i n
    obtain ⟨hc, rfl⟩ := Prod.mk.inj (Option.some.inj h)
    refine call_by (K := noK) (L := noL) (bxs := []) (ows := []) (GOk.cons s69 (GOk.nil)) fn46 (noLoops (by kernel_rfl)) (by kernel_rfl) (evF_some ((e46 gl n).trans ?_))
    try unfold Time
    rfl
  · simp at h
theorem fn48 : FnOk 48 Tryd.f48 := ⟨by kernel_rfl, by kernel_rfl, by kernel_rfl, by kernel_rfl⟩
def placed (p : Spot) : Bool := bif (within p.x (-16777216) 16777216) then (within p.y (-16777216) 16777216) else false
theorem e48 (gl : Gl) (p : Spot) : evFn (cx gl (mkG [(55, F55)]) [] []) noK noL Tryd.f48 [.agg [.i .i64 p.x, .i .i64 p.y]] noObjs = an (.b (bif (within p.x (-16777216) 16777216) then (within p.y (-16777216) 16777216) else false)) := by kernel_rfl
def F48 : List PV → Option (Bool × PV)
  | [.agg [.i .i64 p0, .i .i64 p1]] => some (true, .b (placed (⟨p0, p1⟩ : Spot)))
  | _ => none
theorem s48 {gl : Gl} : Sum gl 48 F48 := by
  intro ps r h
  unfold F48 at h
  split at h
  · rename_i p0 p1
    obtain ⟨hc, rfl⟩ := Prod.mk.inj (Option.some.inj h)
    refine call_by (K := noK) (L := noL) (bxs := []) (ows := []) (GOk.cons s55 (GOk.nil)) fn48 (noLoops (by kernel_rfl)) (by kernel_rfl) (evF_some ((e48 gl ⟨p0, p1⟩).trans ?_))
    try unfold placed
    rfl
  · simp at h
theorem fn32 : FnOk 32 Tryd.f32 := ⟨by kernel_rfl, by kernel_rfl, by kernel_rfl, by kernel_rfl⟩
def Place (p : Spot) : Bool := bif (In p.x (-16777216) 16777216) then (In p.y (-16777216) 16777216) else false
theorem e32 (gl : Gl) (p : Spot) : evFn (cx gl (mkG [(69, F69)]) [] []) noK noL Tryd.f32 [.agg [.i .i64 p.x, .i .i64 p.y]] noObjs = an (.b (bif (In p.x (-16777216) 16777216) then (In p.y (-16777216) 16777216) else false)) := by kernel_rfl
def F32 : List PV → Option (Bool × PV)
  | [.agg [.i .i64 p0, .i .i64 p1]] => some (true, .b (Place (⟨p0, p1⟩ : Spot)))
  | _ => none
theorem s32 {gl : Gl} : Sum gl 32 F32 := by
  intro ps r h
  unfold F32 at h
  split at h
  · rename_i p0 p1
    obtain ⟨hc, rfl⟩ := Prod.mk.inj (Option.some.inj h)
    refine call_by (K := noK) (L := noL) (bxs := []) (ows := []) (GOk.cons s69 (GOk.nil)) fn32 (noLoops (by kernel_rfl)) (by kernel_rfl) (evF_some ((e32 gl ⟨p0, p1⟩).trans ?_))
    try unfold Place
    rfl
  · simp at h
theorem fn70 : FnOk 70 Tryd.f70 := ⟨by kernel_rfl, by kernel_rfl, by kernel_rfl, by kernel_rfl⟩
def ceilS (n : Int) (b : Int) : Int := wr (Int.tdiv (wr ((wr (n + b)) - 1)) b)
def c70 (b : Int) : Bool := !(b == 0)
theorem e70 (gl : Gl) (n : Int) (b : Int) : evFn (cx gl (mkG []) [] []) noK noL Tryd.f70 [.i .i64 n, .i .i64 b] noObjs = (match (!(b == 0)) with | true => an (.i .i64 (wr (Int.tdiv (wr ((wr (n + b)) - 1)) b))) | false => none) := by kernel_rfl
def F70 : List PV → Option (Bool × PV)
  | [.i .i64 n, .i .i64 b] => some ((c70 b), .i .i64 (ceilS n b))
  | _ => none
theorem s70 {gl : Gl} : Sum gl 70 F70 := by
  intro ps r h
  unfold F70 at h
  split at h
  · rename_i n b
    obtain ⟨hc, rfl⟩ := Prod.mk.inj (Option.some.inj h)
    refine call_by (K := noK) (L := noL) (bxs := []) (ows := []) (GOk.nil) fn70 (noLoops (by kernel_rfl)) (by kernel_rfl) (evF_some ((e70 gl n b).trans ?_))
    try unfold ceilS at hc
    try unfold c70 at hc
    try unfold ceilS
    try unfold c70
    revert hc
    generalize ((!(b == 0))) = b_
    cases b_
    · intro hc
      exact Bool.noConfusion (show false = true from hc)
    · intro hc
      rfl
  · simp at h
theorem fn72 : FnOk 72 Tryd.f72 := ⟨by kernel_rfl, by kernel_rfl, by kernel_rfl, by kernel_rfl⟩
def v72 (n : Int) (b : Int) : Int := wr (Int.tdiv (wr ((wr (n + b)) - 1)) b)
def c72 (b : Int) : Bool := !(b == 0)
theorem e72 (gl : Gl) (n : Int) (b : Int) : evFn (cx gl (mkG []) [] []) noK noL Tryd.f72 [.i .i64 n, .i .i64 b] noObjs = (match (!(b == 0)) with | true => an (.i .i64 (wr (Int.tdiv (wr ((wr (n + b)) - 1)) b))) | false => none) := by kernel_rfl
def F72 : List PV → Option (Bool × PV)
  | [.i .i64 n, .i .i64 b] => some ((c72 b), .i .i64 (v72 n b))
  | _ => none
theorem s72 {gl : Gl} : Sum gl 72 F72 := by
  intro ps r h
  unfold F72 at h
  split at h
  · rename_i n b
    obtain ⟨hc, rfl⟩ := Prod.mk.inj (Option.some.inj h)
    refine call_by (K := noK) (L := noL) (bxs := []) (ows := []) (GOk.nil) fn72 (noLoops (by kernel_rfl)) (by kernel_rfl) (evF_some ((e72 gl n b).trans ?_))
    try unfold v72 at hc
    try unfold c72 at hc
    try unfold v72
    try unfold c72
    revert hc
    generalize ((!(b == 0))) = b_
    cases b_
    · intro hc
      exact Bool.noConfusion (show false = true from hc)
    · intro hc
      rfl
  · simp at h
theorem fn31 : FnOk 31 Tryd.f31 := ⟨by kernel_rfl, by kernel_rfl, by kernel_rfl, by kernel_rfl⟩
def hoursS (u : Unit') (t : Int) : Int := wr (Int.tdiv (wr ((wr (u.burn * t)) + 3599)) 3600)
theorem e31 (gl : Gl) (u : Unit') (t : Int) : evFn (cx gl (mkG []) [] []) noK noL Tryd.f31 [.agg [.s u.name, .i .i64 u.speed, .i .i64 u.fuel, .i .i64 u.burn, .i .i64 u.reserve, .i .i64 u.hours, .i .i64 u.sea, .i .i64 u.wind, .i .i64 u.base.x, .i .i64 u.base.y, .i .i64 u.margin, .i .i64 u.level], .i .i64 t] noObjs = an (.i .i64 (wr (Int.tdiv (wr ((wr (u.burn * t)) + 3599)) 3600))) := by kernel_rfl
def F31 : List PV → Option (Bool × PV)
  | [.agg uL, .i .i64 t] => (ETy.dec .unit uL).bind fun u => some (true, .i .i64 (hoursS u t))
  | _ => none
theorem s31 {gl : Gl} : Sum gl 31 F31 := by
  intro ps r h
  unfold F31 at h
  split at h
  · rename_i uL t
    obtain ⟨u, hu, h_u⟩ := Option.bind_eq_some_iff.1 h
    obtain rfl := dec_is (by simp) hu
    obtain ⟨hc, rfl⟩ := Prod.mk.inj (Option.some.inj h_u)
    refine call_by (K := noK) (L := noL) (bxs := []) (ows := []) (GOk.nil) fn31 (noLoops (by kernel_rfl)) (by kernel_rfl) (evF_some ((e31 gl u t).trans ?_))
    try unfold hoursS
    rfl
  · simp at h
theorem fn95 : FnOk 95 Tryd.f95 := ⟨by kernel_rfl, by kernel_rfl, by kernel_rfl, by kernel_rfl⟩
def burnS (u : Unit') (t : Int) : Int := ceilS (wr (u.burn * t)) 3600
def c95  : Bool := c70 3600
theorem e95 (gl : Gl) (u : Unit') (t : Int) : evFn (cx gl (mkG [(70, F70)]) [] []) noK noL Tryd.f95 [.agg [.s u.name, .i .i64 u.speed, .i .i64 u.fuel, .i .i64 u.burn, .i .i64 u.reserve, .i .i64 u.hours, .i .i64 u.sea, .i .i64 u.wind, .i .i64 u.base.x, .i .i64 u.base.y, .i .i64 u.margin, .i .i64 u.level], .i .i64 t] noObjs = (match (c70 3600) with | true => an (.i .i64 (ceilS (wr (u.burn * t)) 3600)) | false => none) := by kernel_rfl
def F95 : List PV → Option (Bool × PV)
  | [.agg uL, .i .i64 t] => (ETy.dec .unit uL).bind fun u => some (c95, .i .i64 (burnS u t))
  | _ => none
theorem s95 {gl : Gl} : Sum gl 95 F95 := by
  intro ps r h
  unfold F95 at h
  split at h
  · rename_i uL t
    obtain ⟨u, hu, h_u⟩ := Option.bind_eq_some_iff.1 h
    obtain rfl := dec_is (by simp) hu
    obtain ⟨hc, rfl⟩ := Prod.mk.inj (Option.some.inj h_u)
    refine call_by (K := noK) (L := noL) (bxs := []) (ows := []) (GOk.cons s70 (GOk.nil)) fn95 (noLoops (by kernel_rfl)) (by kernel_rfl) (evF_some ((e95 gl u t).trans ?_))
    try unfold burnS at hc
    try unfold c95 at hc
    try unfold burnS
    try unfold c95
    revert hc
    generalize ((c70 3600)) = b_
    cases b_
    · intro hc
      exact Bool.noConfusion (show false = true from hc)
    · intro hc
      rfl
  · simp at h
theorem fn97 : FnOk 97 Tryd.f97 := ⟨by kernel_rfl, by kernel_rfl, by kernel_rfl, by kernel_rfl⟩
def burnR (u : Unit') (t : Int) : Int := v72 (wr (u.burn * t)) 3600
def c97  : Bool := c72 3600
theorem e97 (gl : Gl) (u : Unit') (t : Int) : evFn (cx gl (mkG [(72, F72)]) [] []) noK noL Tryd.f97 [.agg [.s u.name, .i .i64 u.speed, .i .i64 u.fuel, .i .i64 u.burn, .i .i64 u.reserve, .i .i64 u.hours, .i .i64 u.sea, .i .i64 u.wind, .i .i64 u.base.x, .i .i64 u.base.y, .i .i64 u.margin, .i .i64 u.level], .i .i64 t] noObjs = (match (c72 3600) with | true => an (.i .i64 (v72 (wr (u.burn * t)) 3600)) | false => none) := by kernel_rfl
def F97 : List PV → Option (Bool × PV)
  | [.agg uL, .i .i64 t] => (ETy.dec .unit uL).bind fun u => some (c97, .i .i64 (burnR u t))
  | _ => none
theorem s97 {gl : Gl} : Sum gl 97 F97 := by
  intro ps r h
  unfold F97 at h
  split at h
  · rename_i uL t
    obtain ⟨u, hu, h_u⟩ := Option.bind_eq_some_iff.1 h
    obtain rfl := dec_is (by simp) hu
    obtain ⟨hc, rfl⟩ := Prod.mk.inj (Option.some.inj h_u)
    refine call_by (K := noK) (L := noL) (bxs := []) (ows := []) (GOk.cons s72 (GOk.nil)) fn97 (noLoops (by kernel_rfl)) (by kernel_rfl) (evF_some ((e97 gl u t).trans ?_))
    try unfold burnR at hc
    try unfold c97 at hc
    try unfold burnR
    try unfold c97
    revert hc
    generalize ((c72 3600)) = b_
    cases b_
    · intro hc
      exact Bool.noConfusion (show false = true from hc)
    · intro hc
      rfl
  · simp at h
theorem fn100 : FnOk 100 Tryd.f100 := ⟨by kernel_rfl, by kernel_rfl, by kernel_rfl, by kernel_rfl⟩
def overlap (a : Int) (b : Int) (c : Int) (d : Int) : Bool := bif (decide (a ≤ d)) then (decide (c ≤ b)) else false
theorem e100 (gl : Gl) (a : Int) (b : Int) (c : Int) (d : Int) : evFn (cx gl (mkG []) [] []) noK noL Tryd.f100 [.i .i64 a, .i .i64 b, .i .i64 c, .i .i64 d] noObjs = an (.b (bif (decide (a ≤ d)) then (decide (c ≤ b)) else false)) := by kernel_rfl
def F100 : List PV → Option (Bool × PV)
  | [.i .i64 a, .i .i64 b, .i .i64 c, .i .i64 d] => some (true, .b (overlap a b c d))
  | _ => none
theorem s100 {gl : Gl} : Sum gl 100 F100 := by
  intro ps r h
  unfold F100 at h
  split at h
  · rename_i a b c d
    obtain ⟨hc, rfl⟩ := Prod.mk.inj (Option.some.inj h)
    refine call_by (K := noK) (L := noL) (bxs := []) (ows := []) (GOk.nil) fn100 (noLoops (by kernel_rfl)) (by kernel_rfl) (evF_some ((e100 gl a b c d).trans ?_))
    try unfold overlap
    rfl
  · simp at h
theorem fn76 : FnOk 76 Tryd.f76 := ⟨by kernel_rfl, by kernel_rfl, by kernel_rfl, by kernel_rfl⟩
def meet (a : Box) (b : Box) : Bool := bif (bif (bif (a.level == b.level) then (overlap a.fr a.to_ b.fr b.to_) else false) then (overlap a.low.x a.high.x b.low.x b.high.x) else false) then (overlap a.low.y a.high.y b.low.y b.high.y) else false
theorem e76 (gl : Gl) (a : Box) (b : Box) : evFn (cx gl (mkG [(100, F100)]) [] []) noK noL Tryd.f76 [.agg [.i .i64 a.low.x, .i .i64 a.low.y, .i .i64 a.high.x, .i .i64 a.high.y, .i .i64 a.fr, .i .i64 a.to_, .i .i64 a.level], .agg [.i .i64 b.low.x, .i .i64 b.low.y, .i .i64 b.high.x, .i .i64 b.high.y, .i .i64 b.fr, .i .i64 b.to_, .i .i64 b.level]] noObjs = an (.b (bif (bif (bif (a.level == b.level) then (overlap a.fr a.to_ b.fr b.to_) else false) then (overlap a.low.x a.high.x b.low.x b.high.x) else false) then (overlap a.low.y a.high.y b.low.y b.high.y) else false)) := by kernel_rfl
def F76 : List PV → Option (Bool × PV)
  | [.agg aL, .agg bL] => (ETy.dec .box aL).bind fun a => (ETy.dec .box bL).bind fun b => some (true, .b (meet a b))
  | _ => none
theorem s76 {gl : Gl} : Sum gl 76 F76 := by
  intro ps r h
  unfold F76 at h
  split at h
  · rename_i aL bL
    obtain ⟨a, ha, h_a⟩ := Option.bind_eq_some_iff.1 h
    obtain rfl := dec_is (by simp) ha
    obtain ⟨b, hb, h_b⟩ := Option.bind_eq_some_iff.1 h_a
    obtain rfl := dec_is (by simp) hb
    obtain ⟨hc, rfl⟩ := Prod.mk.inj (Option.some.inj h_b)
    refine call_by (K := noK) (L := noL) (bxs := []) (ows := []) (GOk.cons s100 (GOk.nil)) fn76 (noLoops (by kernel_rfl)) (by kernel_rfl) (evF_some ((e76 gl a b).trans ?_))
    try unfold meet
    rfl
  · simp at h
theorem fn71 : FnOk 71 Tryd.f71 := ⟨by kernel_rfl, by kernel_rfl, by kernel_rfl, by kernel_rfl⟩
def v71 (u : Unit') (low : Spot) : Int := wr (low.x - u.margin)
def v71_1 (u : Unit') (low : Spot) : Int := wr (low.y - u.margin)
def v71_2 (u : Unit') (high : Spot) : Int := wr (high.x + u.margin)
def v71_3 (u : Unit') (high : Spot) : Int := wr (high.y + u.margin)
theorem e71 (gl : Gl) (u : Unit') (low : Spot) (high : Spot) (f : Int) (t : Int) : evFn (cx gl (mkG []) [] []) noK noL Tryd.f71 [.agg [.s u.name, .i .i64 u.speed, .i .i64 u.fuel, .i .i64 u.burn, .i .i64 u.reserve, .i .i64 u.hours, .i .i64 u.sea, .i .i64 u.wind, .i .i64 u.base.x, .i .i64 u.base.y, .i .i64 u.margin, .i .i64 u.level], .agg [.i .i64 low.x, .i .i64 low.y], .agg [.i .i64 high.x, .i .i64 high.y], .i .i64 f, .i .i64 t] noObjs = an (.agg [.i .i64 (wr (low.x - u.margin)), .i .i64 (wr (low.y - u.margin)), .i .i64 (wr (high.x + u.margin)), .i .i64 (wr (high.y + u.margin)), .i .i64 f, .i .i64 t, .i .i64 u.level]) := by kernel_rfl
def F71 : List PV → Option (Bool × PV)
  | [.agg uL, .agg [.i .i64 low0, .i .i64 low1], .agg [.i .i64 high0, .i .i64 high1], .i .i64 f, .i .i64 t] => (ETy.dec .unit uL).bind fun u => some (true, .agg [.i .i64 (v71 u (⟨low0, low1⟩ : Spot)), .i .i64 (v71_1 u (⟨low0, low1⟩ : Spot)), .i .i64 (v71_2 u (⟨high0, high1⟩ : Spot)), .i .i64 (v71_3 u (⟨high0, high1⟩ : Spot)), .i .i64 f, .i .i64 t, .i .i64 u.level])
  | _ => none
theorem s71 {gl : Gl} : Sum gl 71 F71 := by
  intro ps r h
  unfold F71 at h
  split at h
  · rename_i uL low0 low1 high0 high1 f t
    obtain ⟨u, hu, h_u⟩ := Option.bind_eq_some_iff.1 h
    obtain rfl := dec_is (by simp) hu
    obtain ⟨hc, rfl⟩ := Prod.mk.inj (Option.some.inj h_u)
    refine call_by (K := noK) (L := noL) (bxs := []) (ows := []) (GOk.nil) fn71 (noLoops (by kernel_rfl)) (by kernel_rfl) (evF_some ((e71 gl u ⟨low0, low1⟩ ⟨high0, high1⟩ f t).trans ?_))
    try unfold v71 v71_1 v71_2 v71_3
    rfl
  · simp at h
theorem fn73 : FnOk 73 Tryd.f73 := ⟨by kernel_rfl, by kernel_rfl, by kernel_rfl, by kernel_rfl⟩
def v73 (u : Unit') (low : Spot) : Int := wr (low.x - u.margin)
def v73_1 (u : Unit') (low : Spot) : Int := wr (low.y - u.margin)
def v73_2 (u : Unit') (high : Spot) : Int := wr (high.x + u.margin)
def v73_3 (u : Unit') (high : Spot) : Int := wr (high.y + u.margin)
theorem e73 (gl : Gl) (u : Unit') (low : Spot) (high : Spot) (f : Int) (t : Int) : evFn (cx gl (mkG []) [] []) noK noL Tryd.f73 [.agg [.s u.name, .i .i64 u.speed, .i .i64 u.fuel, .i .i64 u.burn, .i .i64 u.reserve, .i .i64 u.hours, .i .i64 u.sea, .i .i64 u.wind, .i .i64 u.base.x, .i .i64 u.base.y, .i .i64 u.margin, .i .i64 u.level], .agg [.i .i64 low.x, .i .i64 low.y], .agg [.i .i64 high.x, .i .i64 high.y], .i .i64 f, .i .i64 t] noObjs = an (.agg [.i .i64 (wr (low.x - u.margin)), .i .i64 (wr (low.y - u.margin)), .i .i64 (wr (high.x + u.margin)), .i .i64 (wr (high.y + u.margin)), .i .i64 f, .i .i64 t, .i .i64 u.level]) := by kernel_rfl
def F73 : List PV → Option (Bool × PV)
  | [.agg uL, .agg [.i .i64 low0, .i .i64 low1], .agg [.i .i64 high0, .i .i64 high1], .i .i64 f, .i .i64 t] => (ETy.dec .unit uL).bind fun u => some (true, .agg [.i .i64 (v73 u (⟨low0, low1⟩ : Spot)), .i .i64 (v73_1 u (⟨low0, low1⟩ : Spot)), .i .i64 (v73_2 u (⟨high0, high1⟩ : Spot)), .i .i64 (v73_3 u (⟨high0, high1⟩ : Spot)), .i .i64 f, .i .i64 t, .i .i64 u.level])
  | _ => none
theorem s73 {gl : Gl} : Sum gl 73 F73 := by
  intro ps r h
  unfold F73 at h
  split at h
  · rename_i uL low0 low1 high0 high1 f t
    obtain ⟨u, hu, h_u⟩ := Option.bind_eq_some_iff.1 h
    obtain rfl := dec_is (by simp) hu
    obtain ⟨hc, rfl⟩ := Prod.mk.inj (Option.some.inj h_u)
    refine call_by (K := noK) (L := noL) (bxs := []) (ows := []) (GOk.nil) fn73 (noLoops (by kernel_rfl)) (by kernel_rfl) (evF_some ((e73 gl u ⟨low0, low1⟩ ⟨high0, high1⟩ f t).trans ?_))
    try unfold v73 v73_1 v73_2 v73_3
    rfl
  · simp at h
theorem fn98 : FnOk 98 Tryd.f98 := ⟨by kernel_rfl, by kernel_rfl, by kernel_rfl, by kernel_rfl⟩
def floorS (n : Int) (b : Int) : Int := bif (decide ((Int.tmod n b) < 0)) then (wr ((wr (Int.tdiv n b)) - 1)) else (wr (Int.tdiv n b))
def c98 (b : Int) : Bool := (!(b == 0)) && (!(b == 0))
theorem e98 (gl : Gl) (n : Int) (b : Int) : evFn (cx gl (mkG []) [] []) noK noL Tryd.f98 [.i .i64 n, .i .i64 b] noObjs = (match (!(b == 0)) with | true => (match (!(b == 0)) with | true => (match (decide ((Int.tmod n b) < 0)) with | true => an (.i .i64 (wr ((wr (Int.tdiv n b)) - 1))) | false => an (.i .i64 (wr (Int.tdiv n b)))) | false => none) | false => none) := by kernel_rfl
def F98 : List PV → Option (Bool × PV)
  | [.i .i64 n, .i .i64 b] => some ((c98 b), .i .i64 (floorS n b))
  | _ => none
theorem s98 {gl : Gl} : Sum gl 98 F98 := by
  intro ps r h
  unfold F98 at h
  split at h
  · rename_i n b
    obtain ⟨hc, rfl⟩ := Prod.mk.inj (Option.some.inj h)
    refine call_by (K := noK) (L := noL) (bxs := []) (ows := []) (GOk.nil) fn98 (noLoops (by kernel_rfl)) (by kernel_rfl) (evF_some ((e98 gl n b).trans ?_))
    try unfold floorS at hc
    try unfold c98 at hc
    try unfold floorS
    try unfold c98
    revert hc
    generalize ((!(b == 0))) = b_
    cases b_
    · intro hc
      exact Bool.noConfusion (show false = true from hc)
    · intro hc
      revert hc
      generalize ((decide ((Int.tmod n b) < 0))) = b_
      cases b_
      · intro hc
        rfl
      · intro hc
        rfl
  · simp at h
theorem fn15 : FnOk 15 Tryd.f15 := ⟨by kernel_rfl, by kernel_rfl, by kernel_rfl, by kernel_rfl⟩
def greatS (u : Unit') : Bool := decide ((u.name.size : Int) > 100)
theorem e15 (gl : Gl) (u : Unit') : evFn (cx gl (mkG []) [] []) noK noL Tryd.f15 [.agg [.s u.name, .i .i64 u.speed, .i .i64 u.fuel, .i .i64 u.burn, .i .i64 u.reserve, .i .i64 u.hours, .i .i64 u.sea, .i .i64 u.wind, .i .i64 u.base.x, .i .i64 u.base.y, .i .i64 u.margin, .i .i64 u.level]] noObjs = an (.b (decide ((u.name.size : Int) > 100))) := by kernel_rfl
def F15 : List PV → Option (Bool × PV)
  | [.agg uL] => (ETy.dec .unit uL).bind fun u => some (true, .b (greatS u))
  | _ => none
theorem s15 {gl : Gl} : Sum gl 15 F15 := by
  intro ps r h
  unfold F15 at h
  split at h
  · rename_i uL
    obtain ⟨u, hu, h_u⟩ := Option.bind_eq_some_iff.1 h
    obtain rfl := dec_is (by simp) hu
    obtain ⟨hc, rfl⟩ := Prod.mk.inj (Option.some.inj h_u)
    refine call_by (K := noK) (L := noL) (bxs := []) (ows := []) (GOk.nil) fn15 (noLoops (by kernel_rfl)) (by kernel_rfl) (evF_some ((e15 gl u).trans ?_))
    try unfold greatS
    rfl
  · simp at h
end Go.Proofs.YtnbcmgdogohenaaDoor.Ev
/- Summaries of functions, printed by a program out of a list. -/
namespace Go.Proofs.YtnbcmgdogohenaaDoor.Ev
open Go Go.RowKit Go.Proofs
structure W3 where
  sq : Int
  a : Int
  b : Int
def W3.enc (s : W3) : List PV := [.i .i64 s.sq, .i .i64 s.a, .i .i64 s.b]
def orI (a b : Int) : Int := wr (BitVec.ofInt 64 a ||| BitVec.ofInt 64 b).toNat
def shr1 (a : Int) : Int := a.fdiv (2 ^ 1)
def W3.dec : List PV → Heap → Option W3
  | [.i .i64 q, .i .i64 a, .i .i64 c], [] => some ⟨q, a, c⟩
  | _, _ => none
theorem W3.dec_enc (vs : List PV) (hs : Heap) (s : W3) (h : W3.dec vs hs = some s) : vs = s.enc ∧ hs = [] := by
  unfold W3.dec at h
  split at h
  · obtain rfl := Option.some.inj h
    exact ⟨rfl, rfl⟩
  · simp at h
def W3.out (k : Ex → List PV → Heap → Option R) (s : W3) : Option R := k (.exit 0) s.enc []
def st49 {ρ : Type} (s : W3) (next : W3 → Option ρ) (out : W3 → Option ρ) : Option ρ := match decide (s.b > 0) with
  | true => (match decide (wr (orI s.a s.b * orI s.a s.b) < s.sq) with
    | true => next ⟨s.sq, orI s.a s.b, shr1 s.b⟩
    | false => next ⟨s.sq, s.a, shr1 s.b⟩)
  | false => out s
def K789 : Keep := fun _ => ([7, 8, 9], [])
noncomputable def b49 : Code := (loopsOf (bodyOf Tryd.f49)).headD .skip
def L49 : Lam := loopL W3.dec st49 (fun _ => 64) W3.out
theorem step49 (gl : Gl) (j : Nat) (s : W3) (k : Ex → List PV → Heap → Option R) : unroll (cx gl (mkG []) [] []) K789 L49 Tryd.f49.ntmps (Tryd.f49.ntmps + 16) b49 (j + 1) s.enc [] k = st49 s (fun s' => unroll (cx gl (mkG []) [] []) K789 L49 Tryd.f49.ntmps (Tryd.f49.ntmps + 16) b49 j s'.enc [] k) (W3.out k) := by kernel_rfl
theorem l49 (gl : Gl) : LoopsOk (cx gl (mkG []) [] []) K789 L49 Tryd.f49.ntmps (Tryd.f49.ntmps + 16) (loopsOf (bodyOf Tryd.f49)) :=
  loopsOk_list (l := [b49]) (by kernel_rfl) (List.forall_mem_cons.2 ⟨loopOk1 (enc := W3.enc) (encH := fun _ => []) (fun vs hs k => rfl) W3.dec_enc (step49 gl), fun _ h => by simp at h⟩)
theorem fn49 : FnOk 49 Tryd.f49 := ⟨by kernel_rfl, by kernel_rfl, by kernel_rfl, by kernel_rfl⟩
def sq (a b : Spot) : Int := wr (wr (wr (a.x - b.x) * wr (a.x - b.x)) + wr (wr (a.y - b.y) * wr (a.y - b.y)))
theorem e49 (gl : Gl) (a b : Spot) : evFn (cx gl (mkG []) [] []) K789 L49 Tryd.f49 [ETy.val .spot a, ETy.val .spot b] noObjs = iter st49 64 ⟨sq a b, 0, 67108864⟩ fun s => match s.sq == 0 with
  | true => an (.i .i64 0)
  | false => an (.i .i64 (wr (s.a + 1))) := by kernel_rfl

def st50 {ρ : Type} (s : W3) (next : W3 → Option ρ) (out : W3 → Option ρ) : Option ρ := match decide (wr (s.b - s.a) > 1) with
  | true => (match decide (wr (wr (Int.tdiv (wr (s.a + s.b)) 2) * wr (Int.tdiv (wr (s.a + s.b)) 2)) ≥ s.sq) with
    | true => next ⟨s.sq, s.a, wr (Int.tdiv (wr (s.a + s.b)) 2)⟩
    | false => next ⟨s.sq, wr (Int.tdiv (wr (s.a + s.b)) 2), s.b⟩)
  | false => out s
noncomputable def b50 : Code := (loopsOf (bodyOf Tryd.f50)).headD .skip
def L50 : Lam := loopL W3.dec st50 (fun _ => 64) W3.out
theorem step50 (gl : Gl) (j : Nat) (s : W3) (k : Ex → List PV → Heap → Option R) : unroll (cx gl (mkG []) [] []) K789 L50 Tryd.f50.ntmps (Tryd.f50.ntmps + 16) b50 (j + 1) s.enc [] k = st50 s (fun s' => unroll (cx gl (mkG []) [] []) K789 L50 Tryd.f50.ntmps (Tryd.f50.ntmps + 16) b50 j s'.enc [] k) (W3.out k) := by kernel_rfl
theorem l50 (gl : Gl) : LoopsOk (cx gl (mkG []) [] []) K789 L50 Tryd.f50.ntmps (Tryd.f50.ntmps + 16) (loopsOf (bodyOf Tryd.f50)) :=
  loopsOk_list (l := [b50]) (by kernel_rfl) (List.forall_mem_cons.2 ⟨loopOk1 (enc := W3.enc) (encH := fun _ => []) (fun vs hs k => rfl) W3.dec_enc (step50 gl), fun _ h => by simp at h⟩)
theorem fn50 : FnOk 50 Tryd.f50 := ⟨by kernel_rfl, by kernel_rfl, by kernel_rfl, by kernel_rfl⟩
theorem e50 (gl : Gl) (a b : Spot) : evFn (cx gl (mkG []) [] []) K789 L50 Tryd.f50 [ETy.val .spot a, ETy.val .spot b] noObjs = iter st50 64 ⟨sq a b, -1, 67108864⟩ fun s => an (.i .i64 s.b) := by kernel_rfl
end Go.Proofs.YtnbcmgdogohenaaDoor.Ev
/- The way between two places: bit by bit, and by halves, the same. -/
namespace Go.Proofs.YtnbcmgdogohenaaDoor.Ev
open Go Go.RowKit

def rootS (q : Int) : Nat → Int → Int
  | 0, r => r
  | k + 1, r => if wr (orI r (2 ^ k) * orI r (2 ^ k)) < q then rootS q k (orI r (2 ^ k)) else rootS q k r
theorem shr1_pow (k : Nat) : shr1 (2 ^ (k + 1)) = 2 ^ k := by
  unfold shr1
  rw [Int.pow_succ, Int.pow_one, Int.mul_fdiv_cancel _ (by decide)]
theorem pow_pos' (k : Nat) : (0 : Int) < 2 ^ k := Int.pow_pos (by decide)
theorem iter49 {ρ : Type} (q : Int) (out : W3 → Option ρ) : ∀ (k j : Nat) (r : Int), iter st49 (j + k + 2) ⟨q, r, 2 ^ k⟩ out = out ⟨q, rootS q (k + 1) r, 0⟩
  | 0, j, r => by
    have h0 : ∀ (j : Nat) (r : Int), iter st49 (j + 1) ⟨q, r, 0⟩ out = out ⟨q, r, 0⟩ := fun j r => rfl
    have hs : shr1 (2 ^ 0) = 0 := by decide
    show st49 ⟨q, r, 2 ^ 0⟩ (fun s' => iter st49 (j + 1) s' out) out = _
    simp only [st49]
    rw [decide_eq_true (by decide : ((2 : Int) ^ 0) > 0)]
    simp only [rootS, hs]
    by_cases h : wr (orI r (2 ^ 0) * orI r (2 ^ 0)) < q
    · rw [decide_eq_true h, if_pos h]; exact h0 j _
    · rw [decide_eq_false h, if_neg h]; exact h0 j _
  | k + 1, j, r => by
    show st49 ⟨q, r, 2 ^ (k + 1)⟩ (fun s' => iter st49 (j + k + 2) s' out) out = _
    simp only [st49]
    rw [decide_eq_true (pow_pos' (k + 1))]
    simp only [shr1_pow, iter49 q out k j]
    have hr : rootS q (k + 1 + 1) r = if wr (orI r (2 ^ (k + 1)) * orI r (2 ^ (k + 1))) < q then rootS q (k + 1) (orI r (2 ^ (k + 1))) else rootS q (k + 1) r := rfl
    rw [hr]
    by_cases h : wr (orI r (2 ^ (k + 1)) * orI r (2 ^ (k + 1))) < q
    · rw [decide_eq_true h, if_pos h]
    · rw [decide_eq_false h, if_neg h]
theorem orI_add (r : Int) (k : Nat) (hk : k < 27) (h0 : 0 ≤ r) (h1 : r < 2 ^ 27) (hd : (2 ^ (k + 1) : Int) ∣ r) : orI r (2 ^ k) = r + 2 ^ k := by
  obtain ⟨m, rfl⟩ := Int.eq_ofNat_of_zero_le h0
  have hm : m < 2 ^ 27 := by exact_mod_cast h1
  have hdm : 2 ^ (k + 1) ∣ m := by exact_mod_cast hd
  obtain ⟨c, rfl⟩ := hdm
  have hk2 : 2 ^ k < 2 ^ 27 := Nat.pow_lt_pow_right (by decide) hk
  unfold orI
  have e1 : BitVec.ofInt 64 ((2 ^ (k + 1) * c : Nat) : Int) = BitVec.ofNat 64 (2 ^ (k + 1) * c) := BitVec.ofInt_natCast ..
  have e2 : BitVec.ofInt 64 ((2 : Int) ^ k) = BitVec.ofNat 64 (2 ^ k) := by
    have : ((2 : Int) ^ k) = ((2 ^ k : Nat) : Int) := by simp
    rw [this]
    exact BitVec.ofInt_natCast ..
  rw [e1, e2]
  have hor : (BitVec.ofNat 64 (2 ^ (k + 1) * c) ||| BitVec.ofNat 64 (2 ^ k)).toNat = 2 ^ (k + 1) * c + 2 ^ k := by
    rw [BitVec.toNat_or, BitVec.toNat_ofNat, BitVec.toNat_ofNat, Nat.mod_eq_of_lt (by omega), Nat.mod_eq_of_lt (by omega)]
    have := Nat.shiftLeft_add_eq_or_of_lt (b := 2 ^ k) (i := k + 1) (Nat.pow_lt_pow_right (by decide) (Nat.lt_succ_self k)) c
    rw [Nat.shiftLeft_eq, Nat.mul_comm] at this
    rw [← this]
  rw [hor, wr_id (by omega) (by omega)]
  simp
/-- What the bits come to. -/
theorem rootS_spec (q : Int) (hq : 0 ≤ q) : ∀ (k : Nat) (r : Int), k ≤ 27 → 0 ≤ r → r + 2 ^ k ≤ 2 ^ 27 → (2 ^ k : Int) ∣ r → (r = 0 ∨ r * r < q) → q ≤ (r + 2 ^ k) * (r + 2 ^ k) →
    0 ≤ rootS q k r ∧ rootS q k r < 2 ^ 27 ∧ (rootS q k r = 0 ∨ rootS q k r * rootS q k r < q) ∧ q ≤ (rootS q k r + 1) * (rootS q k r + 1)
  | 0, r, _, h0, h1, _, h2, h3 => by
    simp only [rootS]
    exact ⟨h0, by simp at h1; omega, h2, by simpa using h3⟩
  | k + 1, r, hk, h0, h1, hd, h2, h3 => by
    have hp := pow_pos' k
    have hp1 : (2 : Int) ^ (k + 1) = 2 ^ k + 2 ^ k := by rw [Int.pow_succ]; omega
    have hor := orI_add r k (by omega) h0 (by omega) hd
    have hdk : (2 ^ k : Int) ∣ r := Int.dvd_trans ⟨2, by rw [Int.pow_succ]⟩ hd
    have hb : r + 2 ^ k ≤ 2 ^ 27 := by omega
    have hsq : (r + 2 ^ k) * (r + 2 ^ k) ≤ 2 ^ 27 * 2 ^ 27 := Int.mul_le_mul hb hb (by omega) (by decide)
    have hnn : 0 ≤ (r + 2 ^ k) * (r + 2 ^ k) := Int.mul_nonneg (by omega) (by omega)
    have hwr : wr ((r + 2 ^ k) * (r + 2 ^ k)) = (r + 2 ^ k) * (r + 2 ^ k) := wr_id (by omega) (by omega)
    simp only [rootS]
    rw [hor, hwr]
    split
    · rename_i hlt
      refine rootS_spec q hq k (r + 2 ^ k) (by omega) (by omega) (by omega) (Int.dvd_add hdk (Int.dvd_refl _)) (.inr hlt) ?_
      rw [hp1, ← Int.add_assoc] at h3
      exact h3
    · rename_i hge
      exact rootS_spec q hq k r (by omega) h0 (by omega) hdk h2 (by omega)
def wayP (q : Int) : Int := if q = 0 then 0 else wr (rootS q 27 0 + 1)
theorem way49 {ρ : Type} (q : Int) (f : Int → Option ρ) : (iter st49 64 ⟨q, 0, 67108864⟩ fun s => match s.sq == 0 with
    | true => f 0
    | false => f (wr (s.a + 1))) = f (wayP q) := by
  have := iter49 q (fun s => match s.sq == 0 with
    | true => f 0
    | false => f (wr (s.a + 1))) 26 36 0
  rw [show (2 : Int) ^ 26 = 67108864 by decide] at this
  rw [this]
  unfold wayP
  by_cases h : q = 0
  · subst h; rfl
  · simp only []
    rw [if_neg h, show (q == 0) = false by simpa using h]
/-- The least whole number that is long enough. -/
def isWay (q v : Int) : Prop := 0 ≤ v ∧ q ≤ v * v ∧ (v = 0 ∨ (v - 1) * (v - 1) < q)
theorem isRoot_unique {q v u : Int} (h : isWay q v) (k : isWay q u) : v = u := by
  obtain ⟨h0, h1, h2⟩ := h
  obtain ⟨k0, k1, k2⟩ := k
  have key : ∀ a b : Int, 0 ≤ a → a < b → q ≤ a * a → (b = 0 ∨ (b - 1) * (b - 1) < q) → False := by
    intro a b ha hab hq hb
    rcases hb with rfl | hb
    · omega
    · have : a * a ≤ (b - 1) * (b - 1) := Int.mul_le_mul (by omega) (by omega) ha (by omega)
      omega
  rcases Int.lt_trichotomy v u with hh | hh | hh
  · exact (key v u h0 hh h1 k2).elim
  · exact hh
  · exact (key u v k0 hh k1 h2).elim
theorem wayP_root {q : Int} (h0 : 0 ≤ q) (h1 : q ≤ 2 ^ 52) : isWay q (wayP q) ∧ wayP q ≤ 2 ^ 27 := by
  unfold wayP
  split
  · rename_i h
    subst h
    exact ⟨⟨by decide, by decide, .inl rfl⟩, by decide⟩
  · rename_i h
    obtain ⟨a, b, c, d⟩ := rootS_spec q h0 27 0 (by decide) (by decide) (by decide) (Int.dvd_zero _) (.inl rfl) (by
      have : ((0 : Int) + 2 ^ 27) * (0 + 2 ^ 27) = 2 ^ 54 := by decide
      rw [this]
      omega)
    rw [wr_id (by omega) (by omega)]
    refine ⟨⟨by omega, d, .inr ?_⟩, by omega⟩
    rw [Int.add_sub_cancel]
    rcases c with c | c
    · rw [c]; omega
    · exact c

/-! By halves -/
def halfS (q : Int) : Nat → Int → Int → Int
  | 0, a, b => b
  | n + 1, a, b => if b - a > 1 then (if wr (Int.tdiv (a + b) 2 * Int.tdiv (a + b) 2) ≥ q then halfS q n a (Int.tdiv (a + b) 2) else halfS q n (Int.tdiv (a + b) 2) b) else b
theorem iter50 {ρ : Type} (q : Int) (f : Int → Option ρ) : ∀ (n j : Nat) (a b : Int), -1 ≤ a → a < b → b ≤ 2 ^ 26 → b - a ≤ 2 ^ n + 1 → iter st50 (j + n + 2) ⟨q, a, b⟩ (fun s => f s.b) = f (halfS q (n + 1) a b) := by
  have stop : ∀ (j : Nat) (a b : Int), -1 ≤ a → b ≤ 2 ^ 26 → a < b → ¬ b - a > 1 → iter st50 (j + 1) ⟨q, a, b⟩ (fun s => f s.b) = f b := by
    intro j a b ha hb hab h
    show st50 ⟨q, a, b⟩ _ _ = _
    simp only [st50]
    rw [wr_id (by omega) (by omega), decide_eq_false h]
  have step : ∀ (j : Nat) (a b : Int), -1 ≤ a → b ≤ 2 ^ 26 → b - a > 1 → iter st50 (j + 1) ⟨q, a, b⟩ (fun s => f s.b) =
      if wr (Int.tdiv (a + b) 2 * Int.tdiv (a + b) 2) ≥ q then iter st50 j ⟨q, a, Int.tdiv (a + b) 2⟩ (fun s => f s.b) else iter st50 j ⟨q, Int.tdiv (a + b) 2, b⟩ (fun s => f s.b) := by
    intro j a b ha hb h
    have hm : Int.tdiv (a + b) 2 = (a + b) / 2 := Int.tdiv_eq_ediv_of_nonneg (by omega)
    show st50 ⟨q, a, b⟩ (fun s' => iter st50 j s' _) _ = _
    simp only [st50]
    rw [wr_id (x := b - a) (by omega) (by omega), decide_eq_true h, wr_id (x := a + b) (by omega) (by omega), hm, wr_id (x := (a + b) / 2) (by omega) (by omega)]
    by_cases hh : wr ((a + b) / 2 * ((a + b) / 2)) ≥ q
    · simp only [decide_eq_true hh, if_pos hh]
    · simp only [decide_eq_false hh, if_neg hh]
  intro n
  induction n with
  | zero =>
    intro j a b ha hab hb hd
    by_cases h : b - a > 1
    · have hm : Int.tdiv (a + b) 2 = (a + b) / 2 := Int.tdiv_eq_ediv_of_nonneg (by omega)
      rw [step (j + 1) a b ha hb h]
      simp only [halfS, if_pos h]
      rw [hm]
      split
      · exact stop j _ _ ha (by omega) (by omega) (by simp at hd; omega)
      · exact stop j _ _ (by omega) hb (by omega) (by simp at hd; omega)
    · rw [stop (j + 1) a b ha hb hab h]
      simp only [halfS, if_neg h]
  | succ n ih =>
    intro j a b ha hab hb hd
    have hp1 : (2 : Int) ^ (n + 1) = 2 ^ n + 2 ^ n := by rw [Int.pow_succ]; omega
    by_cases h : b - a > 1
    · have hm : Int.tdiv (a + b) 2 = (a + b) / 2 := Int.tdiv_eq_ediv_of_nonneg (by omega)
      rw [show j + (n + 1) + 2 = (j + n + 2) + 1 by omega, step (j + n + 2) a b ha hb h]
      have hr : halfS q (n + 1 + 1) a b = if wr (Int.tdiv (a + b) 2 * Int.tdiv (a + b) 2) ≥ q then halfS q (n + 1) a (Int.tdiv (a + b) 2) else halfS q (n + 1) (Int.tdiv (a + b) 2) b := by
        show (if b - a > 1 then _ else b) = _
        rw [if_pos h]
      rw [hr, hm]
      split
      · exact ih j _ _ ha (by omega) (by omega) (by omega)
      · exact ih j _ _ (by omega) (by omega) hb (by omega)
    · rw [show j + (n + 1) + 2 = (j + n + 2) + 1 by omega, stop (j + n + 2) a b ha hb hab h]
      show f b = f (if b - a > 1 then _ else b)
      rw [if_neg h]
theorem halfS_spec (q : Int) : ∀ (n : Nat) (a b : Int), -1 ≤ a → a < b → b ≤ 2 ^ 26 → b - a ≤ 2 ^ n → q ≤ b * b → (a = -1 ∨ a * a < q) → isWay q (halfS q n a b) ∧ halfS q n a b ≤ 2 ^ 26 := by
  intro n
  induction n with
  | zero =>
    intro a b ha hab hb hd h1 h2
    simp only [halfS]
    refine ⟨⟨by omega, h1, ?_⟩, hb⟩
    have : b - 1 = a := by simp at hd; omega
    rcases h2 with rfl | h2
    · left; omega
    · right; rw [this]; exact h2
  | succ n ih =>
    intro a b ha hab hb hd h1 h2
    have hp1 : (2 : Int) ^ (n + 1) = 2 ^ n + 2 ^ n := by rw [Int.pow_succ]; omega
    have hpp := pow_pos' n
    have hr : halfS q (n + 1) a b = if b - a > 1 then (if wr (Int.tdiv (a + b) 2 * Int.tdiv (a + b) 2) ≥ q then halfS q n a (Int.tdiv (a + b) 2) else halfS q n (Int.tdiv (a + b) 2) b) else b := rfl
    rw [hr]
    split
    · rename_i h
      have hm : Int.tdiv (a + b) 2 = (a + b) / 2 := Int.tdiv_eq_ediv_of_nonneg (by omega)
      rw [hm]
      have m0 : 0 ≤ (a + b) / 2 := by omega
      have m1 : (a + b) / 2 ≤ 2 ^ 26 := by omega
      have hsq : (a + b) / 2 * ((a + b) / 2) ≤ 2 ^ 26 * 2 ^ 26 := Int.mul_le_mul m1 m1 m0 (by decide)
      have hnn : 0 ≤ (a + b) / 2 * ((a + b) / 2) := Int.mul_nonneg m0 m0
      rw [wr_id (by omega) (by omega)]
      split
      · rename_i hge
        exact ih a _ ha (by omega) m1 (by omega) hge h2
      · rename_i hlt
        exact ih _ b (by omega) (by omega) hb (by omega) h1 (.inr (by omega))
    · rename_i h
      refine ⟨⟨by omega, h1, ?_⟩, hb⟩
      have : b - 1 = a := by omega
      rcases h2 with rfl | h2
      · left; omega
      · right; rw [this]; exact h2
def wayR (q : Int) : Int := halfS q 28 (-1) 67108864
theorem way50 {ρ : Type} (q : Int) (f : Int → Option ρ) : (iter st50 64 ⟨q, -1, 67108864⟩ fun s => f s.b) = f (wayR q) := iter50 q f 27 35 (-1) 67108864 (by decide) (by decide) (by decide) (by decide)
theorem wayR_root {q : Int} (h1 : q ≤ 2 ^ 52) : isWay q (wayR q) ∧ wayR q ≤ 2 ^ 26 :=
  halfS_spec q 28 (-1) 67108864 (by decide) (by decide) (by decide) (by decide) (by
    have : (67108864 : Int) * 67108864 = 2 ^ 52 := by decide
    omega) (.inl rfl)
theorem way_same {q : Int} (h0 : 0 ≤ q) (h1 : q ≤ 2 ^ 52) : wayP q = wayR q := isRoot_unique (wayP_root h0 h1).1 (wayR_root h1).1
end Go.Proofs.YtnbcmgdogohenaaDoor.Ev
/- Summaries of functions, printed by a program out of a list, and what is made of them. -/
namespace Go.Proofs.YtnbcmgdogohenaaDoor.Ev
open Go Go.RowKit Go.Proofs
def F49 : List PV → Option (Bool × PV)
  | [.agg [.i .i64 a0, .i .i64 a1], .agg [.i .i64 b0, .i .i64 b1]] => some (true, .i .i64 (wayP (sq (⟨a0, a1⟩ : Spot) (⟨b0, b1⟩ : Spot))))
  | _ => none
theorem s49 {gl : Gl} : Sum gl 49 F49 := by
  intro ps r h
  unfold F49 at h
  split at h
  · rename_i a0 a1 b0 b1
    obtain ⟨hc, rfl⟩ := Prod.mk.inj (Option.some.inj h)
    refine call_by (K := K789) (L := L49) (bxs := []) (ows := []) GOk.nil fn49 (l49 gl) (by kernel_rfl) (evF_some ((e49 gl ⟨a0, a1⟩ ⟨b0, b1⟩).trans ?_))
    exact way49 (sq ⟨a0, a1⟩ ⟨b0, b1⟩) (fun v => an (.i .i64 v))
  · simp at h
def F50 : List PV → Option (Bool × PV)
  | [.agg [.i .i64 a0, .i .i64 a1], .agg [.i .i64 b0, .i .i64 b1]] => some (true, .i .i64 (wayR (sq (⟨a0, a1⟩ : Spot) (⟨b0, b1⟩ : Spot))))
  | _ => none
theorem s50 {gl : Gl} : Sum gl 50 F50 := by
  intro ps r h
  unfold F50 at h
  split at h
  · rename_i a0 a1 b0 b1
    obtain ⟨hc, rfl⟩ := Prod.mk.inj (Option.some.inj h)
    refine call_by (K := K789) (L := L50) (bxs := []) (ows := []) GOk.nil fn50 (l50 gl) (by kernel_rfl) (evF_some ((e50 gl ⟨a0, a1⟩ ⟨b0, b1⟩).trans ?_))
    exact way50 (sq ⟨a0, a1⟩ ⟨b0, b1⟩) (fun v => an (.i .i64 v))
  · simp at h
theorem fn84 : FnOk 84 Tryd.f84 := ⟨by kernel_rfl, by kernel_rfl, by kernel_rfl, by kernel_rfl⟩
def takeS (u : Unit') (a : Spot) (b : Spot) : Int := ceilS (wr ((wayP (sq a b)) * 3600)) u.speed
def c84 (u : Unit') : Bool := c70 u.speed
theorem e84 (gl : Gl) (u : Unit') (a : Spot) (b : Spot) : evFn (cx gl (mkG [(49, F49), (70, F70)]) [] []) noK noL Tryd.f84 [.agg [.s u.name, .i .i64 u.speed, .i .i64 u.fuel, .i .i64 u.burn, .i .i64 u.reserve, .i .i64 u.hours, .i .i64 u.sea, .i .i64 u.wind, .i .i64 u.base.x, .i .i64 u.base.y, .i .i64 u.margin, .i .i64 u.level], .agg [.i .i64 a.x, .i .i64 a.y], .agg [.i .i64 b.x, .i .i64 b.y]] noObjs = (match (c70 u.speed) with | true => an (.i .i64 (ceilS (wr ((wayP (sq a b)) * 3600)) u.speed)) | false => none) := by kernel_rfl
def F84 : List PV → Option (Bool × PV)
  | [.agg uL, .agg [.i .i64 a0, .i .i64 a1], .agg [.i .i64 b0, .i .i64 b1]] => (ETy.dec .unit uL).bind fun u => some ((c84 u), .i .i64 (takeS u (⟨a0, a1⟩ : Spot) (⟨b0, b1⟩ : Spot)))
  | _ => none
theorem s84 {gl : Gl} : Sum gl 84 F84 := by
  intro ps r h
  unfold F84 at h
  split at h
  · rename_i uL a0 a1 b0 b1
    obtain ⟨u, hu, h_u⟩ := Option.bind_eq_some_iff.1 h
    obtain rfl := dec_is (by simp) hu
    obtain ⟨hc, rfl⟩ := Prod.mk.inj (Option.some.inj h_u)
    refine call_by (K := noK) (L := noL) (bxs := []) (ows := []) (GOk.cons s49 (GOk.cons s70 (GOk.nil))) fn84 (noLoops (by kernel_rfl)) (by kernel_rfl) (evF_some ((e84 gl u ⟨a0, a1⟩ ⟨b0, b1⟩).trans ?_))
    try unfold takeS at hc
    try unfold c84 at hc
    try unfold takeS
    try unfold c84
    revert hc
    generalize ((c70 u.speed)) = b_
    cases b_
    · intro hc
      exact Bool.noConfusion (show false = true from hc)
    · intro hc
      rfl
  · simp at h
theorem fn96 : FnOk 96 Tryd.f96 := ⟨by kernel_rfl, by kernel_rfl, by kernel_rfl, by kernel_rfl⟩
def takeR (u : Unit') (a : Spot) (b : Spot) : Int := v72 (wr ((wayR (sq a b)) * 3600)) u.speed
def c96 (u : Unit') : Bool := c72 u.speed
theorem e96 (gl : Gl) (u : Unit') (a : Spot) (b : Spot) : evFn (cx gl (mkG [(50, F50), (72, F72)]) [] []) noK noL Tryd.f96 [.agg [.s u.name, .i .i64 u.speed, .i .i64 u.fuel, .i .i64 u.burn, .i .i64 u.reserve, .i .i64 u.hours, .i .i64 u.sea, .i .i64 u.wind, .i .i64 u.base.x, .i .i64 u.base.y, .i .i64 u.margin, .i .i64 u.level], .agg [.i .i64 a.x, .i .i64 a.y], .agg [.i .i64 b.x, .i .i64 b.y]] noObjs = (match (c72 u.speed) with | true => an (.i .i64 (v72 (wr ((wayR (sq a b)) * 3600)) u.speed)) | false => none) := by kernel_rfl
def F96 : List PV → Option (Bool × PV)
  | [.agg uL, .agg [.i .i64 a0, .i .i64 a1], .agg [.i .i64 b0, .i .i64 b1]] => (ETy.dec .unit uL).bind fun u => some ((c96 u), .i .i64 (takeR u (⟨a0, a1⟩ : Spot) (⟨b0, b1⟩ : Spot)))
  | _ => none
theorem s96 {gl : Gl} : Sum gl 96 F96 := by
  intro ps r h
  unfold F96 at h
  split at h
  · rename_i uL a0 a1 b0 b1
    obtain ⟨u, hu, h_u⟩ := Option.bind_eq_some_iff.1 h
    obtain rfl := dec_is (by simp) hu
    obtain ⟨hc, rfl⟩ := Prod.mk.inj (Option.some.inj h_u)
    refine call_by (K := noK) (L := noL) (bxs := []) (ows := []) (GOk.cons s50 (GOk.cons s72 (GOk.nil))) fn96 (noLoops (by kernel_rfl)) (by kernel_rfl) (evF_some ((e96 gl u ⟨a0, a1⟩ ⟨b0, b1⟩).trans ?_))
    try unfold takeR at hc
    try unfold c96 at hc
    try unfold takeR
    try unfold c96
    revert hc
    generalize ((c72 u.speed)) = b_
    cases b_
    · intro hc
      exact Bool.noConfusion (show false = true from hc)
    · intro hc
      rfl
  · simp at h
theorem fn17 : FnOk 17 Tryd.f17 := ⟨by kernel_rfl, by kernel_rfl, by kernel_rfl, by kernel_rfl⟩
def distS (a : Spot) (b : Spot) : Int := bif (bif (!(placed a)) then true else (!(placed b))) then 0 else (wayP (sq a b))
def distE (a : Spot) (b : Spot) : Int := bif (bif (!(placed a)) then true else (!(placed b))) then 2 else 0
theorem e17 (gl : Gl) (a : Spot) (b : Spot) : evFn (cx gl (mkG [(48, F48), (49, F49)]) [] []) noK noL Tryd.f17 [.agg [.i .i64 a.x, .i .i64 a.y], .agg [.i .i64 b.x, .i .i64 b.y]] noObjs = (match (bif (!(placed a)) then true else (!(placed b))) with | true => an (.tup [.i .i64 0, .i .i64 2]) | false => an (.tup [.i .i64 (wayP (sq a b)), .i .i64 0])) := by kernel_rfl
def F17 : List PV → Option (Bool × PV)
  | [.agg [.i .i64 a0, .i .i64 a1], .agg [.i .i64 b0, .i .i64 b1]] => some (true, .tup [.i .i64 (distS (⟨a0, a1⟩ : Spot) (⟨b0, b1⟩ : Spot)), .i .i64 (distE (⟨a0, a1⟩ : Spot) (⟨b0, b1⟩ : Spot))])
  | _ => none
theorem s17 {gl : Gl} : Sum gl 17 F17 := by
  intro ps r h
  unfold F17 at h
  split at h
  · rename_i a0 a1 b0 b1
    obtain ⟨hc, rfl⟩ := Prod.mk.inj (Option.some.inj h)
    refine call_by (K := noK) (L := noL) (bxs := []) (ows := []) (GOk.cons s48 (GOk.cons s49 (GOk.nil))) fn17 (noLoops (by kernel_rfl)) (by kernel_rfl) (evF_some ((e17 gl ⟨a0, a1⟩ ⟨b0, b1⟩).trans ?_))
    try unfold distS at hc
    try unfold distE at hc
    try unfold distS
    try unfold distE
    revert hc
    generalize ((bif (!(placed (⟨a0, a1⟩ : Spot))) then true else (!(placed (⟨b0, b1⟩ : Spot))))) = b_
    cases b_
    · intro hc
      rfl
    · intro hc
      rfl
  · simp at h
theorem fn18 : FnOk 18 Tryd.f18 := ⟨by kernel_rfl, by kernel_rfl, by kernel_rfl, by kernel_rfl⟩
def distR (a : Spot) (b : Spot) : Int := bif (bif (!(Place a)) then true else (!(Place b))) then 0 else (wayR (sq a b))
def distRE (a : Spot) (b : Spot) : Int := bif (bif (!(Place a)) then true else (!(Place b))) then 2 else 0
theorem e18 (gl : Gl) (a : Spot) (b : Spot) : evFn (cx gl (mkG [(32, F32), (50, F50)]) [] []) noK noL Tryd.f18 [.agg [.i .i64 a.x, .i .i64 a.y], .agg [.i .i64 b.x, .i .i64 b.y]] noObjs = (match (bif (!(Place a)) then true else (!(Place b))) with | true => an (.tup [.i .i64 0, .i .i64 2]) | false => an (.tup [.i .i64 (wayR (sq a b)), .i .i64 0])) := by kernel_rfl
def F18 : List PV → Option (Bool × PV)
  | [.agg [.i .i64 a0, .i .i64 a1], .agg [.i .i64 b0, .i .i64 b1]] => some (true, .tup [.i .i64 (distR (⟨a0, a1⟩ : Spot) (⟨b0, b1⟩ : Spot)), .i .i64 (distRE (⟨a0, a1⟩ : Spot) (⟨b0, b1⟩ : Spot))])
  | _ => none
theorem s18 {gl : Gl} : Sum gl 18 F18 := by
  intro ps r h
  unfold F18 at h
  split at h
  · rename_i a0 a1 b0 b1
    obtain ⟨hc, rfl⟩ := Prod.mk.inj (Option.some.inj h)
    refine call_by (K := noK) (L := noL) (bxs := []) (ows := []) (GOk.cons s32 (GOk.cons s50 (GOk.nil))) fn18 (noLoops (by kernel_rfl)) (by kernel_rfl) (evF_some ((e18 gl ⟨a0, a1⟩ ⟨b0, b1⟩).trans ?_))
    try unfold distR at hc
    try unfold distRE at hc
    try unfold distR
    try unfold distRE
    revert hc
    generalize ((bif (!(Place (⟨a0, a1⟩ : Spot))) then true else (!(Place (⟨b0, b1⟩ : Spot))))) = b_
    cases b_
    · intro hc
      rfl
    · intro hc
      rfl
  · simp at h
theorem fn54 : FnOk 54 Tryd.f54 := ⟨by kernel_rfl, by kernel_rfl, by kernel_rfl, by kernel_rfl⟩
def lim3 (x : Arr3) : Bool := within x.x0 x.x1 x.x2
theorem e54 (gl : Gl) (x : Arr3) : evFn (cx gl (mkG [(55, F55)]) [] []) noK noL Tryd.f54 [.agg [.i .i64 x.x0, .i .i64 x.x1, .i .i64 x.x2]] noObjs = an (.b (within x.x0 x.x1 x.x2)) := by kernel_rfl
def F54 : List PV → Option (Bool × PV)
  | [.agg [.i .i64 x0, .i .i64 x1, .i .i64 x2]] => some (true, .b (lim3 (⟨x0, x1, x2⟩ : Arr3)))
  | _ => none
theorem s54 {gl : Gl} : Sum gl 54 F54 := by
  intro ps r h
  unfold F54 at h
  split at h
  · rename_i x0 x1 x2
    obtain ⟨hc, rfl⟩ := Prod.mk.inj (Option.some.inj h)
    refine call_by (K := noK) (L := noL) (bxs := []) (ows := []) (GOk.cons s55 (GOk.nil)) fn54 (noLoops (by kernel_rfl)) (by kernel_rfl) (evF_some ((e54 gl ⟨x0, x1, x2⟩).trans ?_))
    try unfold lim3
    rfl
  · simp at h
theorem fn89 : FnOk 89 Tryd.f89 := ⟨by kernel_rfl, by kernel_rfl, by kernel_rfl, by kernel_rfl⟩
theorem e89 (gl : Gl) (x : Arr3) : evFn (cx gl (mkG [(54, F54)]) [] []) noK noL Tryd.f89 [.agg [.i .i64 x.x0, .i .i64 x.x1, .i .i64 x.x2], .ptr [.fn (.func 54) [] []] 0] noObjs = an (.b (!(lim3 x))) := by kernel_rfl
def F89 : List PV → Option (Bool × PV)
  | [.agg [.i .i64 x0, .i .i64 x1, .i .i64 x2], .ptr [.fn (.func 54) [] []] 0] => some (true, .b (!(lim3 (⟨x0, x1, x2⟩ : Arr3))))
  | _ => none
theorem s89 {gl : Gl} : Sum gl 89 F89 := by
  intro ps r h
  unfold F89 at h
  split at h
  · rename_i x0 x1 x2
    obtain ⟨hc, rfl⟩ := Prod.mk.inj (Option.some.inj h)
    refine call_by (K := noK) (L := noL) (bxs := []) (ows := []) (GOk.cons s54 (GOk.nil)) fn89 (noLoops (by kernel_rfl)) (by kernel_rfl) (evF_some ((e89 gl ⟨x0, x1, x2⟩).trans ?_))
    rfl
  · simp at h
end Go.Proofs.YtnbcmgdogohenaaDoor.Ev
/- Summaries of functions, printed by a program out of a list, and what is made of them. -/
namespace Go.Proofs.YtnbcmgdogohenaaDoor.Ev
open Go Go.RowKit Go.Proofs
structure S119_2 where
  xs : List Arr3
  r : Int
  n : Int
  i : Int
def S119_2.enc (s : S119_2) : List PV := [.sl .arr3 s.xs, .fn (.func 89) [] [.ptr [.fn (.func 54) [] []] 0], .i .i64 s.r, .i .i64 s.n, .i .i64 s.i]
def S119_2.encH (s : S119_2) : Heap := []
def dec119_2 : List PV → Heap → Option S119_2
  | [.sl .arr3 xs_, .fn (.func 89) [] [.ptr [.fn (.func 54) [] []] 0], .i .i64 r_, .i .i64 n_, .i .i64 i_], [] => some ⟨xs_, r_, n_, i_⟩
  | _, _ => none
theorem dec_enc119_2 (vs : List PV) (hs : Heap) (s : S119_2) (h : dec119_2 vs hs = some s) : vs = s.enc ∧ hs = s.encH := by
  unfold dec119_2 at h
  split at h
  · obtain rfl := Option.some.inj h
    exact ⟨rfl, rfl⟩
  · simp at h
def st119_2 {ρ : Type} (s : S119_2) (next : S119_2 → Option ρ) (out : S119_2 × Bool → Option ρ) : Option ρ := (match (decide (s.i < s.n)) with | true => (match (inB s.i s.xs.length) with | true => (match (!(lim3 (atD .arr3 s.xs s.i))) with | true => out (⟨s.xs, s.i, s.n, s.i⟩, true) | false => next ⟨s.xs, s.r, s.n, (wr (s.i + 1))⟩) | false => none) | false => out (s, false))
def out119_2 (k : Ex → List PV → Heap → Option R) (o : S119_2 × Bool) : Option R := match o.2 with
  | true => k .ret o.1.enc o.1.encH
  | false => k (.exit 0) o.1.enc o.1.encH
def fuel119_2 (s : S119_2) : Nat := s.xs.length + 1
def K119 : Keep := fun _ => ([0, 1, 4, 7, 8], [])
def L119 : Lam := loopL dec119_2 st119_2 fuel119_2 out119_2
noncomputable def b119_2 : Code := (loopsOf (bodyOf Tryd.f119)).getD 0 .skip
theorem step119_2 (gl : Gl) (j : Nat) (s : S119_2) (k : Ex → List PV → Heap → Option R) : unroll (cx gl (mkG [(89, F89)]) [] []) K119 L119 Tryd.f119.ntmps (Tryd.f119.ntmps + 16) b119_2 (j + 1) s.enc s.encH k = st119_2 s (fun s' => unroll (cx gl (mkG [(89, F89)]) [] []) K119 L119 Tryd.f119.ntmps (Tryd.f119.ntmps + 16) b119_2 j s'.enc s'.encH k) (out119_2 k) := by kernel_rfl
theorem l119 (gl : Gl) : LoopsOk (cx gl (mkG [(89, F89)]) [] []) K119 L119 Tryd.f119.ntmps (Tryd.f119.ntmps + 16) (loopsOf (bodyOf Tryd.f119)) := by
  refine loopsOk_list (l := [b119_2]) (by kernel_rfl) ?_
  exact List.forall_mem_cons.2 ⟨loopOk1 (fuel := fuel119_2) (enc := S119_2.enc) (encH := S119_2.encH) (fun vs hs k => by kernel_rfl) dec_enc119_2 (step119_2 gl ), (fun _ h => by simp at h)⟩
theorem fn119 : FnOk 119 Tryd.f119 := ⟨by kernel_rfl, by kernel_rfl, by kernel_rfl, by kernel_rfl⟩
theorem e119 (gl : Gl) (xs : List Arr3) : evFn (cx gl (mkG [(89, F89)]) [] []) K119 L119 Tryd.f119 [.sl .arr3 xs, .fn (.func 89) [] [.ptr [.fn (.func 54) [] []] 0]] noObjs = (iter st119_2 (fuel119_2 (⟨xs, 0, (xs.length : Int), 0⟩ : S119_2)) (⟨xs, 0, (xs.length : Int), 0⟩ : S119_2) fun o2 => (match o2.2 with | true => an (.i .i64 o2.1.r) | false => an (.i .i64 (-1)))) := by kernel_rfl
def F119 : List PV → Option (Bool × PV)
  | [.sl .arr3 xs, .fn (.func 89) [] [.ptr [.fn (.func 54) [] []] 0]] => some ((decide (xs.length ≤ 1000000)), .i .i64 (idxI (fun x => !(lim3 x)) xs))
  | _ => none
theorem s119 {gl : Gl} : Sum gl 119 F119 := by
  intro ps r h
  unfold F119 at h
  split at h
  · rename_i xs
    obtain ⟨hc, rfl⟩ := Prod.mk.inj (Option.some.inj h)
    refine call_by (K := K119) (L := L119) (bxs := []) (ows := []) (GOk.cons s89 (GOk.nil)) fn119 (l119 gl) (by kernel_rfl) (evF_some ((e119 gl xs).trans ?_))
    have hx := of_decide_eq_true hc
    refine (iter_all (step := st119_2) (F := fun k => ⟨xs, 0, xs.length, (k : Int)⟩) (stop := fun k => bif !(lim3 (atN .arr3 xs k)) then some (⟨xs, (k : Int), xs.length, (k : Int)⟩, true) else none) (last := (⟨xs, 0, xs.length, (xs.length : Int)⟩, false)) xs.length _ (fun k next hk => ?_) (fun next => ?_) _ (Nat.le_refl _) _ rfl).trans ?_
    · simp only [st119_2, decLt_nat hk, inB_nat hk, wr_succ (show k ≤ 1000000 by omega), atD, Int.toNat_natCast]
      generalize (!(lim3 (atN .arr3 xs k))) = b_
      cases b_ <;> rfl
    · simp only [st119_2, decLt_self]
    · rw [runTo_find (fun x => !(lim3 x)) (fun k => (⟨xs, (k : Int), xs.length, (k : Int)⟩, true)) _ _ xs (fun k hk => by rw [atN_nat hk]) xs.length 0 (by omega), List.drop_zero]
      unfold idxI
      cases xs.findIdx? (fun x => !(lim3 x)) with
      | none => rfl
      | some k => simp only [Nat.zero_add]; rfl
  · simp at h
theorem fn88 : FnOk 88 Tryd.f88 := ⟨by kernel_rfl, by kernel_rfl, by kernel_rfl, by kernel_rfl⟩
theorem e88 (gl : Gl) (xs : List Arr3) : evFn (cx gl (mkG [(119, F119)]) [] []) noK noL Tryd.f88 [.sl .arr3 xs, .fn (.func 89) [] [.ptr [.fn (.func 54) [] []] 0]] noObjs = (match (decide (xs.length ≤ 1000000)) with | true => an (.b (decide ((idxI (fun x => !(lim3 x)) xs) ≥ 0))) | false => none) := by kernel_rfl
def F88 : List PV → Option (Bool × PV)
  | [.sl .arr3 xs, .fn (.func 89) [] [.ptr [.fn (.func 54) [] []] 0]] => some ((decide (xs.length ≤ 1000000)), .b (List.any xs (fun x => !(lim3 x))))
  | _ => none
theorem s88 {gl : Gl} : Sum gl 88 F88 := by
  intro ps r h
  unfold F88 at h
  split at h
  · rename_i xs
    obtain ⟨hc, rfl⟩ := Prod.mk.inj (Option.some.inj h)
    refine call_by (K := noK) (L := noL) (bxs := []) (ows := []) (GOk.cons s119 (GOk.nil)) fn88 (noLoops (by kernel_rfl)) (by kernel_rfl) (evF_some ((e88 gl xs).trans ?_))
    have hx := of_decide_eq_true hc
    rw [decide_eq_true hx]
    show an (.b (decide (idxI _ xs ≥ 0))) = _
    rw [idxI_any]
    rfl
  · simp at h
theorem fn53 : FnOk 53 Tryd.f53 := ⟨by kernel_rfl, by kernel_rfl, by kernel_rfl, by kernel_rfl⟩
theorem e53 (gl : Gl) (xs : List Arr3) : evFn (cx gl (mkG [(88, F88)]) [] []) noK noL Tryd.f53 [.sl .arr3 xs, .fn (.func 54) [] []] noObjs = (match (decide (xs.length ≤ 1000000)) with | true => an (.b (!(List.any xs (fun x => !(lim3 x))))) | false => none) := by kernel_rfl
def F53 : List PV → Option (Bool × PV)
  | [.sl .arr3 xs, .fn (.func 54) [] []] => some ((decide (xs.length ≤ 1000000)), .b (List.all xs (lim3)))
  | _ => none
theorem s53 {gl : Gl} : Sum gl 53 F53 := by
  intro ps r h
  unfold F53 at h
  split at h
  · rename_i xs
    obtain ⟨hc, rfl⟩ := Prod.mk.inj (Option.some.inj h)
    refine call_by (K := noK) (L := noL) (bxs := []) (ows := []) (GOk.cons s88 (GOk.nil)) fn53 (noLoops (by kernel_rfl)) (by kernel_rfl) (evF_some ((e53 gl xs).trans ?_))
    have hx := of_decide_eq_true hc
    rw [decide_eq_true hx]
    show an (.b (!(xs.any fun x => !((lim3) x)))) = _
    rw [all_not_any]
    rfl
  · simp at h
end Go.Proofs.YtnbcmgdogohenaaDoor.Ev
