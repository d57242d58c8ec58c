/- Summaries of functions, printed by a program out of a list, and what is made of them. -/
import Derived.Test.YtklgaodfakdjpaaKp
import Derived.Shelf.Strings.FuncGrows
set_option linter.unusedVariables false
set_option linter.unusedSimpArgs false
set_option maxRecDepth 100000
namespace Go.Proofs.Ytklgaodfakdjpaa.Ev
open Go Go.RowKit Go.Proofs
theorem fn44 : FnOk 44 Try.f44 := ⟨by kernel_rfl, by kernel_rfl, by kernel_rfl, by kernel_rfl⟩
def within (n : Int) (a : Int) (b : Int) : Bool := bif (decide (a ≤ n)) then (decide (n ≤ b)) else false
theorem e44 (gl : Gl) (n : Int) (a : Int) (b : Int) : evFn (cx gl (mkG []) [] []) noK noL Try.f44 [.i .i64 n, .i .i64 a, .i .i64 b] noObjs = an (.b (bif (decide (a ≤ n)) then (decide (n ≤ b)) else false)) := by kernel_rfl
def F44 : List PV → Option (Bool × PV)
  | [.i .i64 n, .i .i64 a, .i .i64 b] => some (true, .b (within n a b))
  | _ => none
theorem s44 {gl : Gl} : Sum gl 44 F44 := by
  intro ps r h
  unfold F44 at h
  split at h
  · rename_i n a b
    obtain ⟨hc, rfl⟩ := Prod.mk.inj (Option.some.inj h)
    refine call_by (K := noK) (L := noL) (bxs := []) (ows := []) (GOk.nil) fn44 (noLoops (by kernel_rfl)) (by kernel_rfl) (evF_some ((e44 gl n a b).trans ?_))
    try unfold within
    rfl
  · simp at h
theorem fn68 : FnOk 68 Try.f68 := ⟨by kernel_rfl, by kernel_rfl, by kernel_rfl, by kernel_rfl⟩
def v68 (n : Int) (a : Int) (b : Int) : Bool := bif (decide (a ≤ n)) then (decide (n ≤ b)) else false
theorem e68 (gl : Gl) (n : Int) (a : Int) (b : Int) : evFn (cx gl (mkG []) [] []) noK noL Try.f68 [.i .i64 n, .i .i64 a, .i .i64 b] noObjs = an (.b (bif (decide (a ≤ n)) then (decide (n ≤ b)) else false)) := by kernel_rfl
def F68 : List PV → Option (Bool × PV)
  | [.i .i64 n, .i .i64 a, .i .i64 b] => some (true, .b (v68 n a b))
  | _ => none
theorem s68 {gl : Gl} : Sum gl 68 F68 := by
  intro ps r h
  unfold F68 at h
  split at h
  · rename_i n a b
    obtain ⟨hc, rfl⟩ := Prod.mk.inj (Option.some.inj h)
    refine call_by (K := noK) (L := noL) (bxs := []) (ows := []) (GOk.nil) fn68 (noLoops (by kernel_rfl)) (by kernel_rfl) (evF_some ((e68 gl n a b).trans ?_))
    try unfold v68
    rfl
  · simp at h
theorem fn30 : FnOk 30 Try.f30 := ⟨by kernel_rfl, by kernel_rfl, by kernel_rfl, by kernel_rfl⟩
def In (n : Int) (a : Int) (b : Int) : Bool := bif (decide (n ≥ a)) then (decide (n ≤ b)) else false
theorem e30 (gl : Gl) (n : Int) (a : Int) (b : Int) : evFn (cx gl (mkG []) [] []) noK noL Try.f30 [.i .i64 n, .i .i64 a, .i .i64 b] noObjs = an (.b (bif (decide (n ≥ a)) then (decide (n ≤ b)) else false)) := by kernel_rfl
def F30 : List PV → Option (Bool × PV)
  | [.i .i64 n, .i .i64 a, .i .i64 b] => some (true, .b (In n a b))
  | _ => none
theorem s30 {gl : Gl} : Sum gl 30 F30 := by
  intro ps r h
  unfold F30 at h
  split at h
  · rename_i n a b
    obtain ⟨hc, rfl⟩ := Prod.mk.inj (Option.some.inj h)
    refine call_by (K := noK) (L := noL) (bxs := []) (ows := []) (GOk.nil) fn30 (noLoops (by kernel_rfl)) (by kernel_rfl) (evF_some ((e30 gl n a b).trans ?_))
    try unfold In
    rfl
  · simp at h
theorem fn55 : FnOk 55 Try.f55 := ⟨by kernel_rfl, by kernel_rfl, by kernel_rfl, by kernel_rfl⟩
def Time (n : Int) : Bool := In n 0 1073741824
theorem e55 (gl : Gl) (n : Int) : evFn (cx gl (mkG [(30, F30)]) [] []) noK noL Try.f55 [.i .i64 n] noObjs = an (.b (In n 0 1073741824)) := by kernel_rfl
def F55 : List PV → Option (Bool × PV)
  | [.i .i64 n] => some (true, .b (Time n))
  | _ => none
theorem s55 {gl : Gl} : Sum gl 55 F55 := by
  intro ps r h
  unfold F55 at h
  split at h
  · rename_i n
    obtain ⟨hc, rfl⟩ := Prod.mk.inj (Option.some.inj h)
    refine call_by (K := noK) (L := noL) (bxs := []) (ows := []) (GOk.cons s30 (GOk.nil)) fn55 (noLoops (by kernel_rfl)) (by kernel_rfl) (evF_some ((e55 gl n).trans ?_))
    try unfold Time
    rfl
  · simp at h
theorem fn76 : FnOk 76 Try.f76 := ⟨by kernel_rfl, by kernel_rfl, by kernel_rfl, by kernel_rfl⟩
def Place (p : Spot) : Bool := bif (In p.x (-16777216) 16777216) then (In p.y (-16777216) 16777216) else false
theorem e76 (gl : Gl) (p : Spot) : evFn (cx gl (mkG [(30, F30)]) [] []) noK noL Try.f76 [.agg [.i .i64 p.x, .i .i64 p.y]] noObjs = an (.b (bif (In p.x (-16777216) 16777216) then (In p.y (-16777216) 16777216) else false)) := by kernel_rfl
def F76 : List PV → Option (Bool × PV)
  | [.agg [.i .i64 p0, .i .i64 p1]] => some (true, .b (Place (⟨p0, p1⟩ : Spot)))
  | _ => none
theorem s76 {gl : Gl} : Sum gl 76 F76 := by
  intro ps r h
  unfold F76 at h
  split at h
  · rename_i p0 p1
    obtain ⟨hc, rfl⟩ := Prod.mk.inj (Option.some.inj h)
    refine call_by (K := noK) (L := noL) (bxs := []) (ows := []) (GOk.cons s30 (GOk.nil)) fn76 (noLoops (by kernel_rfl)) (by kernel_rfl) (evF_some ((e76 gl ⟨p0, p1⟩).trans ?_))
    try unfold Place
    rfl
  · simp at h
theorem fn86 : FnOk 86 Try.f86 := ⟨by kernel_rfl, by kernel_rfl, by kernel_rfl, by kernel_rfl⟩
def placed (p : Spot) : Bool := bif (v68 p.x (-16777216) 16777216) then (v68 p.y (-16777216) 16777216) else false
theorem e86 (gl : Gl) (p : Spot) : evFn (cx gl (mkG [(68, F68)]) [] []) noK noL Try.f86 [.agg [.i .i64 p.x, .i .i64 p.y]] noObjs = an (.b (bif (v68 p.x (-16777216) 16777216) then (v68 p.y (-16777216) 16777216) else false)) := by kernel_rfl
def F86 : List PV → Option (Bool × PV)
  | [.agg [.i .i64 p0, .i .i64 p1]] => some (true, .b (placed (⟨p0, p1⟩ : Spot)))
  | _ => none
theorem s86 {gl : Gl} : Sum gl 86 F86 := by
  intro ps r h
  unfold F86 at h
  split at h
  · rename_i p0 p1
    obtain ⟨hc, rfl⟩ := Prod.mk.inj (Option.some.inj h)
    refine call_by (K := noK) (L := noL) (bxs := []) (ows := []) (GOk.cons s68 (GOk.nil)) fn86 (noLoops (by kernel_rfl)) (by kernel_rfl) (evF_some ((e86 gl ⟨p0, p1⟩).trans ?_))
    try unfold placed
    rfl
  · simp at h
theorem fn77 : FnOk 77 Try.f77 := ⟨by kernel_rfl, by kernel_rfl, by kernel_rfl, by kernel_rfl⟩
def turnR (a : Spot) (b : Spot) (c : Spot) : Int := wr ((wr ((wr (b.x - a.x)) * (wr (c.y - b.y)))) - (wr ((wr (b.y - a.y)) * (wr (c.x - b.x)))))
theorem e77 (gl : Gl) (a : Spot) (b : Spot) (c : Spot) : evFn (cx gl (mkG []) [] []) noK noL Try.f77 [.agg [.i .i64 a.x, .i .i64 a.y], .agg [.i .i64 b.x, .i .i64 b.y], .agg [.i .i64 c.x, .i .i64 c.y]] noObjs = an (.i .i64 (wr ((wr ((wr (b.x - a.x)) * (wr (c.y - b.y)))) - (wr ((wr (b.y - a.y)) * (wr (c.x - b.x))))))) := by kernel_rfl
def F77 : List PV → Option (Bool × PV)
  | [.agg [.i .i64 a0, .i .i64 a1], .agg [.i .i64 b0, .i .i64 b1], .agg [.i .i64 c0, .i .i64 c1]] => some (true, .i .i64 (turnR (⟨a0, a1⟩ : Spot) (⟨b0, b1⟩ : Spot) (⟨c0, c1⟩ : Spot)))
  | _ => none
theorem s77 {gl : Gl} : Sum gl 77 F77 := by
  intro ps r h
  unfold F77 at h
  split at h
  · rename_i a0 a1 b0 b1 c0 c1
    obtain ⟨hc, rfl⟩ := Prod.mk.inj (Option.some.inj h)
    refine call_by (K := noK) (L := noL) (bxs := []) (ows := []) (GOk.nil) fn77 (noLoops (by kernel_rfl)) (by kernel_rfl) (evF_some ((e77 gl ⟨a0, a1⟩ ⟨b0, b1⟩ ⟨c0, c1⟩).trans ?_))
    try unfold turnR
    rfl
  · simp at h
theorem fn87 : FnOk 87 Try.f87 := ⟨by kernel_rfl, by kernel_rfl, by kernel_rfl, by kernel_rfl⟩
def turnV (a : Spot) (b : Spot) (c : Spot) : Int := wr ((wr ((wr (b.x - a.x)) * (wr (c.y - b.y)))) - (wr ((wr (b.y - a.y)) * (wr (c.x - b.x)))))
theorem e87 (gl : Gl) (a : Spot) (b : Spot) (c : Spot) : evFn (cx gl (mkG []) [] []) noK noL Try.f87 [.agg [.i .i64 a.x, .i .i64 a.y], .agg [.i .i64 b.x, .i .i64 b.y], .agg [.i .i64 c.x, .i .i64 c.y]] noObjs = an (.i .i64 (wr ((wr ((wr (b.x - a.x)) * (wr (c.y - b.y)))) - (wr ((wr (b.y - a.y)) * (wr (c.x - b.x))))))) := by kernel_rfl
def F87 : List PV → Option (Bool × PV)
  | [.agg [.i .i64 a0, .i .i64 a1], .agg [.i .i64 b0, .i .i64 b1], .agg [.i .i64 c0, .i .i64 c1]] => some (true, .i .i64 (turnV (⟨a0, a1⟩ : Spot) (⟨b0, b1⟩ : Spot) (⟨c0, c1⟩ : Spot)))
  | _ => none
theorem s87 {gl : Gl} : Sum gl 87 F87 := by
  intro ps r h
  unfold F87 at h
  split at h
  · rename_i a0 a1 b0 b1 c0 c1
    obtain ⟨hc, rfl⟩ := Prod.mk.inj (Option.some.inj h)
    refine call_by (K := noK) (L := noL) (bxs := []) (ows := []) (GOk.nil) fn87 (noLoops (by kernel_rfl)) (by kernel_rfl) (evF_some ((e87 gl ⟨a0, a1⟩ ⟨b0, b1⟩ ⟨c0, c1⟩).trans ?_))
    try unfold turnV
    rfl
  · simp at h
theorem fn93 : FnOk 93 Try.f93 := ⟨by kernel_rfl, by kernel_rfl, by kernel_rfl, by kernel_rfl⟩
def distV (a : Int) (b : Int) : Int := imax (wr (a - b)) (wr (b - a))
theorem e93 (gl : Gl) (a : Int) (b : Int) : evFn (cx gl (mkG []) [] []) noK noL Try.f93 [.i .i64 a, .i .i64 b] noObjs = an (.i .i64 (imax (wr (a - b)) (wr (b - a)))) := by kernel_rfl
def F93 : List PV → Option (Bool × PV)
  | [.i .i64 a, .i .i64 b] => some (true, .i .i64 (distV a b))
  | _ => none
theorem s93 {gl : Gl} : Sum gl 93 F93 := by
  intro ps r h
  unfold F93 at h
  split at h
  · rename_i a b
    obtain ⟨hc, rfl⟩ := Prod.mk.inj (Option.some.inj h)
    refine call_by (K := noK) (L := noL) (bxs := []) (ows := []) (GOk.nil) fn93 (noLoops (by kernel_rfl)) (by kernel_rfl) (evF_some ((e93 gl a b).trans ?_))
    try unfold distV
    rfl
  · simp at h
theorem fn72 : FnOk 72 Try.f72 := ⟨by kernel_rfl, by kernel_rfl, by kernel_rfl, by kernel_rfl⟩
def apartR (a : Int) (b : Int) : Int := imax (wr (a - b)) (wr (b - a))
theorem e72 (gl : Gl) (a : Int) (b : Int) : evFn (cx gl (mkG []) [] []) noK noL Try.f72 [.i .i64 a, .i .i64 b] noObjs = an (.i .i64 (imax (wr (a - b)) (wr (b - a)))) := by kernel_rfl
def F72 : List PV → Option (Bool × PV)
  | [.i .i64 a, .i .i64 b] => some (true, .i .i64 (apartR a b))
  | _ => none
theorem s72 {gl : Gl} : Sum gl 72 F72 := by
  intro ps r h
  unfold F72 at h
  split at h
  · rename_i a b
    obtain ⟨hc, rfl⟩ := Prod.mk.inj (Option.some.inj h)
    refine call_by (K := noK) (L := noL) (bxs := []) (ows := []) (GOk.nil) fn72 (noLoops (by kernel_rfl)) (by kernel_rfl) (evF_some ((e72 gl a b).trans ?_))
    try unfold apartR
    rfl
  · simp at h
theorem fn90 : FnOk 90 Try.f90 := ⟨by kernel_rfl, by kernel_rfl, by kernel_rfl, by kernel_rfl⟩
def namedB (a : Report) (b : Report) : Bool := bif (!(a.about.toList == (⟨#[]⟩ : ByteArray).toList)) then (!(b.about.toList == (⟨#[]⟩ : ByteArray).toList)) else false
theorem e90 (gl : Gl) (a : Report) (b : Report) : evFn (cx gl (mkG []) [] []) noK noL Try.f90 [.agg [.i .i64 a.kind, .i .i64 a.time, .s a.source, .s a.about, .sl .spot a.wher, .i .i64 a.souls, .i .i64 a.trust], .agg [.i .i64 b.kind, .i .i64 b.time, .s b.source, .s b.about, .sl .spot b.wher, .i .i64 b.souls, .i .i64 b.trust]] noObjs = an (.b (bif (!(a.about.toList == (⟨#[]⟩ : ByteArray).toList)) then (!(b.about.toList == (⟨#[]⟩ : ByteArray).toList)) else false)) := by kernel_rfl
def F90 : List PV → Option (Bool × PV)
  | [.agg aL, .agg bL] => (ETy.dec .report aL).bind fun a => (ETy.dec .report bL).bind fun b => some (true, .b (namedB a b))
  | _ => none
theorem s90 {gl : Gl} : Sum gl 90 F90 := by
  intro ps r h
  unfold F90 at h
  split at h
  · rename_i aL bL
    obtain ⟨a, ha, h_a⟩ := Option.bind_eq_some_iff.1 h
    obtain rfl := dec_is (by simp) ha
    obtain ⟨b, hb, h_b⟩ := Option.bind_eq_some_iff.1 h_a
    obtain rfl := dec_is (by simp) hb
    obtain ⟨hc, rfl⟩ := Prod.mk.inj (Option.some.inj h_b)
    refine call_by (K := noK) (L := noL) (bxs := []) (ows := []) (GOk.nil) fn90 (noLoops (by kernel_rfl)) (by kernel_rfl) (evF_some ((e90 gl a b).trans ?_))
    try unfold namedB
    rfl
  · simp at h
theorem fn12 : FnOk 12 Try.f12 := ⟨by kernel_rfl, by kernel_rfl, by kernel_rfl, by kernel_rfl⟩
def rulesR (w : Int) (d : Int) : Bool := bif (In w 0 604800) then (In d 0 100000) else false
theorem e12 (gl : Gl) (w : Int) (d : Int) : evFn (cx gl (mkG [(30, F30)]) [] []) noK noL Try.f12 [.i .i64 w, .i .i64 d] noObjs = an (.b (bif (In w 0 604800) then (In d 0 100000) else false)) := by kernel_rfl
def F12 : List PV → Option (Bool × PV)
  | [.i .i64 w, .i .i64 d] => some (true, .b (rulesR w d))
  | _ => none
theorem s12 {gl : Gl} : Sum gl 12 F12 := by
  intro ps r h
  unfold F12 at h
  split at h
  · rename_i w d
    obtain ⟨hc, rfl⟩ := Prod.mk.inj (Option.some.inj h)
    refine call_by (K := noK) (L := noL) (bxs := []) (ows := []) (GOk.cons s30 (GOk.nil)) fn12 (noLoops (by kernel_rfl)) (by kernel_rfl) (evF_some ((e12 gl w d).trans ?_))
    try unfold rulesR
    rfl
  · simp at h
theorem fn29 : FnOk 29 Try.f29 := ⟨by kernel_rfl, by kernel_rfl, by kernel_rfl, by kernel_rfl⟩
def rulesV (w : Int) (d : Int) : Bool := bif (within w 0 604800) then (within d 0 100000) else false
theorem e29 (gl : Gl) (w : Int) (d : Int) : evFn (cx gl (mkG [(44, F44)]) [] []) noK noL Try.f29 [.agg [.i .i64 w, .i .i64 d]] noObjs = an (.b (bif (within w 0 604800) then (within d 0 100000) else false)) := by kernel_rfl
def F29 : List PV → Option (Bool × PV)
  | [.agg [.i .i64 w, .i .i64 d]] => some (true, .b (rulesV w d))
  | _ => none
theorem s29 {gl : Gl} : Sum gl 29 F29 := by
  intro ps r h
  unfold F29 at h
  split at h
  · rename_i w d
    obtain ⟨hc, rfl⟩ := Prod.mk.inj (Option.some.inj h)
    refine call_by (K := noK) (L := noL) (bxs := []) (ows := []) (GOk.cons s44 (GOk.nil)) fn29 (noLoops (by kernel_rfl)) (by kernel_rfl) (evF_some ((e29 gl w d).trans ?_))
    try unfold rulesV
    rfl
  · simp at h
theorem fn21 : FnOk 21 Try.f21 := ⟨by kernel_rfl, by kernel_rfl, by kernel_rfl, by kernel_rfl⟩
def greatR (r : Report) : Bool := bif (bif (decide ((r.source.size : Int) > 100)) then true else (decide ((r.about.size : Int) > 100))) then true else (decide ((r.wher.length : Int) > 30))
theorem e21 (gl : Gl) (r : Report) : evFn (cx gl (mkG []) [] []) noK noL Try.f21 [.agg [.i .i64 r.kind, .i .i64 r.time, .s r.source, .s r.about, .sl .spot r.wher, .i .i64 r.souls, .i .i64 r.trust]] noObjs = an (.b (bif (bif (decide ((r.source.size : Int) > 100)) then true else (decide ((r.about.size : Int) > 100))) then true else (decide ((r.wher.length : Int) > 30)))) := by kernel_rfl
def F21 : List PV → Option (Bool × PV)
  | [.agg rL] => (ETy.dec .report rL).bind fun r => some (true, .b (greatR r))
  | _ => none
theorem s21 {gl : Gl} : Sum gl 21 F21 := by
  intro ps r h
  unfold F21 at h
  split at h
  · rename_i rL
    obtain ⟨r, hr, h_r⟩ := Option.bind_eq_some_iff.1 h
    obtain rfl := dec_is (by simp) hr
    obtain ⟨hc, rfl⟩ := Prod.mk.inj (Option.some.inj h_r)
    refine call_by (K := noK) (L := noL) (bxs := []) (ows := []) (GOk.nil) fn21 (noLoops (by kernel_rfl)) (by kernel_rfl) (evF_some ((e21 gl r).trans ?_))
    try unfold greatR
    rfl
  · simp at h
theorem fn83 : FnOk 83 Try.f83 := ⟨by kernel_rfl, by kernel_rfl, by kernel_rfl, by kernel_rfl⟩
def runeBad (c : Int) : Bool := !(bif (bif (bif (decide (c ≥ 97)) then (decide (c ≤ 122)) else false) then true else (bif (decide (c ≥ 48)) then (decide (c ≤ 57)) else false)) then true else (c == 45))
theorem e83 (gl : Gl) (c : Int) : evFn (cx gl (mkG []) [] []) noK noL Try.f83 [.i .i32 c] noObjs = an (.b (!(bif (bif (bif (decide (c ≥ 97)) then (decide (c ≤ 122)) else false) then true else (bif (decide (c ≥ 48)) then (decide (c ≤ 57)) else false)) then true else (c == 45)))) := by kernel_rfl
def F83 : List PV → Option (Bool × PV)
  | [.i .i32 c] => some (true, .b (runeBad c))
  | _ => none
theorem s83 {gl : Gl} : Sum gl 83 F83 := by
  intro ps r h
  unfold F83 at h
  split at h
  · rename_i c
    obtain ⟨hc, rfl⟩ := Prod.mk.inj (Option.some.inj h)
    refine call_by (K := noK) (L := noL) (bxs := []) (ows := []) (GOk.nil) fn83 (noLoops (by kernel_rfl)) (by kernel_rfl) (evF_some ((e83 gl c).trans ?_))
    try unfold runeBad
    rfl
  · simp at h
theorem fn85 : FnOk 85 Try.f85 := ⟨by kernel_rfl, by kernel_rfl, by kernel_rfl, by kernel_rfl⟩
theorem e85 (gl : Gl) (p : Spot) : evFn (cx gl (mkG [(86, F86)]) [] []) noK noL Try.f85 [.agg [.i .i64 p.x, .i .i64 p.y]] noObjs = an (.b (!(placed p))) := by kernel_rfl
def F85 : List PV → Option (Bool × PV)
  | [.agg [.i .i64 p0, .i .i64 p1]] => some (true, .b (!(placed (⟨p0, p1⟩ : Spot))))
  | _ => none
theorem s85 {gl : Gl} : Sum gl 85 F85 := by
  intro ps r h
  unfold F85 at h
  split at h
  · rename_i p0 p1
    obtain ⟨hc, rfl⟩ := Prod.mk.inj (Option.some.inj h)
    refine call_by (K := noK) (L := noL) (bxs := []) (ows := []) (GOk.cons s86 (GOk.nil)) fn85 (noLoops (by kernel_rfl)) (by kernel_rfl) (evF_some ((e85 gl ⟨p0, p1⟩).trans ?_))
    rfl
  · simp at h
theorem fn88 : FnOk 88 Try.f88 := ⟨by kernel_rfl, by kernel_rfl, by kernel_rfl, by kernel_rfl⟩
def turnNeg (c : Spot) (a : Spot) (b : Spot) : Bool := decide ((turnV a b c) < 0)
theorem e88 (gl : Gl) (c : Spot) (a : Spot) (b : Spot) : evFn (cx gl (mkG [(87, F87)]) [] []) noK noL Try.f88 [.agg [.i .i64 c.x, .i .i64 c.y], .ptr [.i .i64 a.x, .i .i64 a.y] 0, .ptr [.i .i64 b.x, .i .i64 b.y] 0] noObjs = an (.b (decide ((turnV a b c) < 0))) := by kernel_rfl
def F88 : List PV → Option (Bool × PV)
  | [.agg [.i .i64 c0, .i .i64 c1], .ptr [.i .i64 a0, .i .i64 a1] 0, .ptr [.i .i64 b0, .i .i64 b1] 0] => some (true, .b (turnNeg (⟨c0, c1⟩ : Spot) (⟨a0, a1⟩ : Spot) (⟨b0, b1⟩ : Spot)))
  | _ => none
theorem s88 {gl : Gl} : Sum gl 88 F88 := by
  intro ps r h
  unfold F88 at h
  split at h
  · rename_i c0 c1 a0 a1 b0 b1
    obtain ⟨hc, rfl⟩ := Prod.mk.inj (Option.some.inj h)
    refine call_by (K := noK) (L := noL) (bxs := []) (ows := []) (GOk.cons s87 (GOk.nil)) fn88 (noLoops (by kernel_rfl)) (by kernel_rfl) (evF_some ((e88 gl ⟨c0, c1⟩ ⟨a0, a1⟩ ⟨b0, b1⟩).trans ?_))
    try unfold turnNeg
    rfl
  · simp at h
end Go.Proofs.Ytklgaodfakdjpaa.Ev
/- strings.indexFunc, by the kit's contract; and names: a string without runes that are not so has no bytes that are not so. -/
set_option maxRecDepth 1000000
namespace Go.Proofs.Ytklgaodfakdjpaa.Ev
open Go Go.RowKit Go.Proofs

def ρ0 : Go.Shelf.Ren := ⟨fun _ => 103, fun (t : Nat) => if t = 40 then 135 else t, fun g => g⟩
theorem lays315 : Lays.n315 Try.prog ρ0 := ⟨Checked.mixed Try.checked, by kernel_rfl, by kernel_rfl, fun w => by kernel_rfl, fun w => by kernel_rfl, fun w => by kernel_rfl, by kernel_rfl, fun w => by kernel_rfl, fun w => by kernel_rfl, fun w => by kernel_rfl, by kernel_rfl, fun w => by kernel_rfl, fun w => by kernel_rfl, fun w => by kernel_rfl, by kernel_rfl, fun w => by kernel_rfl, fun w => by kernel_rfl, fun w => by kernel_rfl, by kernel_rfl, fun w => by kernel_rfl, fun w => by kernel_rfl, fun w => by kernel_rfl, by kernel_rfl, fun w => by kernel_rfl, fun w => by kernel_rfl, fun w => by kernel_rfl⟩
def runeP (x : Nat) : Bool := runeBad (x : Int)
theorem grows83 (w : World) : PredGrows Try.prog 83 #[] runeP w := by
  intro W x hx hb
  have h := (s83 (gl := fun _ => .junk) [.i .i32 (x : Int)] (.b (runeBad (x : Int))) rfl).1 W (fun _ => False) [.int .i32 (x : Int)] (fun β h => h.elim) (fun n hn => absurd rfl hn) (.cons (.i _ _) .nil)
  refine h.mono fun e w' ⟨v, he, hbl, hv⟩ => ?_
  cases hv
  exact ⟨he, hbl⟩
theorem fn103 : FnOk 103 Try.f103 := ⟨by kernel_rfl, by kernel_rfl, by kernel_rfl, by kernel_rfl⟩
def F103 : List PV → Option (Bool × PV)
  | [.s s, .fn (.func 83) [] [], .b b] => some (b, .i .i64 (Lib.idxFunc runeP true s))
  | _ => none
theorem s103 {gl : Gl} : Sum gl 103 F103 := by
  intro ps r h
  unfold F103 at h
  split at h
  · rename_i s b
    obtain ⟨hc, rfl⟩ := Prod.mk.inj (Option.some.inj h)
    subst hc
    refine ⟨fun w ok args hlt hg hr => ?_, fn103.isFn⟩
    obtain ⟨v0, us0, rfl, h0, hr⟩ := hr.cons_inv
    obtain ⟨v1, us1, rfl, h1, hr⟩ := hr.cons_inv
    obtain ⟨v2, us2, rfl, h2, hr⟩ := hr.cons_inv
    obtain rfl : us2 = [] := List.eq_nil_of_length_eq_zero hr.1
    cases h0
    cases h2
    cases h1 with
    | fn f a c fs cs ha hc h1 h2 =>
      obtain rfl : fs = [] := List.eq_nil_of_length_eq_zero ha
      obtain rfl : cs = [] := List.eq_nil_of_length_eq_zero hc
      have cI := Any.strings_indexFunc_grows lays315 83 #[] (enters_of fn83.at_ fn83.name fn83.body) runeP true s w (grows83 w)
      change Calls Try.prog 103 _ _ _ at cI
      exact cI.mono fun e w' ⟨he, hb⟩ => ⟨_, he, hb, .i _ _⟩
  · simp at h
/-! ### Runes and bytes -/
theorem decode_spec (s : ByteArray) (i : Nat) : ((s.get! i).toNat < 128 → Utf8.decode s i = ((s.get! i).toNat, 1)) ∧ (128 ≤ (s.get! i).toNat → 128 ≤ (Utf8.decode s i).1) := by
  unfold Utf8.decode
  simp only [Nat.add_zero]
  constructor
  · intro h
    rw [if_pos h]
  · intro h
    rw [if_neg (by omega)]
    split
    · split
      · assumption
      · simp [Utf8.runeError]
    · split
      · split
        · rename_i hh
          have : 2048 ≤ _ := (Bool.and_eq_true_iff.1 hh).1 |> of_decide_eq_true
          exact Nat.le_trans (by decide) this
        · simp [Utf8.runeError]
      · split
        · split
          · rename_i hh
            have : 65536 ≤ _ := (Bool.and_eq_true_iff.1 hh).1 |> of_decide_eq_true
            exact Nat.le_trans (by decide) this
          · simp [Utf8.runeError]
        · simp [Utf8.runeError]
theorem runeBad_big {c : Int} (h : 128 ≤ c) : runeBad c = true := by
  unfold runeBad
  rw [decide_eq_false (show ¬ c ≤ 122 by omega), decide_eq_false (show ¬ c ≤ 57 by omega), show (c == 45) = false by simp; omega]
  cases decide (c ≥ 97) <;> cases decide (c ≥ 48) <;> rfl
theorem bytesOf_len (s : ByteArray) : (bytesOf s).length = s.size := by simp [bytesOf]
theorem bytesOf_get (s : ByteArray) (k : Nat) (h : k < (bytesOf s).length) : (bytesOf s)[k] = ((s.get! k).toNat : Int) := by
  have h' : k < s.data.size := by rw [bytesOf_len] at h; exact h
  have e : s.get! k = s.data[k] := by
    exact getElem!_pos s.data k h'
  rw [e]
  simp [bytesOf]
theorem byteAt_get (s : ByteArray) (k : Nat) (h : k < s.size) : byteAt s k = (bytesOf s)[k]'(by rw [bytesOf_len]; exact h) := by
  have h' : k < s.data.size := h
  unfold byteAt
  rw [Int.toNat_natCast]
  have : s[k]? = some s.data[k] := by
    show s.data[k]? = _
    simp [h']
  rw [this]
  simp [bytesOf]
theorem idx_any (s : ByteArray) : ∀ (f pos : Nat), s.size ≤ pos + f → (decide (Lib.idxFuncFrom runeP true s f pos ≥ 0) = ((bytesOf s).drop pos).any runeBad)
  | 0, pos, h => by
    rw [List.drop_of_length_le (by rw [bytesOf_len]; omega)]
    rfl
  | f + 1, pos, h => by
    unfold Lib.idxFuncFrom
    by_cases hp : pos < s.size
    · have hl : pos < (bytesOf s).length := by rw [bytesOf_len]; exact hp
      rw [if_pos hp, List.drop_eq_getElem_cons hl, List.any_cons, bytesOf_get s pos hl]
      obtain ⟨d1, d2⟩ := decode_spec s pos
      rcases Nat.lt_or_ge (s.get! pos).toNat 128 with hb | hb
      · rw [d1 hb]
        show decide ((if runeP (s.get! pos).toNat = true then (pos : Int) else _) ≥ 0) = (runeBad ((s.get! pos).toNat : Int) || _)
        have e : runeP (s.get! pos).toNat = runeBad ((s.get! pos).toNat : Int) := rfl
        rw [e]
        cases runeBad ((s.get! pos).toNat : Int) with
        | true =>
          rw [if_pos rfl]
          exact decide_eq_true (by omega)
        | false =>
          rw [if_neg (by decide), Bool.false_or]
          exact idx_any s f (pos + 1) (by omega)
      · have h1 : runeP (Utf8.decode s pos).1 = true := runeBad_big (by have := d2 hb; omega)
        rw [h1, if_pos rfl, runeBad_big (by omega)]
        exact decide_eq_true (by omega)
    · rw [if_neg hp, List.drop_of_length_le (by rw [bytesOf_len]; omega)]
      rfl
theorem idx_all (s : ByteArray) : decide (Lib.idxFunc runeP true s ≥ 0) = (bytesOf s).any runeBad := by
  have := idx_any s s.size 0 (by omega)
  rw [List.drop_zero] at this
  exact this
def headBad (s : ByteArray) : Bool := bif (bif (!(within (s.size : Int) 1 32)) then true else (decide ((byteAt s 0) < 97))) then true else (decide ((byteAt s 0) > 122))
/-- Is a string a name? -/
def nameS (s : ByteArray) : Bool := !(headBad s) && !((bytesOf s).any runeBad)
theorem within_size {s : ByteArray} (h : within (s.size : Int) 1 32 = true) : 1 ≤ s.size ∧ s.size ≤ 32 := by
  unfold within at h
  by_cases h1 : (1 : Int) ≤ s.size
  · rw [decide_eq_true h1] at h
    have h2 : (s.size : Int) ≤ 32 := of_decide_eq_true h
    omega
  · rw [decide_eq_false h1] at h
    exact Bool.noConfusion (show false = true from h)
theorem head_tree (s : ByteArray) (t : Option R) (ht : headBad s = false → t = an (.b (!((bytesOf s).any runeBad)))) : (match ((inB 0 s.size) || ((!(within (s.size : Int) 1 32)) || false)) with | true => (match ((inB 0 s.size) || ((bif (!(within (s.size : Int) 1 32)) then true else (decide ((byteAt s 0) < 97))) || false)) with | true => (match (bif (bif (!(within (s.size : Int) 1 32)) then true else (decide ((byteAt s 0) < 97))) then true else (decide ((byteAt s 0) > 122))) with | true => an (.b false) | false => t) | false => none) | false => none) = an (.b (nameS s)) := by
  have h1 : ((inB 0 s.size) || ((!(within (s.size : Int) 1 32)) || false)) = true := by
    cases hw : within (s.size : Int) 1 32 with
    | false => simp
    | true => rw [show inB 0 s.size = true from inB_nat (k := 0) (by have := within_size hw; omega)]; rfl
  have h2 : ((inB 0 s.size) || ((bif (!(within (s.size : Int) 1 32)) then true else (decide ((byteAt s 0) < 97))) || false)) = true := by
    cases hw : within (s.size : Int) 1 32 with
    | false => simp
    | true => rw [show inB 0 s.size = true from inB_nat (k := 0) (by have := within_size hw; omega)]; rfl
  rw [h1, h2]
  show (match headBad s with | true => an (.b false) | false => t) = _
  unfold nameS
  cases hb : headBad s with
  | true => rfl
  | false => exact ht hb
theorem headBad_size {s : ByteArray} (h : headBad s = false) : s.size ≤ 32 := by
  cases hw : within (s.size : Int) 1 32 with
  | true => exact (within_size hw).2
  | false =>
    unfold headBad at h
    rw [hw] at h
    exact Bool.noConfusion (show true = false from h)
end Go.Proofs.Ytklgaodfakdjpaa.Ev
/- Summaries of functions, printed by a program out of a list, and what is made of them. -/
namespace Go.Proofs.Ytklgaodfakdjpaa.Ev
open Go Go.RowKit Go.Proofs
theorem fn100 : FnOk 100 Try.f100 := ⟨by kernel_rfl, by kernel_rfl, by kernel_rfl, by kernel_rfl⟩
theorem e100 (gl : Gl) (s : ByteArray) : evFn (cx gl (mkG [(103, F103)]) [] []) noK noL Try.f100 [.s s, .fn (.func 83) [] []] noObjs = (match true with | true => an (.i .i64 (Lib.idxFunc runeP true s)) | false => none) := by kernel_rfl
def F100 : List PV → Option (Bool × PV)
  | [.s s, .fn (.func 83) [] []] => some (true, .i .i64 (Lib.idxFunc runeP true s))
  | _ => none
theorem s100 {gl : Gl} : Sum gl 100 F100 := by
  intro ps r h
  unfold F100 at h
  split at h
  · rename_i s
    obtain ⟨hc, rfl⟩ := Prod.mk.inj (Option.some.inj h)
    refine call_by (K := noK) (L := noL) (bxs := []) (ows := []) (GOk.cons s103 (GOk.nil)) fn100 (noLoops (by kernel_rfl)) (by kernel_rfl) (evF_some ((e100 gl s).trans ?_))
    rfl
  · simp at h
theorem fn82 : FnOk 82 Try.f82 := ⟨by kernel_rfl, by kernel_rfl, by kernel_rfl, by kernel_rfl⟩
theorem e82 (gl : Gl) (s : ByteArray) : evFn (cx gl (mkG [(100, F100)]) [] []) noK noL Try.f82 [.s s, .fn (.func 83) [] []] noObjs = an (.b (decide ((Lib.idxFunc runeP true s) ≥ 0))) := by kernel_rfl
def F82 : List PV → Option (Bool × PV)
  | [.s s, .fn (.func 83) [] []] => some (true, .b (List.any (bytesOf s) runeBad))
  | _ => none
theorem s82 {gl : Gl} : Sum gl 82 F82 := by
  intro ps r h
  unfold F82 at h
  split at h
  · rename_i s
    obtain ⟨hc, rfl⟩ := Prod.mk.inj (Option.some.inj h)
    refine call_by (K := noK) (L := noL) (bxs := []) (ows := []) (GOk.cons s100 (GOk.nil)) fn82 (noLoops (by kernel_rfl)) (by kernel_rfl) (evF_some ((e82 gl s).trans ?_))
    rw [← idx_all]
    rfl
  · simp at h
theorem fn69 : FnOk 69 Try.f69 := ⟨by kernel_rfl, by kernel_rfl, by kernel_rfl, by kernel_rfl⟩
theorem e69 (gl : Gl) (s : ByteArray) : evFn (cx gl (mkG [(68, F68), (82, F82)]) [] []) noK noL Try.f69 [.s s] noObjs = (match ((inB 0 s.size) || ((!(v68 (s.size : Int) 1 32)) || false)) with | true => (match ((inB 0 s.size) || ((bif (!(v68 (s.size : Int) 1 32)) then true else (decide ((byteAt s 0) < 97))) || false)) with | true => (match (bif (bif (!(v68 (s.size : Int) 1 32)) then true else (decide ((byteAt s 0) < 97))) then true else (decide ((byteAt s 0) > 122))) with | true => an (.b false) | false => an (.b (!(List.any (bytesOf s) runeBad)))) | false => none) | false => none) := by kernel_rfl
def F69 : List PV → Option (Bool × PV)
  | [.s s] => some (true, .b (nameS s))
  | _ => none
theorem s69 {gl : Gl} : Sum gl 69 F69 := by
  intro ps r h
  unfold F69 at h
  split at h
  · rename_i s
    obtain ⟨hc, rfl⟩ := Prod.mk.inj (Option.some.inj h)
    refine call_by (K := noK) (L := noL) (bxs := []) (ows := []) (GOk.cons s68 (GOk.cons s82 (GOk.nil))) fn69 (noLoops (by kernel_rfl)) (by kernel_rfl) (evF_some ((e69 gl s).trans ?_))
    exact head_tree s _ fun h => rfl
  · simp at h
structure S56_4 where
  s : ByteArray
  t2 : Bool
  i : Int
def S56_4.enc (s : S56_4) : List PV := [.s s.s, .b s.t2, .i .i64 s.i]
def S56_4.encH (s : S56_4) : Heap := []
def dec56_4 : List PV → Heap → Option S56_4
  | [.s s_, .b t2_, .i .i64 i_], [] => some ⟨s_, t2_, i_⟩
  | _, _ => none
theorem dec_enc56_4 (vs : List PV) (hs : Heap) (s : S56_4) (h : dec56_4 vs hs = some s) : vs = s.enc ∧ hs = s.encH := by
  unfold dec56_4 at h
  split at h
  · obtain rfl := Option.some.inj h
    exact ⟨rfl, rfl⟩
  · simp at h
def st56_4 {ρ : Type} (s : S56_4) (next : S56_4 → Option ρ) (out : S56_4 × Bool → Option ρ) : Option ρ := (match (decide (s.i < (s.s.size : Int))) with | true => (match (inB s.i s.s.size) with | true => (match ((inB s.i s.s.size) || ((!(decide ((byteAt s.s s.i) ≥ 97))) || false)) with | true => (match (inB s.i s.s.size) with | true => (match ((inB s.i s.s.size) || ((!(decide ((byteAt s.s s.i) ≥ 48))) || false)) with | true => (match ((inB s.i s.s.size) || ((!(bif (!(bif (decide ((byteAt s.s s.i) ≥ 97)) then (decide ((byteAt s.s s.i) ≤ 122)) else false)) then (!(bif (decide ((byteAt s.s s.i) ≥ 48)) then (decide ((byteAt s.s s.i) ≤ 57)) else false)) else false)) || false)) with | true => (match (bif (bif (!(bif (decide ((byteAt s.s s.i) ≥ 97)) then (decide ((byteAt s.s s.i) ≤ 122)) else false)) then (!(bif (decide ((byteAt s.s s.i) ≥ 48)) then (decide ((byteAt s.s s.i) ≤ 57)) else false)) else false) then ((byteAt s.s s.i) != 45) else false) with | true => out (⟨s.s, false, s.i⟩, true) | false => next ⟨s.s, s.t2, (wr (s.i + 1))⟩) | false => none) | false => none) | false => none) | false => none) | false => none) | false => out (s, false))
def out56_4 (k : Ex → List PV → Heap → Option R) (o : S56_4 × Bool) : Option R := match o.2 with
  | true => k .ret o.1.enc o.1.encH
  | false => k (.exit 0) o.1.enc o.1.encH
def fuel56_4 (s : S56_4) : Nat := s.s.size + 1
def K56 : Keep := fun _ => ([0, 2, 3], [])
def L56 : Lam := loopL dec56_4 st56_4 fuel56_4 out56_4
noncomputable def b56_4 : Code := (loopsOf (bodyOf Try.f56)).getD 0 .skip
theorem step56_4 (gl : Gl) (j : Nat) (s : S56_4) (k : Ex → List PV → Heap → Option R) : unroll (cx gl (mkG [(30, F30)]) [] []) K56 L56 Try.f56.ntmps (Try.f56.ntmps + 16) b56_4 (j + 1) s.enc s.encH k = st56_4 s (fun s' => unroll (cx gl (mkG [(30, F30)]) [] []) K56 L56 Try.f56.ntmps (Try.f56.ntmps + 16) b56_4 j s'.enc s'.encH k) (out56_4 k) := by kernel_rfl
theorem l56 (gl : Gl) : LoopsOk (cx gl (mkG [(30, F30)]) [] []) K56 L56 Try.f56.ntmps (Try.f56.ntmps + 16) (loopsOf (bodyOf Try.f56)) := by
  refine loopsOk_list (l := [b56_4]) (by kernel_rfl) ?_
  exact List.forall_mem_cons.2 ⟨loopOk1 (fuel := fuel56_4) (enc := S56_4.enc) (encH := S56_4.encH) (fun vs hs k => by kernel_rfl) dec_enc56_4 (step56_4 gl ), (fun _ h => by simp at h)⟩
theorem In_eq (n a b : Int) : In n a b = within n a b := rfl
theorem Time_eq (n : Int) : Time n = within n 0 1073741824 := rfl
theorem Place_eq (p : Spot) : Place p = placed p := rfl
theorem turn_eq (a b c : Spot) : turnR a b c = turnV a b c := rfl
theorem loop56 (s : ByteArray) (hs : s.size ≤ 32) : (iter st56_4 (fuel56_4 (⟨s, false, 0⟩ : S56_4)) (⟨s, false, 0⟩ : S56_4) fun o4 => (match o4.2 with | true => an (.b o4.1.t2) | false => an (.b true))) = an (.b (!((bytesOf s).any runeBad))) := by
  refine (iter_all (step := st56_4) (F := fun k => ⟨s, false, (k : Int)⟩) (stop := fun k => bif runeBad (byteAt s k) then some (⟨s, false, (k : Int)⟩, true) else none) (last := (⟨s, false, (s.size : Int)⟩, false)) s.size _ (fun k next hk => ?_) (fun next => ?_) _ (Nat.le_refl _) _ rfl).trans ?_
  · simp only [st56_4, decLt_nat hk, inB_nat hk, Bool.true_or, wr_succ (show k ≤ 1000000 by omega)]
    unfold runeBad
    generalize byteAt s k = c
    by_cases h1 : c ≥ 97 <;> by_cases h2 : c ≤ 122 <;> by_cases h3 : c ≥ 48 <;> by_cases h4 : c ≤ 57 <;> cases h5 : c == 45 <;> simp [h1, h2, h3, h4, h5, bne]
  · simp only [st56_4, decLt_self]
  · have hl : (bytesOf s).length = s.size := bytesOf_len s
    rw [← hl, runTo_find runeBad (fun k => ((⟨s, false, (k : Int)⟩ : S56_4), true)) _ _ (bytesOf s) (fun k hk => by rw [byteAt_get s k (by rw [← hl]; exact hk)]) (bytesOf s).length 0 (by omega), List.drop_zero]
    have hf := find_any runeBad (bytesOf s) false true
    cases h : (bytesOf s).findIdx? runeBad with
    | none => rw [h] at hf; cases ha : (bytesOf s).any runeBad <;> rw [ha] at hf <;> first | rfl | (simp at hf)
    | some k => rw [h] at hf; cases ha : (bytesOf s).any runeBad <;> rw [ha] at hf <;> first | rfl | (simp at hf)
theorem fn56 : FnOk 56 Try.f56 := ⟨by kernel_rfl, by kernel_rfl, by kernel_rfl, by kernel_rfl⟩
theorem e56 (gl : Gl) (s : ByteArray) : evFn (cx gl (mkG [(30, F30)]) [] []) K56 L56 Try.f56 [.s s] noObjs = (match ((inB 0 s.size) || ((!(In (s.size : Int) 1 32)) || false)) with | true => (match ((inB 0 s.size) || ((bif (!(In (s.size : Int) 1 32)) then true else (decide ((byteAt s 0) < 97))) || false)) with | true => (match (bif (bif (!(In (s.size : Int) 1 32)) then true else (decide ((byteAt s 0) < 97))) then true else (decide ((byteAt s 0) > 122))) with | true => an (.b false) | false => (iter st56_4 (fuel56_4 (⟨s, false, 0⟩ : S56_4)) (⟨s, false, 0⟩ : S56_4) fun o4 => (match o4.2 with | true => an (.b o4.1.t2) | false => an (.b true)))) | false => none) | false => none) := by kernel_rfl
def F56 : List PV → Option (Bool × PV)
  | [.s s] => some (true, .b (nameS s))
  | _ => none
theorem s56 {gl : Gl} : Sum gl 56 F56 := by
  intro ps r h
  unfold F56 at h
  split at h
  · rename_i s
    obtain ⟨hc, rfl⟩ := Prod.mk.inj (Option.some.inj h)
    refine call_by (K := K56) (L := L56) (bxs := []) (ows := []) (GOk.cons s30 (GOk.nil)) fn56 (l56 gl) (by kernel_rfl) (evF_some ((e56 gl s).trans ?_))
    exact head_tree s _ fun h => loop56 s (headBad_size h)
  · simp at h
structure S101a_2 where
  xs : List Spot
  r : Int
  n : Int
  i : Int
def S101a_2.enc (s : S101a_2) : List PV := [.sl .spot s.xs, .fn (.func 85) [] [], .i .i64 s.r, .i .i64 s.n, .i .i64 s.i]
def S101a_2.encH (s : S101a_2) : Heap := []
def dec101a_2 : List PV → Heap → Option S101a_2
  | [.sl .spot xs_, .fn (.func 85) [] [], .i .i64 r_, .i .i64 n_, .i .i64 i_], [] => some ⟨xs_, r_, n_, i_⟩
  | _, _ => none
theorem dec_enc101a_2 (vs : List PV) (hs : Heap) (s : S101a_2) (h : dec101a_2 vs hs = some s) : vs = s.enc ∧ hs = s.encH := by
  unfold dec101a_2 at h
  split at h
  · obtain rfl := Option.some.inj h
    exact ⟨rfl, rfl⟩
  · simp at h
def st101a_2 {ρ : Type} (s : S101a_2) (next : S101a_2 → Option ρ) (out : S101a_2 × Bool → Option ρ) : Option ρ := (match (decide (s.i < s.n)) with | true => (match (inB s.i s.xs.length) with | true => (match (!(placed (atD .spot s.xs s.i))) with | true => out (⟨s.xs, s.i, s.n, s.i⟩, true) | false => next ⟨s.xs, s.r, s.n, (wr (s.i + 1))⟩) | false => none) | false => out (s, false))
def out101a_2 (k : Ex → List PV → Heap → Option R) (o : S101a_2 × Bool) : Option R := match o.2 with
  | true => k .ret o.1.enc o.1.encH
  | false => k (.exit 0) o.1.enc o.1.encH
def fuel101a_2 (s : S101a_2) : Nat := s.xs.length + 1
def K101a : Keep := fun _ => ([0, 1, 4, 7, 8], [])
def L101a : Lam := loopL dec101a_2 st101a_2 fuel101a_2 out101a_2
noncomputable def b101a_2 : Code := (loopsOf (bodyOf Try.f101)).getD 0 .skip
theorem step101a_2 (gl : Gl) (j : Nat) (s : S101a_2) (k : Ex → List PV → Heap → Option R) : unroll (cx gl (mkG [(85, F85)]) [] []) K101a L101a Try.f101.ntmps (Try.f101.ntmps + 16) b101a_2 (j + 1) s.enc s.encH k = st101a_2 s (fun s' => unroll (cx gl (mkG [(85, F85)]) [] []) K101a L101a Try.f101.ntmps (Try.f101.ntmps + 16) b101a_2 j s'.enc s'.encH k) (out101a_2 k) := by kernel_rfl
theorem l101a (gl : Gl) : LoopsOk (cx gl (mkG [(85, F85)]) [] []) K101a L101a Try.f101.ntmps (Try.f101.ntmps + 16) (loopsOf (bodyOf Try.f101)) := by
  refine loopsOk_list (l := [b101a_2]) (by kernel_rfl) ?_
  exact List.forall_mem_cons.2 ⟨loopOk1 (fuel := fuel101a_2) (enc := S101a_2.enc) (encH := S101a_2.encH) (fun vs hs k => by kernel_rfl) dec_enc101a_2 (step101a_2 gl ), (fun _ h => by simp at h)⟩
theorem fn101 : FnOk 101 Try.f101 := ⟨by kernel_rfl, by kernel_rfl, by kernel_rfl, by kernel_rfl⟩
theorem e101a (gl : Gl) (xs : List Spot) : evFn (cx gl (mkG [(85, F85)]) [] []) K101a L101a Try.f101 [.sl .spot xs, .fn (.func 85) [] []] noObjs = (iter st101a_2 (fuel101a_2 (⟨xs, 0, (xs.length : Int), 0⟩ : S101a_2)) (⟨xs, 0, (xs.length : Int), 0⟩ : S101a_2) fun o2 => (match o2.2 with | true => an (.i .i64 o2.1.r) | false => an (.i .i64 (-1)))) := by kernel_rfl
def F101a : List PV → Option (Bool × PV)
  | [.sl .spot xs, .fn (.func 85) [] []] => some ((decide (xs.length ≤ 1000000)), .i .i64 (idxI (fun x => !(placed x)) xs))
  | _ => none
theorem s101a {gl : Gl} : Sum gl 101 F101a := by
  intro ps r h
  unfold F101a at h
  split at h
  · rename_i xs
    obtain ⟨hc, rfl⟩ := Prod.mk.inj (Option.some.inj h)
    refine call_by (K := K101a) (L := L101a) (bxs := []) (ows := []) (GOk.cons s85 (GOk.nil)) fn101 (l101a gl) (by kernel_rfl) (evF_some ((e101a gl xs).trans ?_))
    have hx := of_decide_eq_true hc
    refine (iter_all (step := st101a_2) (F := fun k => ⟨xs, 0, xs.length, (k : Int)⟩) (stop := fun k => bif !(placed (atN .spot xs k)) then some (⟨xs, (k : Int), xs.length, (k : Int)⟩, true) else none) (last := (⟨xs, 0, xs.length, (xs.length : Int)⟩, false)) xs.length _ (fun k next hk => ?_) (fun next => ?_) _ (Nat.le_refl _) _ rfl).trans ?_
    · simp only [st101a_2, decLt_nat hk, inB_nat hk, wr_succ (show k ≤ 1000000 by omega), atD, Int.toNat_natCast]
      generalize (!(placed (atN .spot xs k))) = b_
      cases b_ <;> rfl
    · simp only [st101a_2, decLt_self]
    · rw [runTo_find (fun x => !(placed x)) (fun k => (⟨xs, (k : Int), xs.length, (k : Int)⟩, true)) _ _ xs (fun k hk => by rw [atN_nat hk]) xs.length 0 (by omega), List.drop_zero]
      unfold idxI
      cases xs.findIdx? (fun x => !(placed x)) with
      | none => rfl
      | some k => simp only [Nat.zero_add]; rfl
  · simp at h
theorem fn84 : FnOk 84 Try.f84 := ⟨by kernel_rfl, by kernel_rfl, by kernel_rfl, by kernel_rfl⟩
theorem e84a (gl : Gl) (xs : List Spot) : evFn (cx gl (mkG [(101, F101a)]) [] []) noK noL Try.f84 [.sl .spot xs, .fn (.func 85) [] []] noObjs = (match (decide (xs.length ≤ 1000000)) with | true => an (.b (decide ((idxI (fun x => !(placed x)) xs) ≥ 0))) | false => none) := by kernel_rfl
def F84a : List PV → Option (Bool × PV)
  | [.sl .spot xs, .fn (.func 85) [] []] => some ((decide (xs.length ≤ 1000000)), .b (List.any xs (fun x => !(placed x))))
  | _ => none
theorem s84a {gl : Gl} : Sum gl 84 F84a := by
  intro ps r h
  unfold F84a at h
  split at h
  · rename_i xs
    obtain ⟨hc, rfl⟩ := Prod.mk.inj (Option.some.inj h)
    refine call_by (K := noK) (L := noL) (bxs := []) (ows := []) (GOk.cons s101a (GOk.nil)) fn84 (noLoops (by kernel_rfl)) (by kernel_rfl) (evF_some ((e84a gl xs).trans ?_))
    rw [hc]
    show an (.b (decide (idxI _ xs ≥ 0))) = _
    rw [idxI_any]
    rfl
  · simp at h
structure S101b_2 where
  xs : List Spot
  f : Int
  f2 : Int
  f3 : Int
  f4 : Int
  r : Int
  n : Int
  i : Int
def S101b_2.enc (s : S101b_2) : List PV := [.sl .spot s.xs, .fn (.func 88) [] [.ptr [.i .i64 s.f, .i .i64 s.f2] 0, .ptr [.i .i64 s.f3, .i .i64 s.f4] 0], .i .i64 s.r, .i .i64 s.n, .i .i64 s.i]
def S101b_2.encH (s : S101b_2) : Heap := []
def dec101b_2 : List PV → Heap → Option S101b_2
  | [.sl .spot xs_, .fn (.func 88) [] [.ptr [.i .i64 f_, .i .i64 f2_] 0, .ptr [.i .i64 f3_, .i .i64 f4_] 0], .i .i64 r_, .i .i64 n_, .i .i64 i_], [] => some ⟨xs_, f_, f2_, f3_, f4_, r_, n_, i_⟩
  | _, _ => none
theorem dec_enc101b_2 (vs : List PV) (hs : Heap) (s : S101b_2) (h : dec101b_2 vs hs = some s) : vs = s.enc ∧ hs = s.encH := by
  unfold dec101b_2 at h
  split at h
  · obtain rfl := Option.some.inj h
    exact ⟨rfl, rfl⟩
  · simp at h
def st101b_2 {ρ : Type} (s : S101b_2) (next : S101b_2 → Option ρ) (out : S101b_2 × Bool → Option ρ) : Option ρ := (match (decide (s.i < s.n)) with | true => (match (inB s.i s.xs.length) with | true => (match (turnNeg (atD .spot s.xs s.i) (⟨s.f, s.f2⟩ : Spot) (⟨s.f3, s.f4⟩ : Spot)) with | true => out (⟨s.xs, s.f, s.f2, s.f3, s.f4, s.i, s.n, s.i⟩, true) | false => next ⟨s.xs, s.f, s.f2, s.f3, s.f4, s.r, s.n, (wr (s.i + 1))⟩) | false => none) | false => out (s, false))
def out101b_2 (k : Ex → List PV → Heap → Option R) (o : S101b_2 × Bool) : Option R := match o.2 with
  | true => k .ret o.1.enc o.1.encH
  | false => k (.exit 0) o.1.enc o.1.encH
def fuel101b_2 (s : S101b_2) : Nat := s.xs.length + 1
def K101b : Keep := fun _ => ([0, 1, 4, 7, 8], [])
def L101b : Lam := loopL dec101b_2 st101b_2 fuel101b_2 out101b_2
noncomputable def b101b_2 : Code := (loopsOf (bodyOf Try.f101)).getD 0 .skip
theorem step101b_2 (gl : Gl) (j : Nat) (s : S101b_2) (k : Ex → List PV → Heap → Option R) : unroll (cx gl (mkG [(88, F88)]) [] []) K101b L101b Try.f101.ntmps (Try.f101.ntmps + 16) b101b_2 (j + 1) s.enc s.encH k = st101b_2 s (fun s' => unroll (cx gl (mkG [(88, F88)]) [] []) K101b L101b Try.f101.ntmps (Try.f101.ntmps + 16) b101b_2 j s'.enc s'.encH k) (out101b_2 k) := by kernel_rfl
theorem l101b (gl : Gl) : LoopsOk (cx gl (mkG [(88, F88)]) [] []) K101b L101b Try.f101.ntmps (Try.f101.ntmps + 16) (loopsOf (bodyOf Try.f101)) := by
  refine loopsOk_list (l := [b101b_2]) (by kernel_rfl) ?_
  exact List.forall_mem_cons.2 ⟨loopOk1 (fuel := fuel101b_2) (enc := S101b_2.enc) (encH := S101b_2.encH) (fun vs hs k => by kernel_rfl) dec_enc101b_2 (step101b_2 gl ), (fun _ h => by simp at h)⟩
theorem e101b (gl : Gl) (xs : List Spot) (a : Spot) (b : Spot) : evFn (cx gl (mkG [(88, F88)]) [] []) K101b L101b Try.f101 [.sl .spot xs, .fn (.func 88) [] [.ptr [.i .i64 a.x, .i .i64 a.y] 0, .ptr [.i .i64 b.x, .i .i64 b.y] 0]] noObjs = (iter st101b_2 (fuel101b_2 (⟨xs, a.x, a.y, b.x, b.y, 0, (xs.length : Int), 0⟩ : S101b_2)) (⟨xs, a.x, a.y, b.x, b.y, 0, (xs.length : Int), 0⟩ : S101b_2) fun o2 => (match o2.2 with | true => an (.i .i64 o2.1.r) | false => an (.i .i64 (-1)))) := by kernel_rfl
def F101b : List PV → Option (Bool × PV)
  | [.sl .spot xs, .fn (.func 88) [] [.ptr [.i .i64 a0, .i .i64 a1] 0, .ptr [.i .i64 b0, .i .i64 b1] 0]] => some ((decide (xs.length ≤ 1000000)), .i .i64 (idxI (fun x => turnNeg x (⟨a0, a1⟩ : Spot) (⟨b0, b1⟩ : Spot)) xs))
  | _ => none
theorem s101b {gl : Gl} : Sum gl 101 F101b := by
  intro ps r h
  unfold F101b at h
  split at h
  · rename_i xs a0 a1 b0 b1
    obtain ⟨hc, rfl⟩ := Prod.mk.inj (Option.some.inj h)
    refine call_by (K := K101b) (L := L101b) (bxs := []) (ows := []) (GOk.cons s88 (GOk.nil)) fn101 (l101b gl) (by kernel_rfl) (evF_some ((e101b gl xs ⟨a0, a1⟩ ⟨b0, b1⟩).trans ?_))
    have hx := of_decide_eq_true hc
    refine (iter_all (step := st101b_2) (F := fun k => ⟨xs, a0, a1, b0, b1, 0, xs.length, (k : Int)⟩) (stop := fun k => bif turnNeg (atN .spot xs k) (⟨a0, a1⟩ : Spot) (⟨b0, b1⟩ : Spot) then some (⟨xs, a0, a1, b0, b1, (k : Int), xs.length, (k : Int)⟩, true) else none) (last := (⟨xs, a0, a1, b0, b1, 0, xs.length, (xs.length : Int)⟩, false)) xs.length _ (fun k next hk => ?_) (fun next => ?_) _ (Nat.le_refl _) _ rfl).trans ?_
    · simp only [st101b_2, decLt_nat hk, inB_nat hk, wr_succ (show k ≤ 1000000 by omega), atD, Int.toNat_natCast]
      generalize (turnNeg (atN .spot xs k) (⟨a0, a1⟩ : Spot) (⟨b0, b1⟩ : Spot)) = b_
      cases b_ <;> rfl
    · simp only [st101b_2, decLt_self]
    · rw [runTo_find (fun x => turnNeg x (⟨a0, a1⟩ : Spot) (⟨b0, b1⟩ : Spot)) (fun k => (⟨xs, a0, a1, b0, b1, (k : Int), xs.length, (k : Int)⟩, true)) _ _ xs (fun k hk => by rw [atN_nat hk]) xs.length 0 (by omega), List.drop_zero]
      unfold idxI
      cases xs.findIdx? (fun x => turnNeg x (⟨a0, a1⟩ : Spot) (⟨b0, b1⟩ : Spot)) with
      | none => rfl
      | some k => simp only [Nat.zero_add]; rfl
  · simp at h
theorem e84b (gl : Gl) (xs : List Spot) (a : Spot) (b : Spot) : evFn (cx gl (mkG [(101, F101b)]) [] []) noK noL Try.f84 [.sl .spot xs, .fn (.func 88) [] [.ptr [.i .i64 a.x, .i .i64 a.y] 0, .ptr [.i .i64 b.x, .i .i64 b.y] 0]] noObjs = (match (decide (xs.length ≤ 1000000)) with | true => an (.b (decide ((idxI (fun x => turnNeg x a b) xs) ≥ 0))) | false => none) := by kernel_rfl
def F84b : List PV → Option (Bool × PV)
  | [.sl .spot xs, .fn (.func 88) [] [.ptr [.i .i64 a0, .i .i64 a1] 0, .ptr [.i .i64 b0, .i .i64 b1] 0]] => some ((decide (xs.length ≤ 1000000)), .b (List.any xs (fun x => turnNeg x (⟨a0, a1⟩ : Spot) (⟨b0, b1⟩ : Spot))))
  | _ => none
theorem s84b {gl : Gl} : Sum gl 84 F84b := by
  intro ps r h
  unfold F84b at h
  split at h
  · rename_i xs a0 a1 b0 b1
    obtain ⟨hc, rfl⟩ := Prod.mk.inj (Option.some.inj h)
    refine call_by (K := noK) (L := noL) (bxs := []) (ows := []) (GOk.cons s101b (GOk.nil)) fn84 (noLoops (by kernel_rfl)) (by kernel_rfl) (evF_some ((e84b gl xs ⟨a0, a1⟩ ⟨b0, b1⟩).trans ?_))
    rw [hc]
    show an (.b (decide (idxI _ xs ≥ 0))) = _
    rw [idxI_any]
    rfl
  · simp at h
def F84J : List PV → Option (Bool × PV) := orF F84a (F84b)
theorem s84J {gl : Gl} : Sum gl 84 F84J := Sum.or s84a (s84b)
structure S70_7 where
  l : List Spot
  t2 : Bool
  n : Int
  l2 : List Spot
  m : Int
  i : Int
def S70_7.enc (s : S70_7) : List PV := [.sl .spot s.l, .b s.t2, .i .i64 s.n, .sl .spot s.l2, .i .i64 s.m, .i .i64 s.i]
def S70_7.encH (s : S70_7) : Heap := []
def dec70_7 : List PV → Heap → Option S70_7
  | [.sl .spot l_, .b t2_, .i .i64 n_, .sl .spot l2_, .i .i64 m_, .i .i64 i_], [] => some ⟨l_, t2_, n_, l2_, m_, i_⟩
  | _, _ => none
theorem dec_enc70_7 (vs : List PV) (hs : Heap) (s : S70_7) (h : dec70_7 vs hs = some s) : vs = s.enc ∧ hs = s.encH := by
  unfold dec70_7 at h
  split at h
  · obtain rfl := Option.some.inj h
    exact ⟨rfl, rfl⟩
  · simp at h
def st70_7 {ρ : Type} (s : S70_7) (next : S70_7 → Option ρ) (out : S70_7 × Bool → Option ρ) : Option ρ := (match (decide (s.i < s.m)) with | true => (match (inB s.i s.l2.length) with | true => (match (!(s.n == 0)) with | true => (match (inB (Int.tmod (wr (s.i + 1)) s.n) s.l.length) with | true => (match (!(s.n == 0)) with | true => (match (inB (Int.tmod (wr (s.i + 2)) s.n) s.l.length) with | true => (match ((decide (s.l.length ≤ 1000000)) || ((decide ((turnV (atD .spot s.l2 s.i) (atD .spot s.l (Int.tmod (wr (s.i + 1)) s.n)) (atD .spot s.l (Int.tmod (wr (s.i + 2)) s.n))) ≤ 0)) || false)) with | true => (match (bif (decide ((turnV (atD .spot s.l2 s.i) (atD .spot s.l (Int.tmod (wr (s.i + 1)) s.n)) (atD .spot s.l (Int.tmod (wr (s.i + 2)) s.n))) ≤ 0)) then true else (List.any s.l (fun x => turnNeg x (atD .spot s.l2 s.i) (atD .spot s.l (Int.tmod (wr (s.i + 1)) s.n))))) with | true => out (⟨s.l, false, s.n, s.l2, s.m, s.i⟩, true) | false => next ⟨s.l, s.t2, s.n, s.l2, s.m, (wr (s.i + 1))⟩) | false => none) | false => none) | false => none) | false => none) | false => none) | false => none) | false => out (s, false))
def out70_7 (k : Ex → List PV → Heap → Option R) (o : S70_7 × Bool) : Option R := match o.2 with
  | true => k .ret o.1.enc o.1.encH
  | false => k (.exit 0) o.1.enc o.1.encH
def fuel70_7 (s : S70_7) : Nat := s.l.length + 1
def K70 : Keep := fun _ => ([0, 2, 3, 29, 30, 31], [])
def L70 : Lam := loopL dec70_7 st70_7 fuel70_7 out70_7
noncomputable def b70_7 : Code := (loopsOf (bodyOf Try.f70)).getD 0 .skip
theorem step70_7 (gl : Gl) (j : Nat) (s : S70_7) (k : Ex → List PV → Heap → Option R) : unroll (cx gl (mkG [(87, F87), (84, F84J), (68, F68)]) [] []) K70 L70 Try.f70.ntmps (Try.f70.ntmps + 16) b70_7 (j + 1) s.enc s.encH k = st70_7 s (fun s' => unroll (cx gl (mkG [(87, F87), (84, F84J), (68, F68)]) [] []) K70 L70 Try.f70.ntmps (Try.f70.ntmps + 16) b70_7 j s'.enc s'.encH k) (out70_7 k) := by kernel_rfl
theorem l70 (gl : Gl) : LoopsOk (cx gl (mkG [(87, F87), (84, F84J), (68, F68)]) [] []) K70 L70 Try.f70.ntmps (Try.f70.ntmps + 16) (loopsOf (bodyOf Try.f70)) := by
  refine loopsOk_list (l := [b70_7]) (by kernel_rfl) ?_
  exact List.forall_mem_cons.2 ⟨loopOk1 (fuel := fuel70_7) (enc := S70_7.enc) (encH := S70_7.encH) (fun vs hs k => by kernel_rfl) dec_enc70_7 (step70_7 gl ), (fun _ h => by simp at h)⟩
/-- A corner at which an area is not one. -/
def edgeBad (l : List Spot) (k : Nat) : Bool := bif (decide ((turnV (atN .spot l k) (atN .spot l ((k + 1) % l.length)) (atN .spot l ((k + 2) % l.length))) ≤ 0)) then true else (List.any l (fun x => turnNeg x (atN .spot l k) (atN .spot l ((k + 1) % l.length))))
def areaS (l : List Spot) : Bool := bif (bif (!(within (l.length : Int) 1 12)) then true else (List.any l (fun x => !(placed x)))) then false else bif (decide ((l.length : Int) < 3)) then (bif ((l.length : Int) == 1) then true else (!((((atD .spot l 0).x) == ((atD .spot l 1).x)) && ((((atD .spot l 0).y) == ((atD .spot l 1).y)) && true)))) else !((List.range' 0 l.length).any (edgeBad l))
theorem tmod_mod {k n : Nat} (hn : 0 < n) : Int.tmod ((k : Nat) : Int) (n : Int) = ((k % n : Nat) : Int) := by
  rw [Int.tmod_eq_emod_of_nonneg (by omega)]
  rfl
theorem len_ok {l : List Spot} (h : within (l.length : Int) 1 12 = true) : 1 ≤ l.length ∧ l.length ≤ 12 := by
  unfold within at h
  rw [bif_f, Bool.and_eq_true, decide_eq_true_eq, decide_eq_true_eq] at h
  omega
theorem loop70 (l : List Spot) (h3 : 3 ≤ l.length) (hx : l.length ≤ 12) : (iter st70_7 (fuel70_7 (⟨l, false, (l.length : Int), l, (l.length : Int), 0⟩ : S70_7)) (⟨l, false, (l.length : Int), l, (l.length : Int), 0⟩ : S70_7) fun o7 => (match o7.2 with | true => an (.b o7.1.t2) | false => an (.b true))) = an (.b (!((List.range' 0 l.length).any (edgeBad l)))) := by
  refine (iter_all (step := st70_7) (F := fun k => (⟨l, false, (l.length : Int), l, (l.length : Int), (k : Int)⟩ : S70_7)) (stop := fun k => bif edgeBad l k then some ((⟨l, false, (l.length : Int), l, (l.length : Int), (k : Int)⟩ : S70_7), true) else none) (last := ((⟨l, false, (l.length : Int), l, (l.length : Int), (l.length : Int)⟩ : S70_7), false)) l.length _ (fun k next hk => ?_) (fun next => ?_) _ (Nat.le_refl _) _ rfl).trans ?_
  · have e0 : (!((l.length : Int) == 0)) = true := by
      have : ((l.length : Int) == 0) = false := by rw [beq_eq_false_iff_ne]; omega
      rw [this]; rfl
    have e1 : Int.tmod ((k + 1 : Nat) : Int) (l.length : Int) = (((k + 1) % l.length : Nat) : Int) := tmod_mod (by omega)
    have e2 : Int.tmod (wr ((k : Int) + 2)) (l.length : Int) = (((k + 2) % l.length : Nat) : Int) := by
      rw [show wr ((k : Int) + 2) = ((k + 2 : Nat) : Int) from by rw [wr_id (by omega) (by omega)]; rfl]
      exact tmod_mod (by omega)
    have b1 : inB (((k + 1) % l.length : Nat) : Int) l.length = true := inB_nat (Nat.mod_lt _ (by omega))
    have b2 : inB (((k + 2) % l.length : Nat) : Int) l.length = true := inB_nat (Nat.mod_lt _ (by omega))
    have b3 : decide (l.length ≤ 1000000) = true := decide_eq_true (by omega)
    simp only [st70_7, decLt_nat hk, inB_nat hk, e0, e1, e2, b1, b2, b3, wr_succ (show k ≤ 1000000 by omega), atD, Int.toNat_natCast, Bool.true_or]
    show (match edgeBad l k with | true => _ | false => _) = _
    generalize edgeBad l k = b_
    cases b_ <;> rfl
  · simp only [st70_7, decLt_self]
  · refine (runTo_any (fun o7 : S70_7 × Bool => (match o7.2 with | true => an (.b o7.1.t2) | false => an (.b true))) (edgeBad l) (fun k => ((⟨l, false, (l.length : Int), l, (l.length : Int), (k : Int)⟩ : S70_7), true)) (an (.b false)) (fun k => rfl) (stop := fun k => bif edgeBad l k then some ((⟨l, false, (l.length : Int), l, (l.length : Int), (k : Int)⟩ : S70_7), true) else none) l.length 0 (fun j _ _ => rfl)).trans ?_
    cases (List.range' 0 l.length).any (edgeBad l) <;> rfl
theorem fn70 : FnOk 70 Try.f70 := ⟨by kernel_rfl, by kernel_rfl, by kernel_rfl, by kernel_rfl⟩
theorem e70 (gl : Gl) (l : List Spot) : evFn (cx gl (mkG [(87, F87), (84, F84J), (68, F68)]) [] []) K70 L70 Try.f70 [.sl .spot l] noObjs = (match ((decide (l.length ≤ 1000000)) || ((!(v68 (l.length : Int) 1 12)) || false)) with | true => (match (bif (!(v68 (l.length : Int) 1 12)) then true else (List.any l (fun x => !(placed x)))) with | true => an (.b false) | false => (match (decide ((l.length : Int) < 3)) with | true => (match ((inB 0 l.length) || (((l.length : Int) == 1) || false)) with | true => (match ((inB 1 l.length) || (((l.length : Int) == 1) || false)) with | true => an (.b (bif ((l.length : Int) == 1) then true else (!((((atD .spot l 0).x) == ((atD .spot l 1).x)) && ((((atD .spot l 0).y) == ((atD .spot l 1).y)) && true))))) | false => none) | false => none) | false => (iter st70_7 (fuel70_7 (⟨l, false, (l.length : Int), l, (l.length : Int), 0⟩ : S70_7)) (⟨l, false, (l.length : Int), l, (l.length : Int), 0⟩ : S70_7) fun o7 => (match o7.2 with | true => an (.b o7.1.t2) | false => an (.b true))))) | false => none) := by kernel_rfl
def F70 : List PV → Option (Bool × PV)
  | [.sl .spot l] => some (true, .b (areaS l))
  | _ => none
theorem s70 {gl : Gl} : Sum gl 70 F70 := by
  intro ps r h
  unfold F70 at h
  split at h
  · rename_i l
    obtain ⟨hc, rfl⟩ := Prod.mk.inj (Option.some.inj h)
    refine call_by (K := K70) (L := L70) (bxs := []) (ows := []) (GOk.cons s87 (GOk.cons s84J (GOk.cons s68 (GOk.nil)))) fn70 (l70 gl) (by kernel_rfl) (evF_some ((e70 gl l).trans ?_))
    unfold areaS
    show (match ((decide (l.length ≤ 1000000)) || ((!(within (l.length : Int) 1 12)) || false)) with | true => (match (bif (!(within (l.length : Int) 1 12)) then true else (List.any l (fun x => !(placed x)))) with | true => _ | false => _) | false => none) = _
    cases hw : within (l.length : Int) 1 12 with
    | false =>
      have : ((decide (l.length ≤ 1000000)) || ((!false) || false)) = true := by simp
      rw [this]
      rfl
    | true =>
      obtain ⟨h1, h12⟩ := len_ok hw
      rw [decide_eq_true (show l.length ≤ 1000000 by omega)]
      cases ha : List.any l (fun x => !(placed x)) with
      | true => rfl
      | false =>
        rcases Nat.lt_or_ge l.length 3 with h3 | h3
        · rw [decide_eq_true (show (l.length : Int) < 3 by omega), show inB 0 l.length = true from inB_nat (k := 0) (by omega)]
          have : ((inB 1 l.length) || (((l.length : Int) == 1) || false)) = true := by
            rcases Nat.lt_or_ge 1 l.length with h | h
            · rw [show inB 1 l.length = true from inB_nat (k := 1) h]; rfl
            · rw [show ((l.length : Int) == 1) = true by simp; omega]; simp
          rw [this]
          rfl
        · rw [decide_eq_false (show ¬ (l.length : Int) < 3 by omega)]
          exact loop70 l h3 h12
  · simp at h
end Go.Proofs.Ytklgaodfakdjpaa.Ev
/- Summaries of functions, printed by a program out of a list, and what is made of them. -/
namespace Go.Proofs.Ytklgaodfakdjpaa.Ev
open Go Go.RowKit Go.Proofs
structure S57_5 where
  l : List Spot
  t2 : Bool
  n : Int
  i : Int
def S57_5.enc (s : S57_5) : List PV := [.sl .spot s.l, .b s.t2, .i .i64 s.n, .i .i64 s.i]
def S57_5.encH (s : S57_5) : Heap := []
def dec57_5 : List PV → Heap → Option S57_5
  | [.sl .spot l_, .b t2_, .i .i64 n_, .i .i64 i_], [] => some ⟨l_, t2_, n_, i_⟩
  | _, _ => none
theorem dec_enc57_5 (vs : List PV) (hs : Heap) (s : S57_5) (h : dec57_5 vs hs = some s) : vs = s.enc ∧ hs = s.encH := by
  unfold dec57_5 at h
  split at h
  · obtain rfl := Option.some.inj h
    exact ⟨rfl, rfl⟩
  · simp at h
def st57_5 {ρ : Type} (s : S57_5) (next : S57_5 → Option ρ) (out : S57_5 × Bool → Option ρ) : Option ρ := (match (decide (s.i < s.n)) with | true => (match (inB s.i s.l.length) with | true => (match (!(Place (atD .spot s.l s.i))) with | true => out (⟨s.l, false, s.n, s.i⟩, true) | false => next ⟨s.l, s.t2, s.n, (wr (s.i + 1))⟩) | false => none) | false => out (s, false))
def out57_5 (k : Ex → List PV → Heap → Option R) (o : S57_5 × Bool) : Option R := match o.2 with
  | true => k .ret o.1.enc o.1.encH
  | false => k (.exit 0) o.1.enc o.1.encH
def fuel57_5 (s : S57_5) : Nat := s.l.length + 1
structure S57_20 where
  l : List Spot
  t2 : Bool
  n : Int
  sum : Int
  i : Int
  k : Int
  a : Spot
  b : Spot
def S57_20.enc (s : S57_20) : List PV := [.sl .spot s.l, .b s.t2, .i .i64 s.n, .i .i64 s.sum, .i .i64 s.i, .ref 15 0, .ref 16 0, .i .i64 s.k]
def S57_20.encH (s : S57_20) : Heap := [some (.cells 71 [.i .i64 s.a.x, .i .i64 s.a.y]), some (.cells 71 [.i .i64 s.b.x, .i .i64 s.b.y])]
def dec57_20 : List PV → Heap → Option S57_20
  | [.sl .spot l_, .b t2_, .i .i64 n_, .i .i64 sum_, .i .i64 i_, .ref 15 0, .ref 16 0, .i .i64 k_], [some (.cells 71 [.i .i64 a_0, .i .i64 a_1]), some (.cells 71 [.i .i64 b_0, .i .i64 b_1])] => some ⟨l_, t2_, n_, sum_, i_, k_, ⟨a_0, a_1⟩, ⟨b_0, b_1⟩⟩
  | _, _ => none
theorem dec_enc57_20 (vs : List PV) (hs : Heap) (s : S57_20) (h : dec57_20 vs hs = some s) : vs = s.enc ∧ hs = s.encH := by
  unfold dec57_20 at h
  split at h
  · obtain rfl := Option.some.inj h
    exact ⟨rfl, rfl⟩
  · simp at h
def st57_20 {ρ : Type} (s : S57_20) (next : S57_20 → Option ρ) (out : S57_20 × Bool → Option ρ) : Option ρ := (match (decide (s.k < s.n)) with | true => (match (inB s.k s.l.length) with | true => (match (decide ((turnR s.a s.b (atD .spot s.l s.k)) < 0)) with | true => out (⟨s.l, false, s.n, s.sum, s.i, s.k, s.a, s.b⟩, true) | false => next ⟨s.l, s.t2, s.n, s.sum, s.i, (wr (s.k + 1)), s.a, s.b⟩) | false => none) | false => out (s, false))
def out57_20 (k : Ex → List PV → Heap → Option R) (o : S57_20 × Bool) : Option R := match o.2 with
  | true => k .ret o.1.enc o.1.encH
  | false => k (.exit 4) o.1.enc o.1.encH
def fuel57_20 (s : S57_20) : Nat := s.l.length + 1
structure S57_13 where
  l : List Spot
  t2 : Bool
  n : Int
  sum : Int
  i : Int
def S57_13.enc (s : S57_13) : List PV := [.sl .spot s.l, .b s.t2, .i .i64 s.n, .i .i64 s.sum, .i .i64 s.i]
def S57_13.encH (s : S57_13) : Heap := []
def dec57_13 : List PV → Heap → Option S57_13
  | [.sl .spot l_, .b t2_, .i .i64 n_, .i .i64 sum_, .i .i64 i_], [] => some ⟨l_, t2_, n_, sum_, i_⟩
  | _, _ => none
theorem dec_enc57_13 (vs : List PV) (hs : Heap) (s : S57_13) (h : dec57_13 vs hs = some s) : vs = s.enc ∧ hs = s.encH := by
  unfold dec57_13 at h
  split at h
  · obtain rfl := Option.some.inj h
    exact ⟨rfl, rfl⟩
  · simp at h
def st57_13 {ρ : Type} (s : S57_13) (next : S57_13 → Option ρ) (out : S57_13 × Bool → Option ρ) : Option ρ := (match (decide (s.i < s.n)) with | true => (match (inB s.i s.l.length) with | true => (match (!(s.n == 0)) with | true => (match (inB (Int.tmod (wr (s.i + 1)) s.n) s.l.length) with | true => (match (!(s.n == 0)) with | true => (match (inB (Int.tmod (wr (s.i + 2)) s.n) s.l.length) with | true => (match (decide ((turnR (atD .spot s.l s.i) (atD .spot s.l (Int.tmod (wr (s.i + 1)) s.n)) (atD .spot s.l (Int.tmod (wr (s.i + 2)) s.n))) ≤ 0)) with | true => out (⟨s.l, false, s.n, s.sum, s.i⟩, true) | false => (iter st57_20 (fuel57_20 (⟨s.l, s.t2, s.n, (wr ((wr (s.sum + (wr (((atD .spot s.l s.i).x) * ((atD .spot s.l (Int.tmod (wr (s.i + 1)) s.n)).y))))) - (wr (((atD .spot s.l (Int.tmod (wr (s.i + 1)) s.n)).x) * ((atD .spot s.l s.i).y))))), s.i, 0, (atD .spot s.l s.i), (atD .spot s.l (Int.tmod (wr (s.i + 1)) s.n))⟩ : S57_20)) (⟨s.l, s.t2, s.n, (wr ((wr (s.sum + (wr (((atD .spot s.l s.i).x) * ((atD .spot s.l (Int.tmod (wr (s.i + 1)) s.n)).y))))) - (wr (((atD .spot s.l (Int.tmod (wr (s.i + 1)) s.n)).x) * ((atD .spot s.l s.i).y))))), s.i, 0, (atD .spot s.l s.i), (atD .spot s.l (Int.tmod (wr (s.i + 1)) s.n))⟩ : S57_20) fun o20 => (match o20.2 with | true => out (⟨o20.1.l, o20.1.t2, o20.1.n, o20.1.sum, o20.1.i⟩, true) | false => next ⟨o20.1.l, o20.1.t2, o20.1.n, o20.1.sum, (wr (o20.1.i + 1))⟩))) | false => none) | false => none) | false => none) | false => none) | false => none) | false => out (s, false))
def out57_13 (k : Ex → List PV → Heap → Option R) (o : S57_13 × Bool) : Option R := match o.2 with
  | true => k .ret o.1.enc o.1.encH
  | false => k (.exit 2) o.1.enc o.1.encH
def fuel57_13 (s : S57_13) : Nat := s.l.length + 1
def K57 : Keep := fun i => match i with
  | 5 => ([0, 2, 3, 4], [])
  | 13 => ([0, 2, 3, 5, 6], [])
  | 20 => ([0, 2, 3, 5, 6, 7, 8, 10], [15, 16])
  | _ => ([], [])
def L57 : Lam := fun b vs hs k => match loopId b with
  | 5 => loopL dec57_5 st57_5 fuel57_5 out57_5 b vs hs k
  | 13 => loopL dec57_13 st57_13 fuel57_13 out57_13 b vs hs k
  | 20 => loopL dec57_20 st57_20 fuel57_20 out57_20 b vs hs k
  | _ => none
noncomputable def b57_5 : Code := (loopsOf (bodyOf Try.f57)).getD 0 .skip
noncomputable def b57_20 : Code := (loopsOf (bodyOf Try.f57)).getD 2 .skip
noncomputable def b57_13 : Code := (loopsOf (bodyOf Try.f57)).getD 1 .skip
theorem step57_5 (gl : Gl) (j : Nat) (s : S57_5) (k : Ex → List PV → Heap → Option R) : unroll (cx gl (mkG [(76, F76), (77, F77), (30, F30)]) [] []) K57 L57 Try.f57.ntmps (Try.f57.ntmps + 16) b57_5 (j + 1) s.enc s.encH k = st57_5 s (fun s' => unroll (cx gl (mkG [(76, F76), (77, F77), (30, F30)]) [] []) K57 L57 Try.f57.ntmps (Try.f57.ntmps + 16) b57_5 j s'.enc s'.encH k) (out57_5 k) := by kernel_rfl
theorem step57_20 (gl : Gl) (j : Nat) (s : S57_20) (k : Ex → List PV → Heap → Option R) : unroll (cx gl (mkG [(76, F76), (77, F77), (30, F30)]) [] []) K57 L57 Try.f57.ntmps (Try.f57.ntmps + 16) b57_20 (j + 1) s.enc s.encH k = st57_20 s (fun s' => unroll (cx gl (mkG [(76, F76), (77, F77), (30, F30)]) [] []) K57 L57 Try.f57.ntmps (Try.f57.ntmps + 16) b57_20 j s'.enc s'.encH k) (out57_20 k) := by kernel_rfl
theorem step57_13 (gl : Gl) (j : Nat) (s : S57_13) (k : Ex → List PV → Heap → Option R) : unroll (cx gl (mkG [(76, F76), (77, F77), (30, F30)]) [] []) K57 L57 Try.f57.ntmps (Try.f57.ntmps + 16) b57_13 (j + 1) s.enc s.encH k = st57_13 s (fun s' => unroll (cx gl (mkG [(76, F76), (77, F77), (30, F30)]) [] []) K57 L57 Try.f57.ntmps (Try.f57.ntmps + 16) b57_13 j s'.enc s'.encH k) (out57_13 k) := by kernel_rfl
theorem l57 (gl : Gl) : LoopsOk (cx gl (mkG [(76, F76), (77, F77), (30, F30)]) [] []) K57 L57 Try.f57.ntmps (Try.f57.ntmps + 16) (loopsOf (bodyOf Try.f57)) := by
  refine loopsOk_list (l := [b57_5, b57_13, b57_20]) (by kernel_rfl) ?_
  exact List.forall_mem_cons.2 ⟨loopOk1 (fuel := fuel57_5) (enc := S57_5.enc) (encH := S57_5.encH) (fun vs hs k => by kernel_rfl) dec_enc57_5 (step57_5 gl ), List.forall_mem_cons.2 ⟨loopOk1 (fuel := fuel57_13) (enc := S57_13.enc) (encH := S57_13.encH) (fun vs hs k => by kernel_rfl) dec_enc57_13 (step57_13 gl ), List.forall_mem_cons.2 ⟨loopOk1 (fuel := fuel57_20) (enc := S57_20.enc) (encH := S57_20.encH) (fun vs hs k => by kernel_rfl) dec_enc57_20 (step57_20 gl ), (fun _ h => by simp at h)⟩⟩⟩
theorem wr_small {x : Int} (h1 : -4611686018427387904 ≤ x) (h2 : x ≤ 4611686018427387904) : wr x = x := wr_id (by omega) (by omega)
theorem mul_bound2 {a b A B : Int} (ha : -A ≤ a ∧ a ≤ A) (hb : -B ≤ b ∧ b ≤ B) : -(A * B) ≤ a * b ∧ a * b ≤ A * B := by
  have h1 : 0 ≤ A := by omega
  have h2 : 0 ≤ B := by omega
  have key : ∀ x y : Int, 0 ≤ x → x ≤ A → -B ≤ y → y ≤ B → -(A * B) ≤ x * y ∧ x * y ≤ A * B := fun x y hx hxA hy hyB => by
    have p1 := Int.mul_le_mul hxA hyB
    have e1 : x * y ≤ x * B := Int.mul_le_mul_of_nonneg_left hyB hx
    have e2 : x * B ≤ A * B := Int.mul_le_mul_of_nonneg_right hxA h2
    have e3 : x * (-y) ≤ x * B := Int.mul_le_mul_of_nonneg_left (by omega) hx
    rw [Int.mul_neg] at e3
    omega
  rcases Int.le_total 0 a with h | h
  · exact key a b h ha.2 hb.1 hb.2
  · have := key (-a) b (by omega) (by omega) hb.1 hb.2
    rw [Int.neg_mul] at this
    omega
theorem placed_iff (p : Spot) : placed p = true ↔ (-16777216 ≤ p.x ∧ p.x ≤ 16777216) ∧ -16777216 ≤ p.y ∧ p.y ≤ 16777216 := by
  unfold placed v68
  rw [bif_f, bif_f, bif_f, Bool.and_eq_true, Bool.and_eq_true, Bool.and_eq_true, decide_eq_true_eq, decide_eq_true_eq, decide_eq_true_eq, decide_eq_true_eq]
theorem turn_val {a b c : Spot} (ha : placed a = true) (hb : placed b = true) (hc : placed c = true) : turnV a b c = (b.x - a.x) * (c.y - b.y) - (b.y - a.y) * (c.x - b.x) := by
  have h1 := (placed_iff a).1 ha
  have h2 := (placed_iff b).1 hb
  have h3 := (placed_iff c).1 hc
  have m1 := mul_bound2 (a := b.x - a.x) (b := c.y - b.y) (A := 33554432) (B := 33554432) (by omega) (by omega)
  have m2 := mul_bound2 (a := b.y - a.y) (b := c.x - b.x) (A := 33554432) (B := 33554432) (by omega) (by omega)
  unfold turnV
  rw [wr_small (x := b.x - a.x) (by omega) (by omega), wr_small (x := c.y - b.y) (by omega) (by omega), wr_small (x := b.y - a.y) (by omega) (by omega), wr_small (x := c.x - b.x) (by omega) (by omega),
    wr_small (x := (b.x - a.x) * (c.y - b.y)) (by omega) (by omega), wr_small (x := (b.y - a.y) * (c.x - b.x)) (by omega) (by omega), wr_small (by omega) (by omega)]
def cross (a b : Spot) : Int := a.x * b.y - b.x * a.y
theorem turn_cross {a b c : Spot} (ha : placed a = true) (hb : placed b = true) (hc : placed c = true) : turnV a b c = cross a b + cross b c + cross c a := by
  rw [turn_val ha hb hc]
  unfold cross
  grind
theorem cross_bd {a b : Spot} (ha : placed a = true) (hb : placed b = true) : (-281474976710656 ≤ a.x * b.y ∧ a.x * b.y ≤ 281474976710656) ∧ -281474976710656 ≤ b.x * a.y ∧ b.x * a.y ≤ 281474976710656 := by
  have h1 := (placed_iff a).1 ha
  have h2 := (placed_iff b).1 hb
  have m1 := mul_bound2 (a := a.x) (b := b.y) (A := 16777216) (B := 16777216) h1.1 h2.2
  have m2 := mul_bound2 (a := b.x) (b := a.y) (A := 16777216) (B := 16777216) h2.1 h1.2
  omega
/-- The corners of an area, round by round. -/
def cor (l : List Spot) (k : Nat) : Spot := atN .spot l (k % l.length)
def sumA (l : List Spot) : Nat → Int
  | 0 => 0
  | k + 1 => wr ((wr (sumA l k + (wr ((cor l k).x * (cor l (k + 1)).y)))) - (wr ((cor l (k + 1)).x * (cor l k).y)))
theorem cor_placed {l : List Spot} (hn : 0 < l.length) (hp : ∀ p ∈ l, placed p = true) (k : Nat) : placed (cor l k) = true := by
  have h := Nat.mod_lt k hn
  unfold cor
  rw [atN_nat (T := .spot) h]
  exact hp _ (List.getElem_mem h)
theorem sumA_val {l : List Spot} (hn : 0 < l.length) (hp : ∀ p ∈ l, placed p = true) : ∀ k : Nat, k ≤ 12 → sumA l (k + 1) = sumA l k + cross (cor l k) (cor l (k + 1)) ∧ -(k * 562949953421312 : Int) ≤ sumA l k ∧ sumA l k ≤ k * 562949953421312
  | 0, _ => by
    have hb := cross_bd (cor_placed hn hp 0) (cor_placed hn hp 1)
    refine ⟨?_, by show -(((0 : Nat) : Int) * 562949953421312) ≤ 0; omega, by show (0 : Int) ≤ ((0 : Nat) : Int) * 562949953421312; omega⟩
    show wr ((wr (0 + (wr ((cor l 0).x * (cor l 1).y)))) - (wr ((cor l 1).x * (cor l 0).y))) = 0 + cross (cor l 0) (cor l 1)
    unfold cross
    rw [wr_small (x := (cor l 0).x * (cor l 1).y) (by omega) (by omega), wr_small (x := (cor l 1).x * (cor l 0).y) (by omega) (by omega), wr_small (x := 0 + (cor l 0).x * (cor l 1).y) (by omega) (by omega), wr_small (by omega) (by omega)]
    omega
  | k + 1, hk => by
    obtain ⟨e, b1, b2⟩ := sumA_val hn hp k (by omega)
    have hb := cross_bd (cor_placed hn hp (k + 1)) (cor_placed hn hp (k + 2))
    have hb0 := cross_bd (cor_placed hn hp k) (cor_placed hn hp (k + 1))
    have c1 : -(((k + 1 : Nat) : Int) * 562949953421312) ≤ sumA l (k + 1) ∧ sumA l (k + 1) ≤ ((k + 1 : Nat) : Int) * 562949953421312 := by
      rw [e]
      unfold cross
      omega
    refine ⟨?_, c1.1, c1.2⟩
    show wr ((wr (sumA l (k + 1) + (wr ((cor l (k + 1)).x * (cor l (k + 2)).y)))) - (wr ((cor l (k + 2)).x * (cor l (k + 1)).y))) = sumA l (k + 1) + cross (cor l (k + 1)) (cor l (k + 2))
    generalize sumA l (k + 1) = S at *
    unfold cross
    rw [wr_small (x := (cor l (k + 1)).x * (cor l (k + 2)).y) (by omega) (by omega), wr_small (x := (cor l (k + 2)).x * (cor l (k + 1)).y) (by omega) (by omega), wr_small (x := S + (cor l (k + 1)).x * (cor l (k + 2)).y) (by omega) (by omega), wr_small (by omega) (by omega)]
    omega
theorem cor_lt {l : List Spot} {k : Nat} (h : k < l.length) : cor l k = atN .spot l k := by unfold cor; rw [Nat.mod_eq_of_lt h]
theorem edge_no {l : List Spot} (h : (List.range' 0 l.length).any (edgeBad l) = false) {k : Nat} (hk : k < l.length) : 0 < turnV (cor l k) (cor l (k + 1)) (cor l (k + 2)) ∧ ∀ p ∈ l, 0 ≤ turnV (cor l k) (cor l (k + 1)) p := by
  rw [List.any_eq_false] at h
  have h1 := h k (by rw [List.mem_range'_1]; omega)
  have h1 : edgeBad l k = false := by simpa using h1
  unfold edgeBad at h1
  rw [bif_t, Bool.or_eq_false_iff] at h1
  have e0 := cor_lt hk
  have e1 : atN .spot l ((k + 1) % l.length) = cor l (k + 1) := rfl
  have e2 : atN .spot l ((k + 2) % l.length) = cor l (k + 2) := rfl
  rw [← e0, e1, e2] at h1
  have h2 := of_decide_eq_false h1.1
  refine ⟨by omega, fun p hp => ?_⟩
  have := List.any_eq_false.1 h1.2 p hp
  unfold turnNeg at this
  have : ¬ turnV (cor l k) (cor l (k + 1)) p < 0 := by simpa using this
  omega
/-- An area whose corners turn left has a size. -/
theorem area_pos {l : List Spot} (h3 : 3 ≤ l.length) (h12 : l.length ≤ 12) (hp : ∀ p ∈ l, placed p = true) (h : (List.range' 0 l.length).any (edgeBad l) = false) : 0 < sumA l l.length := by
  have hn : 0 < l.length := by omega
  have hc := cor_placed hn hp
  have c0 : cor l 0 ∈ l := by
    rw [cor_lt hn, atN_nat (T := .spot) hn]
    exact List.getElem_mem hn
  have key : ∀ k, k ≤ l.length → 0 ≤ sumA l k + cross (cor l k) (cor l 0) ∧ (2 ≤ k → 0 < sumA l k + cross (cor l k) (cor l 0)) := by
    intro k
    induction k with
    | zero =>
      intro _
      refine ⟨?_, fun h => by omega⟩
      show 0 ≤ 0 + cross (cor l 0) (cor l 0)
      unfold cross
      omega
    | succ k ih =>
      intro hk
      obtain ⟨i1, i2⟩ := ih (by omega)
      have e := (sumA_val hn hp k (by omega)).1
      obtain ⟨t1, t2⟩ := edge_no h (k := k) (by omega)
      have t3 := t2 _ c0
      have t4 := turn_cross (hc k) (hc (k + 1)) (hc 0)
      have t5 : cross (cor l 0) (cor l k) = - cross (cor l k) (cor l 0) := by unfold cross; omega
      rw [e]
      refine ⟨by omega, fun h2 => ?_⟩
      rcases Nat.lt_or_ge k 2 with hk2 | hk2
      · have : k = 1 := by omega
        subst this
        have u1 := (edge_no h (k := 0) (by omega)).1
        have u2 := turn_cross (hc 0) (hc 1) (hc 2)
        have : 0 < turnV (cor l 1) (cor l (1 + 1)) (cor l 0) := by
          have u3 := turn_cross (hc 1) (hc 2) (hc 0)
          have u4 : turnV (cor l 1) (cor l (1 + 1)) (cor l 0) = turnV (cor l 1) (cor l 2) (cor l 0) := rfl
          have u5 : turnV (cor l 0) (cor l (0 + 1)) (cor l (0 + 2)) = turnV (cor l 0) (cor l 1) (cor l 2) := rfl
          omega
        omega
      · have := i2 hk2
        omega
  have := (key l.length (Nat.le_refl _)).2 (by omega)
  have e : cor l l.length = cor l 0 := by unfold cor; rw [Nat.mod_self, Nat.zero_mod]
  rw [e] at this
  have c00 : cross (cor l 0) (cor l 0) = 0 := by unfold cross; omega
  omega
theorem loop57_5 (l : List Spot) (h : l.length ≤ 1000000) (O : S57_5 × Bool → Option R) (A : Option R) (hA : ∀ k : Nat, O (⟨l, false, (l.length : Int), (k : Int)⟩, true) = A) :
    iter st57_5 (fuel57_5 (⟨l, false, (l.length : Int), 0⟩ : S57_5)) (⟨l, false, (l.length : Int), 0⟩ : S57_5) O = bif List.any l (fun x => !(placed x)) then A else O (⟨l, false, (l.length : Int), (l.length : Int)⟩, false) := by
  refine (iter_all (step := st57_5) (F := fun k => (⟨l, false, (l.length : Int), (k : Int)⟩ : S57_5)) (stop := fun k => bif !(placed (atN .spot l k)) then some ((⟨l, false, (l.length : Int), (k : Int)⟩ : S57_5), true) else none) (last := ((⟨l, false, (l.length : Int), (l.length : Int)⟩ : S57_5), false)) l.length _ (fun k next hk => ?_) (fun next => ?_) _ (Nat.le_refl _) _ rfl).trans ?_
  · simp only [st57_5, decLt_nat hk, inB_nat hk, wr_succ (show k ≤ 1000000 by omega), atD, Int.toNat_natCast]
    show (match !(placed (atN .spot l k)) with | true => _ | false => _) = _
    generalize (!(placed (atN .spot l k))) = b_
    cases b_ <;> rfl
  · simp only [st57_5, decLt_self]
  · refine (runTo_any O (fun k => !(placed (atN .spot l k))) (fun k => ((⟨l, false, (l.length : Int), (k : Int)⟩ : S57_5), true)) A hA l.length 0 (fun j _ _ => rfl)).trans ?_
    congr 1
    rw [Bool.eq_iff_iff, List.any_eq_true, List.any_eq_true]
    constructor
    · rintro ⟨k, hk, h⟩
      rw [List.mem_range'_1] at hk
      have hk' : k < l.length := by omega
      exact ⟨l[k], List.getElem_mem hk', by rw [atN_nat (T := .spot) hk'] at h; exact h⟩
    · rintro ⟨p, hp, h⟩
      obtain ⟨k, hk, rfl⟩ := List.getElem_of_mem hp
      exact ⟨k, by rw [List.mem_range'_1]; omega, by rw [atN_nat (T := .spot) hk]; exact h⟩
theorem loop57_20 (l : List Spot) (h : l.length ≤ 1000000) (sm i : Int) (a b : Spot) (O : S57_20 × Bool → Option R) (A : Option R) (hA : ∀ k : Nat, O (⟨l, false, (l.length : Int), sm, i, (k : Int), a, b⟩, true) = A) :
    iter st57_20 (fuel57_20 (⟨l, false, (l.length : Int), sm, i, 0, a, b⟩ : S57_20)) (⟨l, false, (l.length : Int), sm, i, 0, a, b⟩ : S57_20) O = bif List.any l (fun x => turnNeg x a b) then A else O (⟨l, false, (l.length : Int), sm, i, (l.length : Int), a, b⟩, false) := by
  refine (iter_all (step := st57_20) (F := fun k => (⟨l, false, (l.length : Int), sm, i, (k : Int), a, b⟩ : S57_20)) (stop := fun k => bif turnNeg (atN .spot l k) a b then some ((⟨l, false, (l.length : Int), sm, i, (k : Int), a, b⟩ : S57_20), true) else none) (last := ((⟨l, false, (l.length : Int), sm, i, (l.length : Int), a, b⟩ : S57_20), false)) l.length _ (fun k next hk => ?_) (fun next => ?_) _ (Nat.le_refl _) _ rfl).trans ?_
  · simp only [st57_20, decLt_nat hk, inB_nat hk, wr_succ (show k ≤ 1000000 by omega), atD, Int.toNat_natCast]
    show (match turnNeg (atN .spot l k) a b with | true => _ | false => _) = _
    generalize turnNeg (atN .spot l k) a b = b_
    cases b_ <;> rfl
  · simp only [st57_20, decLt_self]
  · refine (runTo_any O (fun k => turnNeg (atN .spot l k) a b) (fun k => ((⟨l, false, (l.length : Int), sm, i, (k : Int), a, b⟩ : S57_20), true)) A hA l.length 0 (fun j _ _ => rfl)).trans ?_
    congr 1
    rw [Bool.eq_iff_iff, List.any_eq_true, List.any_eq_true]
    constructor
    · rintro ⟨k, hk, h⟩
      rw [List.mem_range'_1] at hk
      have hk' : k < l.length := by omega
      exact ⟨l[k], List.getElem_mem hk', by rw [atN_nat (T := .spot) hk'] at h; exact h⟩
    · rintro ⟨p, hp, h⟩
      obtain ⟨k, hk, rfl⟩ := List.getElem_of_mem hp
      exact ⟨k, by rw [List.mem_range'_1]; omega, by rw [atN_nat (T := .spot) hk]; exact h⟩
theorem loop57_13 (l : List Spot) (h3 : 3 ≤ l.length) (hx : l.length ≤ 12) : (iter st57_13 (fuel57_13 (⟨l, false, (l.length : Int), 0, 0⟩ : S57_13)) (⟨l, false, (l.length : Int), 0, 0⟩ : S57_13) fun o13 => (match o13.2 with | true => an (.b o13.1.t2) | false => an (.b (decide (o13.1.sum > 0))))) = an (.b (bif (List.range' 0 l.length).any (edgeBad l) then false else decide (sumA l l.length > 0))) := by
  refine (iter_all (step := st57_13) (F := fun k => (⟨l, false, (l.length : Int), sumA l k, (k : Int)⟩ : S57_13)) (stop := fun k => bif edgeBad l k then some ((bif (decide ((turnV (atN .spot l k) (atN .spot l ((k + 1) % l.length)) (atN .spot l ((k + 2) % l.length))) ≤ 0)) then (⟨l, false, (l.length : Int), sumA l k, (k : Int)⟩ : S57_13) else ⟨l, false, (l.length : Int), sumA l (k + 1), (k : Int)⟩), true) else none) (last := ((⟨l, false, (l.length : Int), sumA l l.length, (l.length : Int)⟩ : S57_13), false)) l.length _ (fun k next hk => ?_) (fun next => ?_) _ (Nat.le_refl _) _ rfl).trans ?_
  · have e0 : (!((l.length : Int) == 0)) = true := by
      have : ((l.length : Int) == 0) = false := by rw [beq_eq_false_iff_ne]; omega
      rw [this]; rfl
    have e1 : Int.tmod ((k + 1 : Nat) : Int) (l.length : Int) = (((k + 1) % l.length : Nat) : Int) := tmod_mod (by omega)
    have e2 : Int.tmod (wr ((k : Int) + 2)) (l.length : Int) = (((k + 2) % l.length : Nat) : Int) := by
      rw [show wr ((k : Int) + 2) = ((k + 2 : Nat) : Int) from by rw [wr_id (by omega) (by omega)]; rfl]
      exact tmod_mod (by omega)
    have b1 : inB (((k + 1) % l.length : Nat) : Int) l.length = true := inB_nat (Nat.mod_lt _ (by omega))
    have b2 : inB (((k + 2) % l.length : Nat) : Int) l.length = true := inB_nat (Nat.mod_lt _ (by omega))
    simp only [st57_13, decLt_nat hk, inB_nat hk, e0, e1, e2, b1, b2, wr_succ (show k ≤ 1000000 by omega), atD, Int.toNat_natCast]
    have eS : sumA l (k + 1) = wr ((wr (sumA l k + (wr ((atN .spot l k).x * (atN .spot l ((k + 1) % l.length)).y)))) - (wr ((atN .spot l ((k + 1) % l.length)).x * (atN .spot l k).y))) := by
      show wr ((wr (sumA l k + (wr ((cor l k).x * (cor l (k + 1)).y)))) - (wr ((cor l (k + 1)).x * (cor l k).y))) = _
      rw [cor_lt hk]
      rfl
    show (match (decide ((turnV (atN .spot l k) (atN .spot l ((k + 1) % l.length)) (atN .spot l ((k + 2) % l.length))) ≤ 0)) with | true => _ | false => _) = _
    unfold edgeBad
    cases ht : (decide ((turnV (atN .spot l k) (atN .spot l ((k + 1) % l.length)) (atN .spot l ((k + 2) % l.length))) ≤ 0)) with
    | true => rfl
    | false =>
      simp only [cond_false]
      rw [← eS]
      refine (loop57_20 l (by omega) (sumA l (k + 1)) (k : Int) _ _ _ (an (.b false)) fun j => rfl).trans ?_
      cases List.any l (fun x => turnNeg x (atN .spot l k) (atN .spot l ((k + 1) % l.length))) with
      | true => rfl
      | false => simp only [cond_false, wr_succ (show k ≤ 1000000 by omega)]
  · simp only [st57_13, decLt_self]
  · refine (runTo_any (fun o13 : S57_13 × Bool => (match o13.2 with | true => an (.b o13.1.t2) | false => an (.b (decide (o13.1.sum > 0))))) (edgeBad l) (fun k => ((bif (decide ((turnV (atN .spot l k) (atN .spot l ((k + 1) % l.length)) (atN .spot l ((k + 2) % l.length))) ≤ 0)) then (⟨l, false, (l.length : Int), sumA l k, (k : Int)⟩ : S57_13) else ⟨l, false, (l.length : Int), sumA l (k + 1), (k : Int)⟩), true)) (an (.b false)) (fun k => by dsimp only; cases (decide ((turnV (atN .spot l k) (atN .spot l ((k + 1) % l.length)) (atN .spot l ((k + 2) % l.length))) ≤ 0)) <;> rfl) l.length 0 (fun j _ _ => rfl)).trans ?_
    cases (List.range' 0 l.length).any (edgeBad l) <;> rfl
theorem fn57 : FnOk 57 Try.f57 := ⟨by kernel_rfl, by kernel_rfl, by kernel_rfl, by kernel_rfl⟩
theorem e57 (gl : Gl) (l : List Spot) : evFn (cx gl (mkG [(76, F76), (77, F77), (30, F30)]) [] []) K57 L57 Try.f57 [.sl .spot l] noObjs = (match (!(In (l.length : Int) 1 12)) with | true => an (.b false) | false => (iter st57_5 (fuel57_5 (⟨l, false, (l.length : Int), 0⟩ : S57_5)) (⟨l, false, (l.length : Int), 0⟩ : S57_5) fun o5 => (match o5.2 with | true => an (.b o5.1.t2) | false => (match (decide (o5.1.n ≤ 2)) with | true => (match ((inB 0 o5.1.l.length) || ((o5.1.n == 1) || false)) with | true => (match ((inB 1 o5.1.l.length) || ((o5.1.n == 1) || false)) with | true => an (.b (bif (o5.1.n == 1) then true else (!((((atD .spot o5.1.l 0).x) == ((atD .spot o5.1.l 1).x)) && ((((atD .spot o5.1.l 0).y) == ((atD .spot o5.1.l 1).y)) && true))))) | false => none) | false => none) | false => (iter st57_13 (fuel57_13 (⟨o5.1.l, o5.1.t2, o5.1.n, 0, 0⟩ : S57_13)) (⟨o5.1.l, o5.1.t2, o5.1.n, 0, 0⟩ : S57_13) fun o13 => (match o13.2 with | true => an (.b o13.1.t2) | false => an (.b (decide (o13.1.sum > 0))))))))) := by kernel_rfl
def F57 : List PV → Option (Bool × PV)
  | [.sl .spot l] => some (true, .b (areaS l))
  | _ => none
theorem s57 {gl : Gl} : Sum gl 57 F57 := by
  intro ps r h
  unfold F57 at h
  split at h
  · rename_i l
    obtain ⟨hc, rfl⟩ := Prod.mk.inj (Option.some.inj h)
    refine call_by (K := K57) (L := L57) (bxs := []) (ows := []) (GOk.cons s76 (GOk.cons s77 (GOk.cons s30 (GOk.nil)))) fn57 (l57 gl) (by kernel_rfl) (evF_some ((e57 gl l).trans ?_))
    unfold areaS
    show (match (!(within (l.length : Int) 1 12)) with | true => _ | false => _) = _
    cases hw : within (l.length : Int) 1 12 with
    | false => rfl
    | true =>
      obtain ⟨h1, h12⟩ := len_ok hw
      refine (loop57_5 l (by omega) _ (an (.b false)) fun k => rfl).trans ?_
      cases ha : List.any l (fun x => !(placed x)) with
      | true => rfl
      | false =>
        have hp : ∀ p ∈ l, placed p = true := fun p hp => by
          have := List.any_eq_false.1 ha p hp
          simpa using this
        simp only [cond_false, Bool.not_true]
        rcases Nat.lt_or_ge l.length 3 with h3 | h3
        · rw [decide_eq_true (show (l.length : Int) ≤ 2 by omega), decide_eq_true (show (l.length : Int) < 3 by omega), show inB 0 l.length = true from inB_nat (k := 0) (by omega)]
          have : ((inB 1 l.length) || (((l.length : Int) == 1) || false)) = true := by
            rcases Nat.lt_or_ge 1 l.length with h | h
            · rw [show inB 1 l.length = true from inB_nat (k := 1) h]; rfl
            · rw [show ((l.length : Int) == 1) = true by simp; omega]; simp
          simp only [Bool.true_or, this]
          rfl
        · rw [decide_eq_false (show ¬ (l.length : Int) ≤ 2 by omega), decide_eq_false (show ¬ (l.length : Int) < 3 by omega)]
          refine (loop57_13 l h3 h12).trans ?_
          cases he : (List.range' 0 l.length).any (edgeBad l) with
          | true => rfl
          | false =>
            rw [decide_eq_true (show sumA l l.length > 0 from area_pos h3 h12 hp he)]
            rfl
  · simp at h
end Go.Proofs.Ytklgaodfakdjpaa.Ev
/- Summaries of functions, printed by a program out of a list, and what is made of them. -/
namespace Go.Proofs.Ytklgaodfakdjpaa.Ev
open Go Go.RowKit Go.Proofs
theorem fn49 : FnOk 49 Try.f49 := ⟨by kernel_rfl, by kernel_rfl, by kernel_rfl, by kernel_rfl⟩
def repOk (r : Report) : Bool := bif (bif (bif (bif (bif (bif (In r.kind 1 4) then (Time r.time) else false) then (nameS r.source) else false) then (bif (bif (bif (r.about.toList == (⟨#[]⟩ : ByteArray).toList) then (r.kind != 1) else false) then (r.kind != 4) else false) then true else (nameS r.about)) else false) then (areaS r.wher) else false) then (In r.souls (-1) 10000) else false) then (In r.trust 0 1000) else false
theorem e49 (gl : Gl) (r : Report) : evFn (cx gl (mkG [(56, F56), (30, F30), (55, F55), (57, F57)]) [] []) noK noL Try.f49 [.agg [.i .i64 r.kind, .i .i64 r.time, .s r.source, .s r.about, .sl .spot r.wher, .i .i64 r.souls, .i .i64 r.trust]] noObjs = an (.b (bif (bif (bif (bif (bif (bif (In r.kind 1 4) then (Time r.time) else false) then (nameS r.source) else false) then (bif (bif (bif (r.about.toList == (⟨#[]⟩ : ByteArray).toList) then (r.kind != 1) else false) then (r.kind != 4) else false) then true else (nameS r.about)) else false) then (areaS r.wher) else false) then (In r.souls (-1) 10000) else false) then (In r.trust 0 1000) else false)) := by kernel_rfl
def F49 : List PV → Option (Bool × PV)
  | [.agg rL] => (ETy.dec .report rL).bind fun r => some (true, .b (repOk r))
  | _ => none
theorem s49 {gl : Gl} : Sum gl 49 F49 := by
  intro ps r h
  unfold F49 at h
  split at h
  · rename_i rL
    obtain ⟨r, hr, h_r⟩ := Option.bind_eq_some_iff.1 h
    obtain rfl := dec_is (by simp) hr
    obtain ⟨hc, rfl⟩ := Prod.mk.inj (Option.some.inj h_r)
    refine call_by (K := noK) (L := noL) (bxs := []) (ows := []) (GOk.cons s56 (GOk.cons s30 (GOk.cons s55 (GOk.cons s57 (GOk.nil))))) fn49 (noLoops (by kernel_rfl)) (by kernel_rfl) (evF_some ((e49 gl r).trans ?_))
    try unfold repOk
    rfl
  · simp at h
theorem loop_len (bs : ByteArray) : ∀ (n i : Nat) (r : List UInt8), n = bs.size - i → (ByteArray.toList.loop bs i r).length = (bs.size - i) + r.length
  | 0, i, r, h => by
    unfold ByteArray.toList.loop
    rw [if_neg (by omega), List.length_reverse]
    omega
  | n + 1, i, r, h => by
    unfold ByteArray.toList.loop
    rw [if_pos (by omega), loop_len bs n (i + 1) _ (by omega)]
    simp
    omega
theorem toList_len (bs : ByteArray) : bs.toList.length = bs.size := by
  unfold ByteArray.toList
  rw [loop_len bs bs.size 0 [] (by omega)]
  simp
theorem empty_name {s : ByteArray} (h : (s.toList == (⟨#[]⟩ : ByteArray).toList) = true) : nameS s = false := by
  have h1 : s.toList = (⟨#[]⟩ : ByteArray).toList := by simpa using h
  have h2 : s.size = 0 := by rw [← toList_len, h1, toList_len]; rfl
  have hw : within (s.size : Int) 1 32 = false := by rw [h2]; rfl
  unfold nameS headBad
  rw [hw]
  rfl
theorem fn47 : FnOk 47 Try.f47 := ⟨by kernel_rfl, by kernel_rfl, by kernel_rfl, by kernel_rfl⟩
theorem e47 (gl : Gl) (r : Report) : evFn (cx gl (mkG [(68, F68), (70, F70), (69, F69)]) [] []) noK noL Try.f47 [.agg [.i .i64 r.kind, .i .i64 r.time, .s r.source, .s r.about, .sl .spot r.wher, .i .i64 r.souls, .i .i64 r.trust]] noObjs = (match (!(v68 r.kind 1 4)) with | true => (match (!(v68 r.kind 1 4)) with | true => an (.b false) | false => (match (bif (r.about.toList == (⟨#[]⟩ : ByteArray).toList) then (bif (r.kind == 1) then true else (r.kind == 4)) else false) with | true => (match (bif (r.about.toList == (⟨#[]⟩ : ByteArray).toList) then (bif (r.kind == 1) then true else (r.kind == 4)) else false) with | true => an (.b false) | false => an (.b (bif (bif (areaS r.wher) then (v68 r.souls (-1) 10000) else false) then (v68 r.trust 0 1000) else false))) | false => (match (bif (!(r.about.toList == (⟨#[]⟩ : ByteArray).toList)) then (!(nameS r.about)) else false) with | true => an (.b false) | false => an (.b (bif (bif (areaS r.wher) then (v68 r.souls (-1) 10000) else false) then (v68 r.trust 0 1000) else false))))) | false => (match (!(v68 r.time 0 1073741824)) with | true => (match (!(v68 r.time 0 1073741824)) with | true => an (.b false) | false => (match (bif (r.about.toList == (⟨#[]⟩ : ByteArray).toList) then (bif (r.kind == 1) then true else (r.kind == 4)) else false) with | true => (match (bif (r.about.toList == (⟨#[]⟩ : ByteArray).toList) then (bif (r.kind == 1) then true else (r.kind == 4)) else false) with | true => an (.b false) | false => an (.b (bif (bif (areaS r.wher) then (v68 r.souls (-1) 10000) else false) then (v68 r.trust 0 1000) else false))) | false => (match (bif (!(r.about.toList == (⟨#[]⟩ : ByteArray).toList)) then (!(nameS r.about)) else false) with | true => an (.b false) | false => an (.b (bif (bif (areaS r.wher) then (v68 r.souls (-1) 10000) else false) then (v68 r.trust 0 1000) else false))))) | false => (match (!(nameS r.source)) with | true => an (.b false) | false => (match (bif (r.about.toList == (⟨#[]⟩ : ByteArray).toList) then (bif (r.kind == 1) then true else (r.kind == 4)) else false) with | true => (match (bif (r.about.toList == (⟨#[]⟩ : ByteArray).toList) then (bif (r.kind == 1) then true else (r.kind == 4)) else false) with | true => an (.b false) | false => an (.b (bif (bif (areaS r.wher) then (v68 r.souls (-1) 10000) else false) then (v68 r.trust 0 1000) else false))) | false => (match (bif (!(r.about.toList == (⟨#[]⟩ : ByteArray).toList)) then (!(nameS r.about)) else false) with | true => an (.b false) | false => an (.b (bif (bif (areaS r.wher) then (v68 r.souls (-1) 10000) else false) then (v68 r.trust 0 1000) else false))))))) := by kernel_rfl
def F47 : List PV → Option (Bool × PV)
  | [.agg rL] => (ETy.dec .report rL).bind fun r => some (true, .b (repOk r))
  | _ => none
theorem s47 {gl : Gl} : Sum gl 47 F47 := by
  intro ps r h
  unfold F47 at h
  split at h
  · rename_i rL
    obtain ⟨r, hr, h_r⟩ := Option.bind_eq_some_iff.1 h
    obtain rfl := dec_is (by simp) hr
    obtain ⟨hc, rfl⟩ := Prod.mk.inj (Option.some.inj h_r)
    refine call_by (K := noK) (L := noL) (bxs := []) (ows := []) (GOk.cons s68 (GOk.cons s70 (GOk.cons s69 (GOk.nil)))) fn47 (noLoops (by kernel_rfl)) (by kernel_rfl) (evF_some ((e47 gl r).trans ?_))
    unfold repOk
    have hn := @empty_name r.about
    simp only [In_eq, Time_eq, bne]
    change (match (!(within r.kind 1 4)) with | true => (match (!(within r.kind 1 4)) with | true => _ | false => _) | false => (match (!(within r.time 0 1073741824)) with | true => (match (!(within r.time 0 1073741824)) with | true => _ | false => _) | false => _)) = _
    show (match (!(within r.kind 1 4)) with | true => (match (!(within r.kind 1 4)) with | true => an (.b false) | false => (match (bif (r.about.toList == (⟨#[]⟩ : ByteArray).toList) then (bif (r.kind == 1) then true else (r.kind == 4)) else false) with | true => (match (bif (r.about.toList == (⟨#[]⟩ : ByteArray).toList) then (bif (r.kind == 1) then true else (r.kind == 4)) else false) with | true => an (.b false) | false => an (.b (bif (bif (areaS r.wher) then (within r.souls (-1) 10000) else false) then (within r.trust 0 1000) else false))) | false => (match (bif (!(r.about.toList == (⟨#[]⟩ : ByteArray).toList)) then (!(nameS r.about)) else false) with | true => an (.b false) | false => an (.b (bif (bif (areaS r.wher) then (within r.souls (-1) 10000) else false) then (within r.trust 0 1000) else false))))) | false => (match (!(within r.time 0 1073741824)) with | true => (match (!(within r.time 0 1073741824)) with | true => an (.b false) | false => (match (bif (r.about.toList == (⟨#[]⟩ : ByteArray).toList) then (bif (r.kind == 1) then true else (r.kind == 4)) else false) with | true => (match (bif (r.about.toList == (⟨#[]⟩ : ByteArray).toList) then (bif (r.kind == 1) then true else (r.kind == 4)) else false) with | true => an (.b false) | false => an (.b (bif (bif (areaS r.wher) then (within r.souls (-1) 10000) else false) then (within r.trust 0 1000) else false))) | false => (match (bif (!(r.about.toList == (⟨#[]⟩ : ByteArray).toList)) then (!(nameS r.about)) else false) with | true => an (.b false) | false => an (.b (bif (bif (areaS r.wher) then (within r.souls (-1) 10000) else false) then (within r.trust 0 1000) else false))))) | false => (match (!(nameS r.source)) with | true => an (.b false) | false => (match (bif (r.about.toList == (⟨#[]⟩ : ByteArray).toList) then (bif (r.kind == 1) then true else (r.kind == 4)) else false) with | true => (match (bif (r.about.toList == (⟨#[]⟩ : ByteArray).toList) then (bif (r.kind == 1) then true else (r.kind == 4)) else false) with | true => an (.b false) | false => an (.b (bif (bif (areaS r.wher) then (within r.souls (-1) 10000) else false) then (within r.trust 0 1000) else false))) | false => (match (bif (!(r.about.toList == (⟨#[]⟩ : ByteArray).toList)) then (!(nameS r.about)) else false) with | true => an (.b false) | false => an (.b (bif (bif (areaS r.wher) then (within r.souls (-1) 10000) else false) then (within r.trust 0 1000) else false))))))) = _
    generalize (r.about.toList == (⟨#[]⟩ : ByteArray).toList) = e at *
    generalize nameS r.about = na at *
    generalize within r.kind 1 4 = a
    generalize within r.time 0 1073741824 = b
    generalize nameS r.source = c
    generalize (r.kind == 1) = k1
    generalize (r.kind == 4) = k4
    generalize areaS r.wher = ar
    generalize within r.souls (-1) 10000 = so
    generalize within r.trust 0 1000 = tr
    cases a <;> cases b <;> cases c <;> first | rfl | skip
    cases e with
    | true =>
      obtain rfl := hn rfl
      cases k1 <;> cases k4 <;> cases ar <;> cases so <;> cases tr <;> rfl
    | false => cases na <;> cases k1 <;> cases k4 <;> cases ar <;> cases so <;> cases tr <;> rfl
  · simp at h
structure S102_3 where
  l : List Spot
  n : Int
  i : Int
  low : Spot
  high : Spot
def S102_3.enc (s : S102_3) : List PV := [.ref 10 0, .ref 11 0, .sl .spot s.l, .i .i64 s.n, .i .i64 s.i]
def S102_3.encH (s : S102_3) : Heap := [some (.cells 71 [.i .i64 s.low.x, .i .i64 s.low.y]), some (.cells 71 [.i .i64 s.high.x, .i .i64 s.high.y])]
def dec102_3 : List PV → Heap → Option S102_3
  | [.ref 10 0, .ref 11 0, .sl .spot l_, .i .i64 n_, .i .i64 i_], [some (.cells 71 [.i .i64 low_0, .i .i64 low_1]), some (.cells 71 [.i .i64 high_0, .i .i64 high_1])] => some ⟨l_, n_, i_, ⟨low_0, low_1⟩, ⟨high_0, high_1⟩⟩
  | _, _ => none
theorem dec_enc102_3 (vs : List PV) (hs : Heap) (s : S102_3) (h : dec102_3 vs hs = some s) : vs = s.enc ∧ hs = s.encH := by
  unfold dec102_3 at h
  split at h
  · obtain rfl := Option.some.inj h
    exact ⟨rfl, rfl⟩
  · simp at h
def st102_3 {ρ : Type} (s : S102_3) (next : S102_3 → Option ρ) (out : S102_3 → Option ρ) : Option ρ := (match (decide (s.i < s.n)) with | true => (match (inB s.i s.l.length) with | true => next ⟨s.l, s.n, (wr (s.i + 1)), ⟨(imin s.low.x ((atD .spot s.l s.i).x)), (imin s.low.y ((atD .spot s.l s.i).y))⟩, ⟨(imax s.high.x ((atD .spot s.l s.i).x)), (imax s.high.y ((atD .spot s.l s.i).y))⟩⟩ | false => none) | false => out s)
def out102_3 (k : Ex → List PV → Heap → Option R) (o : S102_3) : Option R := k (.exit 0) o.enc o.encH
def fuel102_3 (s : S102_3) : Nat := s.l.length + 1
def K102 : Keep := fun _ => ([2, 3, 12, 13, 14], [10, 11])
def L102 : Lam := loopL dec102_3 st102_3 fuel102_3 out102_3
noncomputable def b102_3 : Code := (loopsOf (bodyOf Try.f102)).getD 0 .skip
theorem step102_3 (gl : Gl) (j : Nat) (s : S102_3) (k : Ex → List PV → Heap → Option R) : unroll (cx gl (mkG []) [] []) K102 L102 Try.f102.ntmps (Try.f102.ntmps + 16) b102_3 (j + 1) s.enc s.encH k = st102_3 s (fun s' => unroll (cx gl (mkG []) [] []) K102 L102 Try.f102.ntmps (Try.f102.ntmps + 16) b102_3 j s'.enc s'.encH k) (out102_3 k) := by kernel_rfl
theorem l102 (gl : Gl) : LoopsOk (cx gl (mkG []) [] []) K102 L102 Try.f102.ntmps (Try.f102.ntmps + 16) (loopsOf (bodyOf Try.f102)) := by
  refine loopsOk_list (l := [b102_3]) (by kernel_rfl) ?_
  exact List.forall_mem_cons.2 ⟨loopOk1 (fuel := fuel102_3) (enc := S102_3.enc) (encH := S102_3.encH) (fun vs hs k => by kernel_rfl) dec_enc102_3 (step102_3 gl ), (fun _ h => by simp at h)⟩
structure S97_3 where
  l : List Spot
  i : Int
  h10 : Spot
  h11 : Spot
  low : Spot
  high : Spot
def S97_3.enc (s : S97_3) : List PV := [.sl .spot s.l, .ref 10 0, .ref 11 0, .ref 12 0, .ref 13 0, .i .i64 s.i]
def S97_3.encH (s : S97_3) : Heap := [some (.cells 71 [.i .i64 s.h10.x, .i .i64 s.h10.y]), some (.cells 71 [.i .i64 s.h11.x, .i .i64 s.h11.y]), some (.cells 71 [.i .i64 s.low.x, .i .i64 s.low.y]), some (.cells 71 [.i .i64 s.high.x, .i .i64 s.high.y])]
def dec97_3 : List PV → Heap → Option S97_3
  | [.sl .spot l_, .ref 10 0, .ref 11 0, .ref 12 0, .ref 13 0, .i .i64 i_], [some (.cells 71 [.i .i64 h10_0, .i .i64 h10_1]), some (.cells 71 [.i .i64 h11_0, .i .i64 h11_1]), some (.cells 71 [.i .i64 low_0, .i .i64 low_1]), some (.cells 71 [.i .i64 high_0, .i .i64 high_1])] => some ⟨l_, i_, ⟨h10_0, h10_1⟩, ⟨h11_0, h11_1⟩, ⟨low_0, low_1⟩, ⟨high_0, high_1⟩⟩
  | _, _ => none
theorem dec_enc97_3 (vs : List PV) (hs : Heap) (s : S97_3) (h : dec97_3 vs hs = some s) : vs = s.enc ∧ hs = s.encH := by
  unfold dec97_3 at h
  split at h
  · obtain rfl := Option.some.inj h
    exact ⟨rfl, rfl⟩
  · simp at h
def st97_3 {ρ : Type} (s : S97_3) (next : S97_3 → Option ρ) (out : S97_3 → Option ρ) : Option ρ := (match (decide (s.i < (s.l.length : Int))) with | true => (match (inB s.i s.l.length) with | true => (match (inB s.i s.l.length) with | true => (match (inB s.i s.l.length) with | true => (match (inB s.i s.l.length) with | true => next ⟨s.l, (wr (s.i + 1)), s.h10, s.h11, ⟨(imin s.low.x ((atD .spot s.l s.i).x)), (imin s.low.y ((atD .spot s.l s.i).y))⟩, ⟨(imax s.high.x ((atD .spot s.l s.i).x)), (imax s.high.y ((atD .spot s.l s.i).y))⟩⟩ | false => none) | false => none) | false => none) | false => none) | false => out s)
def out97_3 (k : Ex → List PV → Heap → Option R) (o : S97_3) : Option R := k (.exit 0) o.enc o.encH
def fuel97_3 (s : S97_3) : Nat := s.l.length + 1
def K97 : Keep := fun _ => ([0, 2, 3, 4, 5, 6], [10, 11, 12, 13])
def L97 : Lam := loopL dec97_3 st97_3 fuel97_3 out97_3
noncomputable def b97_3 : Code := (loopsOf (bodyOf Try.f97)).getD 0 .skip
theorem step97_3 (gl : Gl) (j : Nat) (s : S97_3) (k : Ex → List PV → Heap → Option R) : unroll (cx gl (mkG []) [] []) K97 L97 Try.f97.ntmps (Try.f97.ntmps + 16) b97_3 (j + 1) s.enc s.encH k = st97_3 s (fun s' => unroll (cx gl (mkG []) [] []) K97 L97 Try.f97.ntmps (Try.f97.ntmps + 16) b97_3 j s'.enc s'.encH k) (out97_3 k) := by kernel_rfl
theorem l97 (gl : Gl) : LoopsOk (cx gl (mkG []) [] []) K97 L97 Try.f97.ntmps (Try.f97.ntmps + 16) (loopsOf (bodyOf Try.f97)) := by
  refine loopsOk_list (l := [b97_3]) (by kernel_rfl) ?_
  exact List.forall_mem_cons.2 ⟨loopOk1 (fuel := fuel97_3) (enc := S97_3.enc) (encH := S97_3.encH) (fun vs hs k => by kernel_rfl) dec_enc97_3 (step97_3 gl ), (fun _ h => by simp at h)⟩
def lowB (l : List Spot) : Nat → Spot
  | 0 => atN .spot l 0
  | k + 1 => ⟨imin (lowB l k).x (atN .spot l k).x, imin (lowB l k).y (atN .spot l k).y⟩
def highB (l : List Spot) : Nat → Spot
  | 0 => atN .spot l 0
  | k + 1 => ⟨imax (highB l k).x (atN .spot l k).x, imax (highB l k).y (atN .spot l k).y⟩
def lowA (l : List Spot) : Spot := lowB l l.length
def highA (l : List Spot) : Spot := highB l l.length
theorem loop102 (l : List Spot) (hx : l.length ≤ 1000000) (h1 : 1 ≤ l.length) : (iter st102_3 (fuel102_3 (⟨l, (l.length : Int), 0, (atD .spot l 0), (atD .spot l 0)⟩ : S102_3)) (⟨l, (l.length : Int), 0, (atD .spot l 0), (atD .spot l 0)⟩ : S102_3) fun o3 => an (.tup [.agg [.i .i64 o3.low.x, .i .i64 o3.low.y], .agg [.i .i64 o3.high.x, .i .i64 o3.high.y]])) = an (.tup [.agg [.i .i64 (lowA l).x, .i .i64 (lowA l).y], .agg [.i .i64 (highA l).x, .i .i64 (highA l).y]]) := by
  refine (iter_each (step := st102_3) (F := fun k => (⟨l, (l.length : Int), (k : Int), lowB l k, highB l k⟩ : S102_3)) (last := (⟨l, (l.length : Int), (l.length : Int), lowA l, highA l⟩ : S102_3)) l.length _ (fun k next hk => ?_) (fun next => ?_) _ (Nat.le_refl _) _ rfl).trans rfl
  · simp only [st102_3, decLt_nat hk, inB_nat hk, wr_succ (show k ≤ 1000000 by omega), atD, Int.toNat_natCast]
    rfl
  · simp only [st102_3, decLt_self]
    rfl
theorem loop97 (l : List Spot) (hx : l.length ≤ 1000000) (h1 : 1 ≤ l.length) : (iter st97_3 (fuel97_3 (⟨l, 0, ⟨0, 0⟩, ⟨0, 0⟩, (atD .spot l 0), (atD .spot l 0)⟩ : S97_3)) (⟨l, 0, ⟨0, 0⟩, ⟨0, 0⟩, (atD .spot l 0), (atD .spot l 0)⟩ : S97_3) fun o3 => an (.tup [.agg [.i .i64 o3.low.x, .i .i64 o3.low.y], .agg [.i .i64 o3.high.x, .i .i64 o3.high.y]])) = an (.tup [.agg [.i .i64 (lowA l).x, .i .i64 (lowA l).y], .agg [.i .i64 (highA l).x, .i .i64 (highA l).y]]) := by
  refine (iter_each (step := st97_3) (F := fun k => (⟨l, (k : Int), ⟨0, 0⟩, ⟨0, 0⟩, lowB l k, highB l k⟩ : S97_3)) (last := (⟨l, (l.length : Int), ⟨0, 0⟩, ⟨0, 0⟩, lowA l, highA l⟩ : S97_3)) l.length _ (fun k next hk => ?_) (fun next => ?_) _ (Nat.le_refl _) _ rfl).trans rfl
  · simp only [st97_3, decLt_nat hk, inB_nat hk, wr_succ (show k ≤ 1000000 by omega), atD, Int.toNat_natCast]
    rfl
  · simp only [st97_3, decLt_self]
    rfl
theorem fn102 : FnOk 102 Try.f102 := ⟨by kernel_rfl, by kernel_rfl, by kernel_rfl, by kernel_rfl⟩
theorem e102 (gl : Gl) (l : List Spot) : evFn (cx gl (mkG []) [] []) K102 L102 Try.f102 [.sl .spot l] noObjs = (match (inB 0 l.length) with | true => (match (inB 0 l.length) with | true => (iter st102_3 (fuel102_3 (⟨l, (l.length : Int), 0, (atD .spot l 0), (atD .spot l 0)⟩ : S102_3)) (⟨l, (l.length : Int), 0, (atD .spot l 0), (atD .spot l 0)⟩ : S102_3) fun o3 => an (.tup [.agg [.i .i64 o3.low.x, .i .i64 o3.low.y], .agg [.i .i64 o3.high.x, .i .i64 o3.high.y]])) | false => none) | false => none) := by kernel_rfl
def F102 : List PV → Option (Bool × PV)
  | [.sl .spot l] => some ((decide (1 ≤ l.length) && decide (l.length ≤ 1000000)), .tup [.agg [.i .i64 ((lowA l).x), .i .i64 ((lowA l).y)], .agg [.i .i64 ((highA l).x), .i .i64 ((highA l).y)]])
  | _ => none
theorem s102 {gl : Gl} : Sum gl 102 F102 := by
  intro ps r h
  unfold F102 at h
  split at h
  · rename_i l
    obtain ⟨hc, rfl⟩ := Prod.mk.inj (Option.some.inj h)
    refine call_by (K := K102) (L := L102) (bxs := []) (ows := []) (GOk.nil) fn102 (l102 gl) (by kernel_rfl) (evF_some ((e102 gl l).trans ?_))
    rw [Bool.and_eq_true, decide_eq_true_eq, decide_eq_true_eq] at hc
    rw [show inB 0 l.length = true from inB_nat (k := 0) (by omega)]
    exact loop102 l hc.2 hc.1
  · simp at h
theorem fn97 : FnOk 97 Try.f97 := ⟨by kernel_rfl, by kernel_rfl, by kernel_rfl, by kernel_rfl⟩
theorem e97 (gl : Gl) (l : List Spot) : evFn (cx gl (mkG []) [] []) K97 L97 Try.f97 [.sl .spot l] noObjs = (match (inB 0 l.length) with | true => (match (inB 0 l.length) with | true => (iter st97_3 (fuel97_3 (⟨l, 0, ⟨0, 0⟩, ⟨0, 0⟩, (atD .spot l 0), (atD .spot l 0)⟩ : S97_3)) (⟨l, 0, ⟨0, 0⟩, ⟨0, 0⟩, (atD .spot l 0), (atD .spot l 0)⟩ : S97_3) fun o3 => an (.tup [.agg [.i .i64 o3.low.x, .i .i64 o3.low.y], .agg [.i .i64 o3.high.x, .i .i64 o3.high.y]])) | false => none) | false => none) := by kernel_rfl
def F97 : List PV → Option (Bool × PV)
  | [.sl .spot l] => some ((decide (1 ≤ l.length) && decide (l.length ≤ 1000000)), .tup [.agg [.i .i64 ((lowA l).x), .i .i64 ((lowA l).y)], .agg [.i .i64 ((highA l).x), .i .i64 ((highA l).y)]])
  | _ => none
theorem s97 {gl : Gl} : Sum gl 97 F97 := by
  intro ps r h
  unfold F97 at h
  split at h
  · rename_i l
    obtain ⟨hc, rfl⟩ := Prod.mk.inj (Option.some.inj h)
    refine call_by (K := K97) (L := L97) (bxs := []) (ows := []) (GOk.nil) fn97 (l97 gl) (by kernel_rfl) (evF_some ((e97 gl l).trans ?_))
    rw [Bool.and_eq_true, decide_eq_true_eq, decide_eq_true_eq] at hc
    rw [show inB 0 l.length = true from inB_nat (k := 0) (by omega)]
    exact loop97 l hc.2 hc.1
  · simp at h
theorem fn95 : FnOk 95 Try.f95 := ⟨by kernel_rfl, by kernel_rfl, by kernel_rfl, by kernel_rfl⟩
def meetV (a : List Spot) (b : List Spot) (n : Int) : Bool := bif (bif (bif (decide ((wr (((lowA a).x) - n)) ≤ ((highA b).x))) then (decide (((lowA b).x) ≤ (wr (((highA a).x) + n)))) else false) then (decide ((wr (((lowA a).y) - n)) ≤ ((highA b).y))) else false) then (decide (((lowA b).y) ≤ (wr (((highA a).y) + n)))) else false
def c95 (a : List Spot) (b : List Spot) : Bool := (decide (1 ≤ a.length) && decide (a.length ≤ 1000000)) && (decide (1 ≤ b.length) && decide (b.length ≤ 1000000))
theorem e95 (gl : Gl) (a : List Spot) (b : List Spot) (n : Int) : evFn (cx gl (mkG [(102, F102)]) [] []) noK noL Try.f95 [.sl .spot a, .sl .spot b, .i .i64 n] noObjs = (match (decide (1 ≤ a.length) && decide (a.length ≤ 1000000)) with | true => (match (decide (1 ≤ b.length) && decide (b.length ≤ 1000000)) with | true => an (.b (bif (bif (bif (decide ((wr (((lowA a).x) - n)) ≤ ((highA b).x))) then (decide (((lowA b).x) ≤ (wr (((highA a).x) + n)))) else false) then (decide ((wr (((lowA a).y) - n)) ≤ ((highA b).y))) else false) then (decide (((lowA b).y) ≤ (wr (((highA a).y) + n)))) else false)) | false => none) | false => none) := by kernel_rfl
def F95 : List PV → Option (Bool × PV)
  | [.sl .spot a, .sl .spot b, .i .i64 n] => some ((c95 a b), .b (meetV a b n))
  | _ => none
theorem s95 {gl : Gl} : Sum gl 95 F95 := by
  intro ps r h
  unfold F95 at h
  split at h
  · rename_i a b n
    obtain ⟨hc, rfl⟩ := Prod.mk.inj (Option.some.inj h)
    refine call_by (K := noK) (L := noL) (bxs := []) (ows := []) (GOk.cons s102 (GOk.nil)) fn95 (noLoops (by kernel_rfl)) (by kernel_rfl) (evF_some ((e95 gl a b n).trans ?_))
    try unfold meetV at hc
    try unfold c95 at hc
    try unfold meetV
    try unfold c95
    revert hc
    generalize ((decide (1 ≤ a.length) && decide (a.length ≤ 1000000))) = b_
    cases b_
    · intro hc
      exact Bool.noConfusion (show false = true from hc)
    · intro hc
      revert hc
      generalize ((decide (1 ≤ b.length) && decide (b.length ≤ 1000000))) = b_
      cases b_
      · intro hc
        exact Bool.noConfusion (show false = true from hc)
      · intro hc
        rfl
  · simp at h
theorem fn73 : FnOk 73 Try.f73 := ⟨by kernel_rfl, by kernel_rfl, by kernel_rfl, by kernel_rfl⟩
def closeR (a : List Spot) (b : List Spot) (n : Int) : Bool := bif (decide ((imax (wr (((lowA a).x) - n)) ((lowA b).x)) ≤ (imin (wr (((highA a).x) + n)) ((highA b).x)))) then (decide ((imax (wr (((lowA a).y) - n)) ((lowA b).y)) ≤ (imin (wr (((highA a).y) + n)) ((highA b).y)))) else false
def c73 (a : List Spot) (b : List Spot) : Bool := (decide (1 ≤ a.length) && decide (a.length ≤ 1000000)) && (decide (1 ≤ b.length) && decide (b.length ≤ 1000000))
theorem e73 (gl : Gl) (a : List Spot) (b : List Spot) (n : Int) : evFn (cx gl (mkG [(97, F97)]) [] []) noK noL Try.f73 [.sl .spot a, .sl .spot b, .i .i64 n] noObjs = (match (decide (1 ≤ a.length) && decide (a.length ≤ 1000000)) with | true => (match (decide (1 ≤ b.length) && decide (b.length ≤ 1000000)) with | true => an (.b (bif (decide ((imax (wr (((lowA a).x) - n)) ((lowA b).x)) ≤ (imin (wr (((highA a).x) + n)) ((highA b).x)))) then (decide ((imax (wr (((lowA a).y) - n)) ((lowA b).y)) ≤ (imin (wr (((highA a).y) + n)) ((highA b).y)))) else false)) | false => none) | false => none) := by kernel_rfl
def F73 : List PV → Option (Bool × PV)
  | [.sl .spot a, .sl .spot b, .i .i64 n] => some ((c73 a b), .b (closeR a b n))
  | _ => none
theorem s73 {gl : Gl} : Sum gl 73 F73 := by
  intro ps r h
  unfold F73 at h
  split at h
  · rename_i a b n
    obtain ⟨hc, rfl⟩ := Prod.mk.inj (Option.some.inj h)
    refine call_by (K := noK) (L := noL) (bxs := []) (ows := []) (GOk.cons s97 (GOk.nil)) fn73 (noLoops (by kernel_rfl)) (by kernel_rfl) (evF_some ((e73 gl a b n).trans ?_))
    try unfold closeR at hc
    try unfold c73 at hc
    try unfold closeR
    try unfold c73
    revert hc
    generalize ((decide (1 ≤ a.length) && decide (a.length ≤ 1000000))) = b_
    cases b_
    · intro hc
      exact Bool.noConfusion (show false = true from hc)
    · intro hc
      revert hc
      generalize ((decide (1 ≤ b.length) && decide (b.length ≤ 1000000))) = b_
      cases b_
      · intro hc
        exact Bool.noConfusion (show false = true from hc)
      · intro hc
        rfl
  · simp at h
theorem fn89 : FnOk 89 Try.f89 := ⟨by kernel_rfl, by kernel_rfl, by kernel_rfl, by kernel_rfl⟩
def v89 (a : Report) (b : Report) : Bool := bif (namedB a b) then (a.about.toList == b.about.toList) else false
theorem e89 (gl : Gl) (w : Int) (d : Int) (a : Report) (b : Report) : evFn (cx gl (mkG [(90, F90)]) [] []) noK noL Try.f89 [.agg [.i .i64 w, .i .i64 d], .agg [.i .i64 a.kind, .i .i64 a.time, .s a.source, .s a.about, .sl .spot a.wher, .i .i64 a.souls, .i .i64 a.trust], .agg [.i .i64 b.kind, .i .i64 b.time, .s b.source, .s b.about, .sl .spot b.wher, .i .i64 b.souls, .i .i64 b.trust]] noObjs = an (.b (bif (namedB a b) then (a.about.toList == b.about.toList) else false)) := by kernel_rfl
def F89 : List PV → Option (Bool × PV)
  | [.agg [.i .i64 w, .i .i64 d], .agg aL, .agg bL] => (ETy.dec .report aL).bind fun a => (ETy.dec .report bL).bind fun b => some (true, .b (v89 a b))
  | _ => none
theorem s89 {gl : Gl} : Sum gl 89 F89 := by
  intro ps r h
  unfold F89 at h
  split at h
  · rename_i w d aL bL
    obtain ⟨a, ha, h_a⟩ := Option.bind_eq_some_iff.1 h
    obtain rfl := dec_is (by simp) ha
    obtain ⟨b, hb, h_b⟩ := Option.bind_eq_some_iff.1 h_a
    obtain rfl := dec_is (by simp) hb
    obtain ⟨hc, rfl⟩ := Prod.mk.inj (Option.some.inj h_b)
    refine call_by (K := noK) (L := noL) (bxs := []) (ows := []) (GOk.cons s90 (GOk.nil)) fn89 (noLoops (by kernel_rfl)) (by kernel_rfl) (evF_some ((e89 gl w d a b).trans ?_))
    try unfold v89
    rfl
  · simp at h
theorem fn91 : FnOk 91 Try.f91 := ⟨by kernel_rfl, by kernel_rfl, by kernel_rfl, by kernel_rfl⟩
theorem e91 (gl : Gl) (w : Int) (d : Int) (a : Report) (b : Report) : evFn (cx gl (mkG [(90, F90)]) [] []) noK noL Try.f91 [.agg [.i .i64 w, .i .i64 d], .agg [.i .i64 a.kind, .i .i64 a.time, .s a.source, .s a.about, .sl .spot a.wher, .i .i64 a.souls, .i .i64 a.trust], .agg [.i .i64 b.kind, .i .i64 b.time, .s b.source, .s b.about, .sl .spot b.wher, .i .i64 b.souls, .i .i64 b.trust]] noObjs = an (.b (namedB a b)) := by kernel_rfl
def F91 : List PV → Option (Bool × PV)
  | [.agg [.i .i64 w, .i .i64 d], .agg aL, .agg bL] => (ETy.dec .report aL).bind fun a => (ETy.dec .report bL).bind fun b => some (true, .b (namedB a b))
  | _ => none
theorem s91 {gl : Gl} : Sum gl 91 F91 := by
  intro ps r h
  unfold F91 at h
  split at h
  · rename_i w d aL bL
    obtain ⟨a, ha, h_a⟩ := Option.bind_eq_some_iff.1 h
    obtain rfl := dec_is (by simp) ha
    obtain ⟨b, hb, h_b⟩ := Option.bind_eq_some_iff.1 h_a
    obtain rfl := dec_is (by simp) hb
    obtain ⟨hc, rfl⟩ := Prod.mk.inj (Option.some.inj h_b)
    refine call_by (K := noK) (L := noL) (bxs := []) (ows := []) (GOk.cons s90 (GOk.nil)) fn91 (noLoops (by kernel_rfl)) (by kernel_rfl) (evF_some ((e91 gl w d a b).trans ?_))
    rfl
  · simp at h
theorem fn92 : FnOk 92 Try.f92 := ⟨by kernel_rfl, by kernel_rfl, by kernel_rfl, by kernel_rfl⟩
def v92 (w : Int) (a : Report) (b : Report) : Bool := decide ((distV a.time b.time) > w)
theorem e92 (gl : Gl) (w : Int) (d : Int) (a : Report) (b : Report) : evFn (cx gl (mkG [(93, F93)]) [] []) noK noL Try.f92 [.agg [.i .i64 w, .i .i64 d], .agg [.i .i64 a.kind, .i .i64 a.time, .s a.source, .s a.about, .sl .spot a.wher, .i .i64 a.souls, .i .i64 a.trust], .agg [.i .i64 b.kind, .i .i64 b.time, .s b.source, .s b.about, .sl .spot b.wher, .i .i64 b.souls, .i .i64 b.trust]] noObjs = an (.b (decide ((distV a.time b.time) > w))) := by kernel_rfl
def F92 : List PV → Option (Bool × PV)
  | [.agg [.i .i64 w, .i .i64 d], .agg aL, .agg bL] => (ETy.dec .report aL).bind fun a => (ETy.dec .report bL).bind fun b => some (true, .b (v92 w a b))
  | _ => none
theorem s92 {gl : Gl} : Sum gl 92 F92 := by
  intro ps r h
  unfold F92 at h
  split at h
  · rename_i w d aL bL
    obtain ⟨a, ha, h_a⟩ := Option.bind_eq_some_iff.1 h
    obtain rfl := dec_is (by simp) ha
    obtain ⟨b, hb, h_b⟩ := Option.bind_eq_some_iff.1 h_a
    obtain rfl := dec_is (by simp) hb
    obtain ⟨hc, rfl⟩ := Prod.mk.inj (Option.some.inj h_b)
    refine call_by (K := noK) (L := noL) (bxs := []) (ows := []) (GOk.cons s93 (GOk.nil)) fn92 (noLoops (by kernel_rfl)) (by kernel_rfl) (evF_some ((e92 gl w d a b).trans ?_))
    try unfold v92
    rfl
  · simp at h
theorem fn94 : FnOk 94 Try.f94 := ⟨by kernel_rfl, by kernel_rfl, by kernel_rfl, by kernel_rfl⟩
def v94 (d : Int) (a : Report) (b : Report) : Bool := !(meetV a.wher b.wher (wr (Int.tdiv (wr ((wr ((wr (d * (distV a.time b.time))) + 3600)) - 1)) 3600)))
def c94 (a : Report) (b : Report) : Bool := c95 a.wher b.wher
theorem e94 (gl : Gl) (w : Int) (d : Int) (a : Report) (b : Report) : evFn (cx gl (mkG [(93, F93), (95, F95)]) [] []) noK noL Try.f94 [.agg [.i .i64 w, .i .i64 d], .agg [.i .i64 a.kind, .i .i64 a.time, .s a.source, .s a.about, .sl .spot a.wher, .i .i64 a.souls, .i .i64 a.trust], .agg [.i .i64 b.kind, .i .i64 b.time, .s b.source, .s b.about, .sl .spot b.wher, .i .i64 b.souls, .i .i64 b.trust]] noObjs = (match (c95 a.wher b.wher) with | true => an (.b (!(meetV a.wher b.wher (wr (Int.tdiv (wr ((wr ((wr (d * (distV a.time b.time))) + 3600)) - 1)) 3600))))) | false => none) := by kernel_rfl
def F94 : List PV → Option (Bool × PV)
  | [.agg [.i .i64 w, .i .i64 d], .agg aL, .agg bL] => (ETy.dec .report aL).bind fun a => (ETy.dec .report bL).bind fun b => some ((c94 a b), .b (v94 d a b))
  | _ => none
theorem s94 {gl : Gl} : Sum gl 94 F94 := by
  intro ps r h
  unfold F94 at h
  split at h
  · rename_i w d aL bL
    obtain ⟨a, ha, h_a⟩ := Option.bind_eq_some_iff.1 h
    obtain rfl := dec_is (by simp) ha
    obtain ⟨b, hb, h_b⟩ := Option.bind_eq_some_iff.1 h_a
    obtain rfl := dec_is (by simp) hb
    obtain ⟨hc, rfl⟩ := Prod.mk.inj (Option.some.inj h_b)
    refine call_by (K := noK) (L := noL) (bxs := []) (ows := []) (GOk.cons s93 (GOk.cons s95 (GOk.nil))) fn94 (noLoops (by kernel_rfl)) (by kernel_rfl) (evF_some ((e94 gl w d a b).trans ?_))
    try unfold v94 at hc
    try unfold c94 at hc
    try unfold v94
    try unfold c94
    revert hc
    generalize ((c95 a.wher b.wher)) = b_
    cases b_
    · intro hc
      exact Bool.noConfusion (show false = true from hc)
    · intro hc
      rfl
  · simp at h
theorem fn96 : FnOk 96 Try.f96 := ⟨by kernel_rfl, by kernel_rfl, by kernel_rfl, by kernel_rfl⟩
theorem e96 (gl : Gl) (w : Int) (d : Int) (a : Report) (b : Report) : evFn (cx gl (mkG []) [] []) noK noL Try.f96 [.agg [.i .i64 w, .i .i64 d], .agg [.i .i64 a.kind, .i .i64 a.time, .s a.source, .s a.about, .sl .spot a.wher, .i .i64 a.souls, .i .i64 a.trust], .agg [.i .i64 b.kind, .i .i64 b.time, .s b.source, .s b.about, .sl .spot b.wher, .i .i64 b.souls, .i .i64 b.trust]] noObjs = an (.b true) := by kernel_rfl
def F96 : List PV → Option (Bool × PV)
  | [.agg [.i .i64 w, .i .i64 d], .agg aL, .agg bL] => (ETy.dec .report aL).bind fun a => (ETy.dec .report bL).bind fun b => some (true, .b true)
  | _ => none
theorem s96 {gl : Gl} : Sum gl 96 F96 := by
  intro ps r h
  unfold F96 at h
  split at h
  · rename_i w d aL bL
    obtain ⟨a, ha, h_a⟩ := Option.bind_eq_some_iff.1 h
    obtain rfl := dec_is (by simp) ha
    obtain ⟨b, hb, h_b⟩ := Option.bind_eq_some_iff.1 h_a
    obtain rfl := dec_is (by simp) hb
    obtain ⟨hc, rfl⟩ := Prod.mk.inj (Option.some.inj h_b)
    refine call_by (K := noK) (L := noL) (bxs := []) (ows := []) (GOk.nil) fn96 (noLoops (by kernel_rfl)) (by kernel_rfl) (evF_some ((e96 gl w d a b).trans ?_))
    rfl
  · simp at h
theorem fn71 : FnOk 71 Try.f71 := ⟨by kernel_rfl, by kernel_rfl, by kernel_rfl, by kernel_rfl⟩
theorem e71 (gl : Gl)  : evFn (cx gl (mkG []) [] []) noK noL Try.f71 [] noObjs = an (.agg [.i .i64 1, .fn (.func 89) [] [], .i .i64 2, .fn (.func 91) [] [], .i .i64 3, .fn (.func 92) [] [], .i .i64 4, .fn (.func 94) [] [], .i .i64 5, .fn (.func 96) [] []]) := by kernel_rfl
def F71 : List PV → Option (Bool × PV)
  | [] => some (true, .agg [.i .i64 1, .fn (.func 89) [] [], .i .i64 2, .fn (.func 91) [] [], .i .i64 3, .fn (.func 92) [] [], .i .i64 4, .fn (.func 94) [] [], .i .i64 5, .fn (.func 96) [] []])
  | _ => none
theorem s71 {gl : Gl} : Sum gl 71 F71 := by
  intro ps r h
  unfold F71 at h
  split at h
  · skip
    obtain ⟨hc, rfl⟩ := Prod.mk.inj (Option.some.inj h)
    refine call_by (K := noK) (L := noL) (bxs := []) (ows := []) (GOk.nil) fn71 (noLoops (by kernel_rfl)) (by kernel_rfl) (evF_some ((e71 gl ).trans ?_))
    rfl
  · simp at h
def K48 : Keep := fun _ => ([3, 4, 5, 7, 10, 11], [])
noncomputable def b48_3 : Code := (loopsOf (bodyOf Try.f48)).getD 0 .skip
noncomputable def L48 (gl : Gl) : Lam := unrollL (cx gl (mkG [(71, F71), (89, F89), (91, F91), (92, F92), (94, F94), (96, F96)]) [] []) K48 Try.f48.ntmps (Try.f48.ntmps + 16) 6
theorem l48 (gl : Gl) : LoopsOk (cx gl (mkG [(71, F71), (89, F89), (91, F91), (92, F92), (94, F94), (96, F96)]) [] []) K48 (L48 gl) Try.f48.ntmps (Try.f48.ntmps + 16) (loopsOf (bodyOf Try.f48)) := by
  refine loopsOk_list (l := [b48_3]) (by kernel_rfl) ?_
  exact List.forall_mem_cons.2 ⟨loopOk_unroll (by kernel_rfl) (by kernel_rfl), fun _ h => by simp at h⟩
theorem fn50 : FnOk 50 Try.f50 := ⟨by kernel_rfl, by kernel_rfl, by kernel_rfl, by kernel_rfl⟩
def cmpR (a : Report) (b : Report) (w : Int) (d : Int) : Int := bif (bif (!(a.about.toList == (⟨#[]⟩ : ByteArray).toList)) then (!(b.about.toList == (⟨#[]⟩ : ByteArray).toList)) else false) then (bif (a.about.toList == b.about.toList) then 1 else 2) else (bif (decide ((apartR a.time b.time) > w)) then 3 else (bif (!(closeR a.wher b.wher (wr (Int.tdiv (wr ((wr (d * (apartR a.time b.time))) + 3599)) 3600)))) then 4 else 5))
def c50 (a : Report) (b : Report) (w : Int) : Bool := bif (bif (!(a.about.toList == (⟨#[]⟩ : ByteArray).toList)) then (!(b.about.toList == (⟨#[]⟩ : ByteArray).toList)) else false) then true else (bif (decide ((apartR a.time b.time) > w)) then true else (c73 a.wher b.wher))
theorem e50 (gl : Gl) (a : Report) (b : Report) (w : Int) (d : Int) : evFn (cx gl (mkG [(72, F72), (73, F73)]) [] []) noK noL Try.f50 [.agg [.i .i64 a.kind, .i .i64 a.time, .s a.source, .s a.about, .sl .spot a.wher, .i .i64 a.souls, .i .i64 a.trust], .agg [.i .i64 b.kind, .i .i64 b.time, .s b.source, .s b.about, .sl .spot b.wher, .i .i64 b.souls, .i .i64 b.trust], .i .i64 w, .i .i64 d] noObjs = (match (bif (!(a.about.toList == (⟨#[]⟩ : ByteArray).toList)) then (!(b.about.toList == (⟨#[]⟩ : ByteArray).toList)) else false) with | true => (match (a.about.toList == b.about.toList) with | true => an (.i .i64 1) | false => an (.i .i64 2)) | false => (match (decide ((apartR a.time b.time) > w)) with | true => an (.i .i64 3) | false => (match (c73 a.wher b.wher) with | true => (match (!(closeR a.wher b.wher (wr (Int.tdiv (wr ((wr (d * (apartR a.time b.time))) + 3599)) 3600)))) with | true => an (.i .i64 4) | false => an (.i .i64 5)) | false => none))) := by kernel_rfl
def F50 : List PV → Option (Bool × PV)
  | [.agg aL, .agg bL, .i .i64 w, .i .i64 d] => (ETy.dec .report aL).bind fun a => (ETy.dec .report bL).bind fun b => some ((c50 a b w), .i .i64 (cmpR a b w d))
  | _ => none
theorem s50 {gl : Gl} : Sum gl 50 F50 := by
  intro ps r h
  unfold F50 at h
  split at h
  · rename_i aL bL w d
    obtain ⟨a, ha, h_a⟩ := Option.bind_eq_some_iff.1 h
    obtain rfl := dec_is (by simp) ha
    obtain ⟨b, hb, h_b⟩ := Option.bind_eq_some_iff.1 h_a
    obtain rfl := dec_is (by simp) hb
    obtain ⟨hc, rfl⟩ := Prod.mk.inj (Option.some.inj h_b)
    refine call_by (K := noK) (L := noL) (bxs := []) (ows := []) (GOk.cons s72 (GOk.cons s73 (GOk.nil))) fn50 (noLoops (by kernel_rfl)) (by kernel_rfl) (evF_some ((e50 gl a b w d).trans ?_))
    try unfold cmpR at hc
    try unfold c50 at hc
    try unfold cmpR
    try unfold c50
    revert hc
    generalize ((bif (!(a.about.toList == (⟨#[]⟩ : ByteArray).toList)) then (!(b.about.toList == (⟨#[]⟩ : ByteArray).toList)) else false)) = b_
    cases b_
    · intro hc
      revert hc
      generalize ((decide ((apartR a.time b.time) > w))) = b_
      cases b_
      · intro hc
        revert hc
        generalize ((c73 a.wher b.wher)) = b_
        cases b_
        · intro hc
          exact Bool.noConfusion (show false = true from hc)
        · intro hc
          revert hc
          generalize ((!(closeR a.wher b.wher (wr (Int.tdiv (wr ((wr (d * (apartR a.time b.time))) + 3599)) 3600))))) = b_
          cases b_
          · intro hc
            rfl
          · intro hc
            rfl
      · intro hc
        rfl
    · intro hc
      revert hc
      generalize ((a.about.toList == b.about.toList)) = b_
      cases b_
      · intro hc
        rfl
      · intro hc
        rfl
  · simp at h
end Go.Proofs.Ytklgaodfakdjpaa.Ev
