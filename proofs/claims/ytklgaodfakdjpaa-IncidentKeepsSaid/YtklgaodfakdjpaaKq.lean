/- What reads as data stands for pure values: the arguments of a statement. -/
import Derived.Test.YtklgaodfakdjpaaKp
import Derived.OpenShut
import Derived.DataElems
import Derived.ChangeOld
import Derived.RowKit
import Derived.ChangeArms
set_option linter.unusedVariables false
set_option linter.unusedSimpArgs false
set_option maxRecDepth 100000
namespace Go.Proofs.Ytklgaodfakdjpaa.Ev
open Go Go.RowKit Go.Proofs

inductive Lf
  | i (k : IntKind) | b | s | sl (T : ETy)
  deriving DecidableEq
def ETy.lfs : ETy → List Lf
  | .int => [.i .i64]
  | .u8 => [.i .u8]
  | .bool => [.b]
  | .spot => [.i .i64, .i .i64]
  | .leg => List.replicate 8 (.i .i64)
  | .box => List.replicate 7 (.i .i64)
  | .front => List.replicate 8 (.i .i64)
  | .way => List.replicate 3 (.i .i64)
  | .unit => .s :: List.replicate 11 (.i .i64)
  | .arr3 => List.replicate 3 (.i .i64)
  | .report => [.i .i64, .i .i64, .s, .s, .sl .spot, .i .i64, .i .i64]
  | .proof => [.i .i64, .i .i64, .i .i64, .s, .sl .spot, .i .i64]
  | .act => [.i .i64, .i .i64, .i .i64, .i .i64, .i .i64, .s, .s, .sl .spot, .i .i64, .i .i64, .i .i64, .i .i64, .i .i64, .s, .sl .spot, .i .i64]
  | .entry => [.i .i64, .i .i64, .s, .s, .sl .spot, .i .i64, .i .i64, .i .i64]
  | .proved => []
def flatsG (C : Cx) (F : TypeId → Option (List Lf)) (sz : Nat) : List (Nat × TypeId) → Nat → Option (List Lf)
  | [], o => if o = sz then some [] else none
  | f :: fs, o => if f.1 = o then (match F f.2, C.tab f.2 with
    | some ls, some ti => if ls.length = ti.size then (match flatsG C F sz fs (o + ti.size) with
      | some r => some (ls ++ r)
      | none => none) else none
    | _, _ => none) else none
/-- The leaves of a type. -/
def flatT (C : Cx) : Nat → TypeId → Option (List Lf)
  | 0, _ => none
  | n + 1, t => match C.tab t with
    | some ⟨_, _, .int k⟩ => some [.i k]
    | some ⟨_, _, .bool⟩ => some [.b]
    | some ⟨_, _, .str⟩ => some [.s]
    | some ⟨_, _, .slice e⟩ => match C.ety e with
      | some T => match flatT C n e with
        | some ls => if ls = T.lfs ∧ T ≠ .proved then some [.sl T] else none
        | none => none
      | none => none
    | some ⟨sz, _, .struct fs⟩ => flatsG C (flatT C n) sz fs 0
    | some ⟨sz, _, .arr m e⟩ => match flatT C n e, C.tab e with
      | some ls, some ti => if ls.length = ti.size ∧ sz = m * ti.size then some (List.replicate m ls).flatten else none
      | _, _ => none
    | _ => none

def γn (_ : Nat) : Option Value := none
def okW (w : World) (β : Nat) : Prop := β < w.heap.size
def LeafOk (w : World) : Lf → Value → Prop
  | .i k, v => ∃ n, v = .int k n ∧ (Lit.int k n).wf = true
  | .b, v => ∃ b, v = .bool b
  | .s, v => ∃ s, v = .string s
  | .sl T, v => ∃ xs, Rep w (okW w) γn (.sl T xs) v
def LfsOk (w : World) (ls : List Lf) (vs : List Value) : Prop := vs.length = ls.length ∧ ∀ (j : Nat) l, ls[j]? = some l → LeafOk w l (vs.getD j undef)
/-- The pure value of a leaf. -/
def LfP : Lf → PV → Prop
  | .i k, p => ∃ n, p = .i k n ∧ (Lit.int k n).wf = true
  | .b, p => ∃ b, p = .b b
  | .s, p => ∃ s, p = .s s
  | .sl T, p => ∃ xs, p = .sl T xs
def LfPs : List Lf → List PV → Prop
  | [], [] => True
  | l :: ls, p :: ps => LfP l p ∧ LfPs ls ps
  | _, _ => False
theorem LeafOk.pv {w : World} {l : Lf} {v : Value} (h : LeafOk w l v) : ∃ p, LfP l p ∧ Rep w (okW w) γn p v := by
  cases l with
  | i k => obtain ⟨n, rfl, hw⟩ := h; exact ⟨_, ⟨n, rfl, hw⟩, .i k n⟩
  | b => obtain ⟨n, rfl⟩ := h; exact ⟨_, ⟨n, rfl⟩, .b n⟩
  | s => obtain ⟨n, rfl⟩ := h; exact ⟨_, ⟨n, rfl⟩, .s n⟩
  | sl T => obtain ⟨xs, h⟩ := h; exact ⟨_, ⟨xs, rfl⟩, h⟩
theorem LfsOk.pvs {w : World} : ∀ {ls : List Lf} {vs : List Value}, LfsOk w ls vs → ∃ ps, LfPs ls ps ∧ RepL w (okW w) γn ps vs
  | [], vs, h => ⟨[], trivial, by obtain ⟨h1, _⟩ := h; simp at h1; subst h1; exact .nil⟩
  | l :: ls, [], h => by have := h.1; simp at this
  | l :: ls, v :: vs, h => by
    obtain ⟨p, hp, hr⟩ := (show LeafOk w l v from h.2 0 l rfl).pv
    obtain ⟨ps, hps, hrs⟩ := LfsOk.pvs (ls := ls) (vs := vs) ⟨by have := h.1; simpa using this, fun j l' hl => h.2 (j + 1) l' hl⟩
    exact ⟨p :: ps, ⟨hp, hps⟩, .cons hr hrs⟩
theorem lfp_cons {l : Lf} {ls : List Lf} : ∀ {ps : List PV}, LfPs (l :: ls) ps → ∃ p ps', ps = p :: ps' ∧ LfP l p ∧ LfPs ls ps'
  | [], h => h.elim
  | p :: ps, h => ⟨p, ps, rfl, h.1, h.2⟩
theorem lfp_nil : ∀ {ps : List PV}, LfPs [] ps → ps = []
  | [], _ => rfl
  | _ :: _, h => h.elim
theorem lfs_den {T : ETy} {ps : List PV} (hT : T ≠ .proved) (h : LfPs T.lfs ps) : ∃ x : T.den, ps = T.cells x := by
  cases T with
  | int =>
    obtain ⟨_, _, rfl, ⟨a, rfl, _⟩, h1⟩ := lfp_cons h
    obtain rfl := lfp_nil h1
    exact ⟨a, rfl⟩
  | u8 =>
    obtain ⟨_, _, rfl, ⟨a, rfl, _⟩, h1⟩ := lfp_cons h
    obtain rfl := lfp_nil h1
    exact ⟨a, rfl⟩
  | bool =>
    obtain ⟨_, _, rfl, ⟨a, rfl⟩, h1⟩ := lfp_cons h
    obtain rfl := lfp_nil h1
    exact ⟨a, rfl⟩
  | spot =>
    obtain ⟨_, _, rfl, ⟨a, rfl, _⟩, h1⟩ := lfp_cons h
    obtain ⟨_, _, rfl, ⟨b, rfl, _⟩, h2⟩ := lfp_cons h1
    obtain rfl := lfp_nil h2
    exact ⟨⟨a, b⟩, rfl⟩
  | leg =>
    obtain ⟨_, _, rfl, ⟨a, rfl, _⟩, h1⟩ := lfp_cons h
    obtain ⟨_, _, rfl, ⟨b, rfl, _⟩, h2⟩ := lfp_cons h1
    obtain ⟨_, _, rfl, ⟨c, rfl, _⟩, h3⟩ := lfp_cons h2
    obtain ⟨_, _, rfl, ⟨d, rfl, _⟩, h4⟩ := lfp_cons h3
    obtain ⟨_, _, rfl, ⟨e, rfl, _⟩, h5⟩ := lfp_cons h4
    obtain ⟨_, _, rfl, ⟨f, rfl, _⟩, h6⟩ := lfp_cons h5
    obtain ⟨_, _, rfl, ⟨g, rfl, _⟩, h7⟩ := lfp_cons h6
    obtain ⟨_, _, rfl, ⟨k, rfl, _⟩, h8⟩ := lfp_cons h7
    obtain rfl := lfp_nil h8
    exact ⟨⟨⟨a, b⟩, ⟨c, d⟩, e, f, g, k⟩, rfl⟩
  | box =>
    obtain ⟨_, _, rfl, ⟨a, rfl, _⟩, h1⟩ := lfp_cons h
    obtain ⟨_, _, rfl, ⟨b, rfl, _⟩, h2⟩ := lfp_cons h1
    obtain ⟨_, _, rfl, ⟨c, rfl, _⟩, h3⟩ := lfp_cons h2
    obtain ⟨_, _, rfl, ⟨d, rfl, _⟩, h4⟩ := lfp_cons h3
    obtain ⟨_, _, rfl, ⟨e, rfl, _⟩, h5⟩ := lfp_cons h4
    obtain ⟨_, _, rfl, ⟨f, rfl, _⟩, h6⟩ := lfp_cons h5
    obtain ⟨_, _, rfl, ⟨g, rfl, _⟩, h7⟩ := lfp_cons h6
    obtain rfl := lfp_nil h7
    exact ⟨⟨⟨a, b⟩, ⟨c, d⟩, e, f, g⟩, rfl⟩
  | front =>
    obtain ⟨_, _, rfl, ⟨a, rfl, _⟩, h1⟩ := lfp_cons h
    obtain ⟨_, _, rfl, ⟨b, rfl, _⟩, h2⟩ := lfp_cons h1
    obtain ⟨_, _, rfl, ⟨c, rfl, _⟩, h3⟩ := lfp_cons h2
    obtain ⟨_, _, rfl, ⟨d, rfl, _⟩, h4⟩ := lfp_cons h3
    obtain ⟨_, _, rfl, ⟨e, rfl, _⟩, h5⟩ := lfp_cons h4
    obtain ⟨_, _, rfl, ⟨f, rfl, _⟩, h6⟩ := lfp_cons h5
    obtain ⟨_, _, rfl, ⟨g, rfl, _⟩, h7⟩ := lfp_cons h6
    obtain ⟨_, _, rfl, ⟨k, rfl, _⟩, h8⟩ := lfp_cons h7
    obtain rfl := lfp_nil h8
    exact ⟨⟨a, b, ⟨c, d⟩, ⟨e, f⟩, g, k⟩, rfl⟩
  | way =>
    obtain ⟨_, _, rfl, ⟨a, rfl, _⟩, h1⟩ := lfp_cons h
    obtain ⟨_, _, rfl, ⟨b, rfl, _⟩, h2⟩ := lfp_cons h1
    obtain ⟨_, _, rfl, ⟨c, rfl, _⟩, h3⟩ := lfp_cons h2
    obtain rfl := lfp_nil h3
    exact ⟨⟨⟨a, b⟩, c⟩, rfl⟩
  | unit =>
    obtain ⟨_, _, rfl, ⟨a, rfl⟩, h1⟩ := lfp_cons h
    obtain ⟨_, _, rfl, ⟨b, rfl, _⟩, h2⟩ := lfp_cons h1
    obtain ⟨_, _, rfl, ⟨c, rfl, _⟩, h3⟩ := lfp_cons h2
    obtain ⟨_, _, rfl, ⟨d, rfl, _⟩, h4⟩ := lfp_cons h3
    obtain ⟨_, _, rfl, ⟨e, rfl, _⟩, h5⟩ := lfp_cons h4
    obtain ⟨_, _, rfl, ⟨f, rfl, _⟩, h6⟩ := lfp_cons h5
    obtain ⟨_, _, rfl, ⟨g, rfl, _⟩, h7⟩ := lfp_cons h6
    obtain ⟨_, _, rfl, ⟨k, rfl, _⟩, h8⟩ := lfp_cons h7
    obtain ⟨_, _, rfl, ⟨l, rfl, _⟩, h9⟩ := lfp_cons h8
    obtain ⟨_, _, rfl, ⟨m, rfl, _⟩, h10⟩ := lfp_cons h9
    obtain ⟨_, _, rfl, ⟨n, rfl, _⟩, h11⟩ := lfp_cons h10
    obtain ⟨_, _, rfl, ⟨o, rfl, _⟩, h12⟩ := lfp_cons h11
    obtain rfl := lfp_nil h12
    exact ⟨⟨a, b, c, d, e, f, g, k, ⟨l, m⟩, n, o⟩, rfl⟩
  | arr3 =>
    obtain ⟨_, _, rfl, ⟨a, rfl, _⟩, h1⟩ := lfp_cons h
    obtain ⟨_, _, rfl, ⟨b, rfl, _⟩, h2⟩ := lfp_cons h1
    obtain ⟨_, _, rfl, ⟨c, rfl, _⟩, h3⟩ := lfp_cons h2
    obtain rfl := lfp_nil h3
    exact ⟨⟨a, b, c⟩, rfl⟩
  | report =>
    obtain ⟨_, _, rfl, ⟨a, rfl, _⟩, h1⟩ := lfp_cons h
    obtain ⟨_, _, rfl, ⟨b, rfl, _⟩, h2⟩ := lfp_cons h1
    obtain ⟨_, _, rfl, ⟨c, rfl⟩, h3⟩ := lfp_cons h2
    obtain ⟨_, _, rfl, ⟨d, rfl⟩, h4⟩ := lfp_cons h3
    obtain ⟨_, _, rfl, ⟨e, rfl⟩, h5⟩ := lfp_cons h4
    obtain ⟨_, _, rfl, ⟨f, rfl, _⟩, h6⟩ := lfp_cons h5
    obtain ⟨_, _, rfl, ⟨g, rfl, _⟩, h7⟩ := lfp_cons h6
    obtain rfl := lfp_nil h7
    exact ⟨⟨a, b, c, d, e, f, g⟩, rfl⟩
  | proof =>
    obtain ⟨_, _, rfl, ⟨a, rfl, _⟩, h1⟩ := lfp_cons h
    obtain ⟨_, _, rfl, ⟨b, rfl, _⟩, h2⟩ := lfp_cons h1
    obtain ⟨_, _, rfl, ⟨c, rfl, _⟩, h3⟩ := lfp_cons h2
    obtain ⟨_, _, rfl, ⟨d, rfl⟩, h4⟩ := lfp_cons h3
    obtain ⟨_, _, rfl, ⟨e, rfl⟩, h5⟩ := lfp_cons h4
    obtain ⟨_, _, rfl, ⟨f, rfl, _⟩, h6⟩ := lfp_cons h5
    obtain rfl := lfp_nil h6
    exact ⟨⟨a, b, c, d, e, f⟩, rfl⟩
  | act =>
    obtain ⟨_, _, rfl, ⟨a, rfl, _⟩, h1⟩ := lfp_cons h
    obtain ⟨_, _, rfl, ⟨b, rfl, _⟩, h2⟩ := lfp_cons h1
    obtain ⟨_, _, rfl, ⟨c, rfl, _⟩, h3⟩ := lfp_cons h2
    obtain ⟨_, _, rfl, ⟨d, rfl, _⟩, h4⟩ := lfp_cons h3
    obtain ⟨_, _, rfl, ⟨e, rfl, _⟩, h5⟩ := lfp_cons h4
    obtain ⟨_, _, rfl, ⟨f, rfl⟩, h6⟩ := lfp_cons h5
    obtain ⟨_, _, rfl, ⟨g, rfl⟩, h7⟩ := lfp_cons h6
    obtain ⟨_, _, rfl, ⟨k, rfl⟩, h8⟩ := lfp_cons h7
    obtain ⟨_, _, rfl, ⟨l, rfl, _⟩, h9⟩ := lfp_cons h8
    obtain ⟨_, _, rfl, ⟨m, rfl, _⟩, h10⟩ := lfp_cons h9
    obtain ⟨_, _, rfl, ⟨n, rfl, _⟩, h11⟩ := lfp_cons h10
    obtain ⟨_, _, rfl, ⟨o, rfl, _⟩, h12⟩ := lfp_cons h11
    obtain ⟨_, _, rfl, ⟨p, rfl, _⟩, h13⟩ := lfp_cons h12
    obtain ⟨_, _, rfl, ⟨q, rfl⟩, h14⟩ := lfp_cons h13
    obtain ⟨_, _, rfl, ⟨r, rfl⟩, h15⟩ := lfp_cons h14
    obtain ⟨_, _, rfl, ⟨s, rfl, _⟩, h16⟩ := lfp_cons h15
    obtain rfl := lfp_nil h16
    exact ⟨⟨a, b, c, ⟨d, e, f, g, k, l, m⟩, ⟨n, o, p, q, r, s⟩⟩, rfl⟩
  | entry =>
    obtain ⟨_, _, rfl, ⟨a, rfl, _⟩, h1⟩ := lfp_cons h
    obtain ⟨_, _, rfl, ⟨b, rfl, _⟩, h2⟩ := lfp_cons h1
    obtain ⟨_, _, rfl, ⟨c, rfl⟩, h3⟩ := lfp_cons h2
    obtain ⟨_, _, rfl, ⟨d, rfl⟩, h4⟩ := lfp_cons h3
    obtain ⟨_, _, rfl, ⟨e, rfl⟩, h5⟩ := lfp_cons h4
    obtain ⟨_, _, rfl, ⟨f, rfl, _⟩, h6⟩ := lfp_cons h5
    obtain ⟨_, _, rfl, ⟨g, rfl, _⟩, h7⟩ := lfp_cons h6
    obtain ⟨_, _, rfl, ⟨k, rfl, _⟩, h8⟩ := lfp_cons h7
    obtain rfl := lfp_nil h8
    exact ⟨⟨⟨a, b, c, d, e, f, g⟩, k⟩, rfl⟩
  | proved => exact absurd rfl hT
end Go.Proofs.Ytklgaodfakdjpaa.Ev
/- What reads as data stands for pure values: the arguments of a statement. -/
namespace Go.Proofs.Ytklgaodfakdjpaa.Ev
open Go Go.RowKit Go.Proofs

theorem LfsOk.app {w : World} {ls ms : List Lf} {us vs : List Value} (h : LfsOk w ls us) (k : LfsOk w ms vs) : LfsOk w (ls ++ ms) (us ++ vs) := by
  refine ⟨by simp [h.1, k.1], fun j l hl => ?_⟩
  rcases Nat.lt_or_ge j ls.length with hj | hj
  · rw [List.getElem?_append_left hj] at hl
    have := h.2 j l hl
    simpa [List.getD, List.getElem?_append_left (show j < us.length by rw [h.1]; exact hj)] using this
  · rw [List.getElem?_append_right hj] at hl
    have := k.2 _ l hl
    simpa [List.getD, List.getElem?_append_right (show us.length ≤ j by rw [h.1]; exact hj), h.1] using this
theorem LfsOk.one {w : World} {l : Lf} {v : Value} (h : LeafOk w l v) : LfsOk w [l] [v] := ⟨rfl, fun j l' hl => by
  cases j with
  | zero => simp at hl; subst hl; exact h
  | succ j => simp at hl⟩
theorem exists_list {α : Type} {Q : Nat → α → Prop} : ∀ (n : Nat), (∀ i, i < n → ∃ x, Q i x) → ∃ xs : List α, xs.length = n ∧ ∀ i x, xs[i]? = some x → Q i x
  | 0, _ => ⟨[], rfl, fun i x h => by simp at h⟩
  | n + 1, h => by
    obtain ⟨xs, hl, hx⟩ := exists_list n fun i hi => h i (by omega)
    obtain ⟨y, hy⟩ := h n (by omega)
    refine ⟨xs ++ [y], by simp [hl], fun i x hix => ?_⟩
    rcases Nat.lt_or_ge i n with hi | hi
    · rw [List.getElem?_append_left (by omega)] at hix; exact hx i x hix
    · rw [List.getElem?_append_right (by omega)] at hix
      have : i = n := by
        have := (List.getElem?_eq_some_iff.1 hix).1
        simp at this
        omega
      subst this
      rw [hl, Nat.sub_self] at hix
      simp at hix
      exact hix ▸ hy

section
variable {P : Program} {C : Cx} {H : Type} {enc : TypeId × Value → H} {w : World} {base : Nat} {spare : Nat → Bool} {held : Bool}
theorem cellsOf_tab (c : CxOk P C) {t : TypeId} {ti : TI} (h : C.tab t = some ti) : P.cellsOf t = ti.size := by
  obtain ⟨i, h1, h2, _⟩ := (c.tab t ti h).zero
  unfold Program.cellsOf
  rw [h1]
  exact h2
theorem flats_ok (c : CxOk P C) {n m sz : Nat} {cs : List Value} (hlen : cs.length = sz) (ih : ∀ t ls, flatT C n t = some ls → ∀ cs x, DataW.trod enc P w base spare held m t cs = some x → LfsOk w ls cs) :
    ∀ (fs : List (Nat × TypeId)) (o : Nat) (r : List Lf), flatsG C (flatT C n) sz fs o = some r → (∀ f ∈ fs, ∃ x, DataW.trod enc P w base spare held m f.2 ((cs.drop f.1).take (P.cellsOf f.2)) = some x) → LfsOk w r (cs.drop o)
  | [], o, r, h, _ => by
    unfold flatsG at h
    split at h
    · rename_i ho
      obtain rfl := Option.some.inj h
      rw [ho, ← hlen, List.drop_length]
      exact ⟨rfl, fun j l hl => by simp at hl⟩
    · simp at h
  | f :: fs, o, r, h, hx => by
    unfold flatsG at h
    split at h
    · rename_i ho
      split at h
      · rename_i ls ti hls hti
        split at h
        · rename_i hsz
          split at h
          · rename_i r' hr'
            obtain rfl := Option.some.inj h
            obtain ⟨x, hx1⟩ := hx f (by simp)
            rw [ho, cellsOf_tab c hti] at hx1
            have h1 := ih f.2 ls hls _ x hx1
            have h2 := flats_ok c hlen ih fs (o + ti.size) r' hr' fun g hg => hx g (by simp [hg])
            have e : cs.drop o = (cs.drop o).take ti.size ++ cs.drop (o + ti.size) := by rw [← List.drop_drop, List.take_append_drop]
            rw [e]
            exact h1.app h2
          · simp at h
        · simp at h
      · simp at h
    · simp at h
theorem arr_ok (c : CxOk P C) {m s : Nat} {e : TypeId} {ls : List Lf} {cs : List Value} {k : Nat} (hlen : cs.length = k * s) (hs : P.cellsOf e = s) (ih : ∀ cs x, DataW.trod enc P w base spare held m e cs = some x → LfsOk w ls cs)
    (hx : ∀ i, i < k → ∃ x, DataW.trod enc P w base spare held m e ((cs.drop (i * P.cellsOf e)).take (P.cellsOf e)) = some x) : ∀ d i, i + d = k → LfsOk w (List.replicate d ls).flatten (cs.drop (i * s))
  | 0, i, hi => by
    have : i = k := by omega
    subst this
    rw [← hlen, List.drop_length]
    exact ⟨rfl, fun j l hl => by simp at hl⟩
  | d + 1, i, hi => by
    obtain ⟨x, hx1⟩ := hx i (by omega)
    rw [hs] at hx1
    have h1 := ih _ x hx1
    have h2 := arr_ok c hlen hs ih hx d (i + 1) (by omega)
    have e : cs.drop (i * s) = (cs.drop (i * s)).take s ++ cs.drop ((i + 1) * s) := by
      rw [Nat.add_mul, Nat.one_mul, ← List.drop_drop, List.take_append_drop]
    rw [e, List.replicate_succ, List.flatten_cons]
    exact h1.app h2
theorem slice_ok (c : CxOk P C) {t e : TypeId} {T : ETy} (hd : P.underlying t = some (.slice e)) (hT : C.ety e = some T) (hne : T ≠ .proved) (ih : ∀ (fuel : Nat) (cs : List Value) (x : DataW H × List MemPlace), DataW.trod enc P w base spare held fuel e cs = some x → LfsOk w T.lfs cs)
    {fuel : Nat} {cs : List Value} {x : DataW H × List MemPlace} (hx : DataW.trod enc P w base spare held fuel t cs = some x) : LfsOk w [.sl T] cs := by
  rcases DataW.trod_slice hd hx with ⟨rfl, _⟩ | ⟨a, len, cap, elems, rest, m, rfl, rfl, _, hb, hlc, hcm, hel, hget, _⟩
  · exact .one ⟨[], .sl T [] none 0 (fun _ _ => undef) (by simp) (fun _ => rfl) (fun h => absurd rfl h) (fun i j h => by simp at h) (fun i x j p h => by simp at h)⟩
  · have hsz : P.cellsOf e = T.size := by
      obtain ⟨i, z, h1, h2, _⟩ := c.ety e T hT
      unfold Program.cellsOf
      rw [h1]
      exact h2
    have hblk : ∀ n, (a.add n).block = a.block := fun n => by unfold Addr.add; split <;> rfl
    have hrow : ∀ i, i < len → ∃ xx : T.den, ∃ ci, w.cells? base (a.add (i * T.size)) T.size = some ci ∧ RepL w (okW w) γn (T.cells xx) ci := by
      intro i hi
      have h := hget i hi
      have hlt : i < elems.length := by omega
      rw [List.getElem?_eq_getElem hlt, Option.bind_eq_some_iff, hsz] at h
      obtain ⟨ci, h1, h2⟩ := h
      obtain ⟨ps, h3, h4⟩ := (ih m ci _ h2).pvs
      obtain ⟨xx, rfl⟩ := lfs_den hne h3
      exact ⟨xx, ci, h1, h4⟩
    obtain ⟨xs, hl, hxs⟩ := exists_list len hrow
    subst hl
    have hf : ∀ i x j p, xs[i]? = some x → (T.cells x)[j]? = some p → Rep w (okW w) γn p (((w.cells? base (a.add (i * T.size)) T.size).getD []).getD j undef) := by
      intro i x j p hix hp
      obtain ⟨ci, h1, h2⟩ := hxs i x hix
      rw [h1]
      exact h2.2 j p hp
    refine .one ⟨xs, .sl T xs (some a) cap (fun i j => ((w.cells? base (a.add (i * T.size)) T.size).getD []).getD j undef) hlc (fun h => by simp at h) (fun hne' => ⟨a, rfl, ?_, fun i j hi hj => ?_⟩) (fun i j hi hj => ?_) hf⟩
    · have h0 : 0 < xs.length := by cases xs with
        | nil => exact absurd rfl hne'
        | cons => simp
      obtain ⟨ci, h1, _⟩ := hxs 0 xs[0] (by simp)
      have := World.cells?_block h1 (size_pos T)
      rwa [hblk] at this
    · obtain ⟨ci, h1, h2⟩ := hxs i xs[i] (by simp)
      obtain ⟨_, h3, h4⟩ := World.cells?_some h1
      have := h4 j hj
      rw [Addr.add_add] at this
      rw [this, h1]
      simp only [Option.getD_some, List.getD]
      rw [List.getElem?_eq_getElem (by omega)]
      rfl
    · have hjl : j < (T.cells xs[i]).length := by rw [cells_len]; exact hj
      have hp : (T.cells xs[i])[j]? = some (T.cells xs[i])[j] := List.getElem?_eq_getElem hjl
      exact (hf i xs[i] j _ (by simp) hp).oneCell (List.all_eq_true.1 (cells_one T xs[i]) _ (List.getElem_mem hjl)) (fun i v h => by simp [γn] at h)
theorem read_ok (c : CxOk P C) : ∀ (n : Nat) (t : TypeId) (ls : List Lf), flatT C n t = some ls → ∀ (fuel : Nat) (cs : List Value) (x : DataW H × List MemPlace), DataW.trod enc P w base spare held fuel t cs = some x → LfsOk w ls cs
  | 0, t, ls, h, _, _, _, _ => by simp [flatT] at h
  | n + 1, t, ls, h, fuel, cs, x, hx => by
    unfold flatT at h
    split at h
    · rename_i sz zp k ht
      obtain rfl := Option.some.inj h
      obtain ⟨d, hd, hk⟩ := (c.tab t _ ht).und
      cases d <;> simp [sk] at hk
      subst hk
      obtain ⟨m, rfl, _, hw⟩ := DataW.trod_int hd hx
      exact .one ⟨m, rfl, hw⟩
    · rename_i sz zp ht
      obtain rfl := Option.some.inj h
      obtain ⟨d, hd, hk⟩ := (c.tab t _ ht).und
      cases d <;> simp [sk] at hk
      obtain ⟨m, rfl, _⟩ := DataW.trod_bool hd hx
      exact .one ⟨m, rfl⟩
    · rename_i sz zp ht
      obtain rfl := Option.some.inj h
      obtain ⟨d, hd, hk⟩ := (c.tab t _ ht).und
      cases d <;> simp [sk] at hk
      obtain ⟨m, rfl, _⟩ := DataW.trod_string hd hx
      exact .one ⟨m, rfl⟩
    · rename_i sz zp e ht
      split at h
      · rename_i T hT
        split at h
        · rename_i ls' hls
          split at h
          · rename_i hcc
            obtain rfl := Option.some.inj h
            obtain ⟨rfl, hne⟩ := hcc
            obtain ⟨d, hd, hk⟩ := (c.tab t _ ht).und
            cases d <;> simp [sk] at hk
            subst hk
            exact slice_ok c hd hT hne (fun fuel cs x hx => read_ok c n _ _ hls fuel cs x hx) hx
          · simp at h
        · simp at h
      · simp at h
    · rename_i sz zp fs ht
      obtain ⟨d, hd, hk⟩ := (c.tab t _ ht).und
      cases d <;> simp [sk] at hk
      rename_i F
      subst hk
      obtain ⟨xs, m, rfl, _, hlen, hxl, hget⟩ := DataW.trod_struct hd hx
      rw [cellsOf_tab c ht] at hlen
      have := flats_ok (enc := enc) (w := w) (base := base) (spare := spare) (held := held) (m := m) c hlen (fun t ls h cs x hx => read_ok c n t ls h m cs x hx) _ 0 ls h fun f hf => by
        obtain ⟨g, hg, rfl⟩ := List.mem_map.1 hf
        obtain ⟨i, hi⟩ := List.getElem?_of_mem hg
        have := hget i g (by simpa using hi)
        have hlt : i < xs.length := by rw [hxl]; have := (List.getElem?_eq_some_iff.1 hi).1; simpa using this
        exact ⟨xs[i], by rw [this]; simp [hlt]⟩
      simpa using this
    · rename_i sz zp k e ht
      split at h
      · rename_i ls' ti hls hti
        split at h
        · rename_i hcc
          obtain rfl := Option.some.inj h
          obtain ⟨d, hd, hk⟩ := (c.tab t _ ht).und
          cases d <;> simp [sk] at hk
          obtain ⟨rfl, rfl⟩ := hk
          obtain ⟨xs, m, rfl, _, hlen, hxl, hget⟩ := DataW.trod_array hd hx
          rw [cellsOf_tab c ht] at hlen
          have := arr_ok (enc := enc) (w := w) (base := base) (spare := spare) (held := held) (m := m) c (hlen.trans hcc.2) (cellsOf_tab c hti) (fun cs x hx => read_ok c n _ _ hls m cs x hx) (fun i hi => by
            have := hget i hi
            exact ⟨xs[i], by rw [this]; simp [hxl, hi]⟩) _ 0 (Nat.zero_add _)
          simpa using this
        · simp at h
      · simp at h
    · simp at h
end
end Go.Proofs.Ytklgaodfakdjpaa.Ev
