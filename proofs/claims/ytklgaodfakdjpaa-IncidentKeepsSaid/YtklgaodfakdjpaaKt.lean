/- What is told of the types, and that it is so. -/
import Derived.Test.YtklgaodfakdjpaaKa
import Derived.Test.YtklgaodfakdjpaaProg
import Derived.Test.YtklgaodfakdjpaaKe
import Derived.Test.YtklgaodfakdjpaaChecked
import Derived.Laws.StructEq
set_option linter.unusedVariables false
set_option maxRecDepth 100000
namespace Go.Proofs.Ytklgaodfakdjpaa.Ev
open Go
def assoc {α : Type} : List (Nat × α) → Nat → Option α
  | [], _ => none
  | (a, x) :: r, t => match Nat.beq a t with
    | true => some x
    | false => assoc r t
def tabL : List (Nat × TI) := [
  (3, ⟨1, [.i .i64 0], (.int .i64)⟩),
  (4, ⟨1, [.b false], .bool⟩),
  (5, ⟨1, [.i .u8 0], (.int .u8)⟩),
  (9, ⟨1, [.s ⟨#[]⟩], .str⟩),
  (21, ⟨1, [.i .i32 0], (.int .i32)⟩),
  (22, ⟨1, [.nsl 44 .act], (.slice 44)⟩),
  (25, ⟨1, [.nilp], .ptr⟩),
  (26, ⟨1, [.i .i64 0], (.int .i64)⟩),
  (30, ⟨1, [.nsl 40 .report], (.slice 40)⟩),
  (31, ⟨1, [.nsl 3 .int], (.slice 3)⟩),
  (32, ⟨1, [.nsl 4 .bool], (.slice 4)⟩),
  (33, ⟨1, [.nsl 42 .proof], (.slice 42)⟩),
  (35, ⟨6, [.i .i64 0, .i .i64 0, .sl .report [], .sl .int [], .sl .bool [], .sl .proof []], (.struct [(0, 3), (1, 3), (2, 30), (3, 31), (4, 32), (5, 33)])⟩),
  (38, ⟨1, [.nsl 71 .spot], (.slice 71)⟩),
  (40, ⟨7, [.i .i64 0, .i .i64 0, .s ⟨#[]⟩, .s ⟨#[]⟩, .sl .spot [], .i .i64 0, .i .i64 0], (.struct [(0, 3), (1, 3), (2, 9), (3, 9), (4, 38), (5, 3), (6, 3)])⟩),
  (42, ⟨6, [.i .i64 0, .i .i64 0, .i .i64 0, .s ⟨#[]⟩, .sl .spot [], .i .i64 0], (.struct [(0, 3), (1, 3), (2, 3), (3, 9), (4, 38), (5, 3)])⟩),
  (44, ⟨16, [.i .i64 0, .i .i64 0, .i .i64 0, .i .i64 0, .i .i64 0, .s ⟨#[]⟩, .s ⟨#[]⟩, .sl .spot [], .i .i64 0, .i .i64 0, .i .i64 0, .i .i64 0, .i .i64 0, .s ⟨#[]⟩, .sl .spot [], .i .i64 0], (.struct [(0, 3), (1, 3), (2, 3), (3, 40), (10, 42)])⟩),
  (50, ⟨2, [.i .i64 0, .i .i64 0], (.struct [(0, 3), (1, 3)])⟩),
  (51, ⟨1, [.nsl 89 .entry], (.slice 89)⟩),
  (52, ⟨1, [.nsl 102 .proved], (.slice 102)⟩),
  (54, ⟨6, [.i .i64 0, .i .i64 0, .b false, .nsl 89 .entry, .nsl 4 .bool, .nsl 102 .proved], (.struct [(0, 50), (2, 4), (3, 51), (4, 32), (5, 52)])⟩),
  (55, ⟨1, [.nils], (.slice 25)⟩),
  (71, ⟨2, [.i .i64 0, .i .i64 0], (.struct [(0, 3), (1, 3)])⟩),
  (85, ⟨1, [.nilf], .func⟩),
  (89, ⟨8, [.i .i64 0, .i .i64 0, .s ⟨#[]⟩, .s ⟨#[]⟩, .sl .spot [], .i .i64 0, .i .i64 0, .i .i64 0], (.struct [(0, 40), (7, 3)])⟩),
  (96, ⟨1, [.nili], .iface⟩),
  (99, ⟨1, [.i .i64 0], (.struct [(0, 3)])⟩),
  (102, ⟨3, [.i .i64 0, .i .i64 0, .nili], (.struct [(0, 3), (1, 3), (2, 96)])⟩),
  (114, ⟨1, [.nilf], .func⟩),
  (116, ⟨2, [.i .i64 0, .nilf], (.struct [(0, 3), (1, 114)])⟩),
  (117, ⟨10, [.i .i64 0, .nilf, .i .i64 0, .nilf, .i .i64 0, .nilf, .i .i64 0, .nilf, .i .i64 0, .nilf], (.arr 5 116)⟩),
  (122, ⟨1, [.s ⟨#[]⟩], (.struct [(0, 9)])⟩),
  (123, ⟨1, [.s ⟨#[]⟩], (.struct [(0, 9)])⟩),
  (124, ⟨1, [.s ⟨#[]⟩], (.struct [(0, 9)])⟩),
  (126, ⟨2, [.sl .spot [], .i .i64 0], (.struct [(0, 38), (1, 3)])⟩),
  (128, ⟨1, [.nilf], .func⟩),
  (129, ⟨1, [.nilf], .func⟩),
  (133, ⟨1, [.nilf], .func⟩),
  (135, ⟨1, [.nilf], .func⟩)]
def tab : TypeId → Option TI := assoc tabL
def etyL : List (Nat × ETy) := [(3, .int), (4, .bool), (40, .report), (42, .proof), (44, .act), (71, .spot), (89, .entry), (102, .proved)]
def ety : TypeId → Option ETy := assoc etyL
end Go.Proofs.Ytklgaodfakdjpaa.Ev
/- What is told of the types is so: the proofs. -/
set_option linter.unusedSimpArgs false
namespace Go.Proofs.Ytklgaodfakdjpaa.Ev
open Go Go.RowKit

theorem assoc_mem {α : Type} : ∀ (l : List (Nat × α)) {t : Nat} {x : α}, assoc l t = some x → (t, x) ∈ l
  | [], t, x, h => by simp [assoc] at h
  | (a, y) :: l, t, x, h => by
    unfold assoc at h
    split at h
    · rename_i hb
      obtain rfl := Nat.eq_of_beq_eq_true hb
      obtain rfl := Option.some.inj h
      exact List.mem_cons_self ..
    · exact List.mem_cons_of_mem _ (assoc_mem l h)
def fsOk (P : Program) : Sk → Bool
  | .struct l => l.all fun x => (P.info? x.2).isSome
  | _ => true
theorem TabOk.mk' {P : Program} {t : TypeId} {ti : TI} (h1 : (P.info? t).map (fun i => (i.size, i.zero)) = some (ti.size, some (zval ti))) (h2 : (P.underlying t).map sk = some ti.k)
    (h3 : (ti.zp.all plain && Nat.beq ti.zp.length ti.size && (ti.k.agg || Nat.beq ti.zp.length 1) && fsOk P ti.k) = true) : TabOk P t ti := by
  simp only [Bool.and_eq_true, Bool.or_eq_true] at h3
  obtain ⟨⟨⟨a, b⟩, c⟩, d⟩ := h3
  rw [Option.map_eq_some_iff] at h1 h2
  obtain ⟨i, e1, e2⟩ := h1
  obtain ⟨u, e3, e4⟩ := h2
  simp only [Prod.mk.injEq] at e2
  refine ⟨⟨i, e1, e2.1, e2.2⟩, ?_, ⟨u, e3, e4⟩, a, Nat.eq_of_beq_eq_true b, fun l hl x hx => ?_⟩
  · rcases c with c | c
    · exact .inl c
    · obtain ⟨q, hq⟩ := List.length_eq_one_iff.1 (Nat.eq_of_beq_eq_true c)
      exact .inr ⟨q, hq⟩
  · rw [hl] at d
    exact List.all_eq_true.1 d x hx
theorem ElemOk.mk' {P : Program} {e : TypeId} {T : ETy} (h : (P.info? e).map (fun i => (i.size, i.bytes, i.zero.map fun z => z.cells.size)) = some (T.size, T.bytes, some T.size)) : ElemOk P e T := by
  rw [Option.map_eq_some_iff] at h
  obtain ⟨i, e1, e2⟩ := h
  simp only [Prod.mk.injEq, Option.map_eq_some_iff] at e2
  obtain ⟨e2, e3, z, e4, e5⟩ := e2
  exact ⟨i, z, e1, e2, e3, e4, e5⟩
/-! '==' of structs -/
section
variable {P : Program} {d : Nat} {xs ys : Array Value} {f : Field} {fs : List Field} {a b : Value} {r s : Bool} {w : World}
theorem eqf_cons (hn : (f.name == "_") = false) (ha : (Go.part f.type xs f.offset).run P w = .ok a w) (hb : (Go.part f.type ys f.offset).run P w = .ok b w) (he : (Op.equalIn d f.type a b).run P w = .ok r w) (hr : (Op.eqFields d xs ys fs).run P w = .ok s w) : (Op.eqFields d xs ys (f :: fs)).run P w = .ok (r && s) w := by
  have hn' : f.name ≠ "_" := by simpa using hn
  rw [Op.eqFields]
  simp only [if_pos hn', Sem.run_bind, ha, hb, he, Result.andThen_ok]
  cases r
  · simp
  · simpa using hr
theorem eqf_nil : (Op.eqFields d xs ys []).run P w = .ok true w := by simp [Op.eqFields]
theorem eqA_of {t : TypeId} {fs : Array Field} (hu : P.underlying t = some (.struct fs)) (hp : P.stoodInHeld t = false) (h : (Op.eqFields d xs ys fs.toList).run P w = .ok r w) : (Op.equalIn (d + 1) t (.agg xs) (.agg ys)).run P w = .ok r w := by
  have hf : P.fieldsOf t = fs := by simp [Program.fieldsOf, hu]
  rw [run_equalIn_struct (P := P) w d t xs ys (by rw [hf]; exact hu) hp, hf]
  exact h
end
/-- Fields that are whole numbers, or structs of such: so many cells. -/
def step0 (P : Program) : Nat → List Field → Option Nat
  | off, [] => some off
  | off, f :: fs => match f.name == "_", Nat.beq f.offset off, P.underlying f.type with
    | false, true, some (.int .i64) => step0 P (off + 1) fs
    | _, _, _ => none
def step1 (P : Program) : Nat → List Field → Option Nat
  | off, [] => some off
  | off, f :: fs => match f.name == "_", Nat.beq f.offset off, P.underlying f.type with
    | false, true, some (.int .i64) => step1 P (off + 1) fs
    | false, true, some (.struct gs) => match P.info? f.type, P.stoodInHeld f.type, step0 P 0 gs.toList with
        | some i, false, some n => match Nat.beq i.size n with
          | true => step1 P (off + n) fs
          | false => none
        | _, _, _ => none
    | _, _, _ => none
def ints (xa : List Int) : Array Value := (xa.map (Value.int .i64)).toArray
section
variable {P : Program} {w : World}
theorem eqInts_dec : ∀ (xa xb : List Int), eqInts xa xb = decide (xa = xb)
  | [], [] => rfl
  | [], b :: xb => rfl
  | a :: xa, [] => rfl
  | a :: xa, b :: xb => by
    simp only [eqInts, eqInts_dec xa xb, List.cons.injEq]
    by_cases h : a = b <;> simp [h]
theorem part_int {t : TypeId} {k : IntKind} (h : P.underlying t = some (.int k)) (xa : List Int) (off : Nat) (a : Int) (ha : xa[off]? = some a) : (Go.part t (ints xa) off).run P w = .ok (.int .i64 a) w := by
  have hag : (isAgg t).run P w = .ok false w := by
    unfold isAgg
    rw [Sem.run_bind, run_underlying h w]
    rfl
  simp [Go.part, hag, ints, ha]
theorem part_struct {t : TypeId} {fs : Array Field} (h : P.underlying t = some (.struct fs)) {i : TypeInfo} (hi : P.info? t = some i) (xa : List Int) (off : Nat) : (Go.part t (ints xa) off).run P w = .ok (.agg (ints ((xa.drop off).take i.size))) w := by
  have hag : (isAgg t).run P w = .ok true w := by
    unfold isAgg
    rw [Sem.run_bind, run_underlying h w]
    rfl
  have hsz : (sizeOf t).run P w = .ok i.size w := by simp [sizeOf, typeInfo, hi]
  simp only [Go.part, Sem.run_bind, hag, Result.andThen_ok, hsz, if_true, Sem.run_pure]
  congr 2
  apply Array.ext'
  simp [ints, Array.toList_extract, List.extract_eq_take_drop, List.map_take, List.map_drop]
theorem seg_cons (xa : List Int) (off n : Nat) (a : Int) (ha : xa[off]? = some a) (hn : off < n) : (xa.take n).drop off = a :: (xa.take n).drop (off + 1) := by
  have hl : off < xa.length := (List.getElem?_eq_some_iff.1 ha).1
  rw [List.drop_eq_getElem_cons (by simp; omega)]
  congr 1
  rw [List.getElem?_eq_getElem hl] at ha
  simpa using Option.some.inj ha
theorem step0_le : ∀ (fs : List Field) (off n : Nat), step0 P off fs = some n → off ≤ n
  | [], off, n, h => by simp only [step0, Option.some.injEq] at h; omega
  | f :: fs, off, n, h => by
    unfold step0 at h
    split at h
    · have := step0_le fs _ n h; omega
    · simp at h
theorem step0_ok : ∀ (fs : List Field) (off n : Nat), step0 P off fs = some n → ∀ (D : Nat) (xa xb : List Int), n ≤ xa.length → n ≤ xb.length → (Op.eqFields (D + 1) (ints xa) (ints xb) fs).run P w = .ok (decide ((xa.take n).drop off = (xb.take n).drop off)) w
  | [], off, n, h, D, xa, xb, ha, hb => by
    simp only [step0, Option.some.injEq] at h
    subst h
    rw [eqf_nil]
    simp [List.drop_eq_nil_of_le]
  | f :: fs, off, n, h, D, xa, xb, ha, hb => by
    unfold step0 at h
    split at h
    · rename_i h1 h2 h3
      have hle := step0_le fs _ n h
      have ea : xa[off]? = some xa[off] := List.getElem?_eq_getElem (by omega)
      have eb : xb[off]? = some xb[off] := List.getElem?_eq_getElem (by omega)
      have ho := Nat.eq_of_beq_eq_true h2
      rw [eqf_cons h1 (by rw [ho]; exact part_int h3 xa off _ ea) (by rw [ho]; exact part_int h3 xb off _ eb) (run_equalIn_int w D f.type .i64 .i64 _ _ h3) (step0_ok fs _ n h D xa xb ha hb), seg_cons xa off n _ ea (by omega), seg_cons xb off n _ eb (by omega)]
      congr 1
      simp only [List.cons.injEq]
      by_cases hh : xa[off] = xb[off] <;> simp [hh]
    · simp at h
theorem step1_le : ∀ (fs : List Field) (off n : Nat), step1 P off fs = some n → off ≤ n
  | [], off, n, h => by simp only [step1, Option.some.injEq] at h; omega
  | f :: fs, off, n, h => by
    unfold step1 at h
    split at h
    · have := step1_le fs _ n h; omega
    · split at h
      · split at h
        · have := step1_le fs _ n h; omega
        · simp at h
      · simp at h
    · simp at h
theorem seg_append (xa : List Int) (off k n : Nat) (h : off + k ≤ n) (hn : n ≤ xa.length) : (xa.take n).drop off = (xa.drop off).take k ++ (xa.take n).drop (off + k) := by
  rw [← List.take_append_drop k ((xa.take n).drop off), List.drop_drop]
  congr 1
  rw [List.drop_take, List.take_take]
  congr 1
  omega
theorem step1_ok : ∀ (fs : List Field) (off n : Nat), step1 P off fs = some n → ∀ (D : Nat) (xa xb : List Int), n ≤ xa.length → n ≤ xb.length → (Op.eqFields (D + 2) (ints xa) (ints xb) fs).run P w = .ok (decide ((xa.take n).drop off = (xb.take n).drop off)) w
  | [], off, n, h, D, xa, xb, ha, hb => by
    simp only [step1, Option.some.injEq] at h
    subst h
    rw [eqf_nil]
    simp [List.drop_eq_nil_of_le]
  | f :: fs, off, n, h, D, xa, xb, ha, hb => by
    unfold step1 at h
    split at h
    · rename_i h1 h2 h3
      have hle := step1_le fs _ n h
      have ea : xa[off]? = some xa[off] := List.getElem?_eq_getElem (by omega)
      have eb : xb[off]? = some xb[off] := List.getElem?_eq_getElem (by omega)
      have ho := Nat.eq_of_beq_eq_true h2
      rw [eqf_cons h1 (by rw [ho]; exact part_int h3 xa off _ ea) (by rw [ho]; exact part_int h3 xb off _ eb) (run_equalIn_int w (D + 1) f.type .i64 .i64 _ _ h3) (step1_ok fs _ n h D xa xb ha hb), seg_cons xa off n _ ea (by omega), seg_cons xb off n _ eb (by omega)]
      congr 1
      simp only [List.cons.injEq]
      by_cases hh : xa[off] = xb[off] <;> simp [hh]
    · rename_i gs h1 h2 h3
      split at h
      · rename_i i k hi hst h0
        split at h
        · rename_i hsz
          have hsz := Nat.eq_of_beq_eq_true hsz
          have ho := Nat.eq_of_beq_eq_true h2
          have hle := step1_le fs _ n h
          have hla : ((xa.drop off).take k).length = k := by simp; omega
          have hlb : ((xb.drop off).take k).length = k := by simp; omega
          have hin := eqA_of h3 hst (step0_ok (w := w) gs.toList 0 k h0 D ((xa.drop off).take k) ((xb.drop off).take k) (by omega) (by omega))
          rw [List.drop_zero, List.drop_zero, List.take_take, List.take_take, Nat.min_self] at hin
          rw [eqf_cons h1 (by rw [ho]; exact part_struct h3 hi xa off) (by rw [ho]; exact part_struct h3 hi xb off) (by rw [hsz]; exact hin) (step1_ok fs _ n h D xa xb ha hb), seg_append xa off k n hle ha, seg_append xb off k n hle hb]
          congr 1
          have : ((xa.drop off).take k ++ (xa.take n).drop (off + k) = (xb.drop off).take k ++ (xb.take n).drop (off + k)) ↔ ((xa.drop off).take k = (xb.drop off).take k ∧ (xa.take n).drop (off + k) = (xb.take n).drop (off + k)) :=
            ⟨fun hh => List.append_inj hh (by omega), fun ⟨h1, h2⟩ => by rw [h1, h2]⟩
          rw [decide_eq_decide.2 this, Bool.decide_and]
        · simp at h
      · simp at h
    · simp at h
theorem EqOk.mk' {t : TypeId} {n : Nat} (h1 : P.eqGuardType P.depth t = false) (h2 : P.stoodInHeld t = false) (h3 : (match P.underlying t with | some (.struct fs) => step1 P 0 fs.toList | _ => none) = some n) : EqOk P t n := by
  intro w xa xb ha hb
  refine ⟨h1, ?_⟩
  split at h3
  · rename_i fs hu
    have := eqA_of (P := P) (t := t) hu h2 (step1_ok (w := w) fs.toList 0 n h3 9997 xa xb (by omega) (by omega))
    rw [List.drop_zero, List.drop_zero, List.take_of_length_le (by omega), List.take_of_length_le (by omega), ← eqInts_dec] at this
    exact this
  · simp at h3
end

open Go
theorem tk3 : TabOk Try.prog 3 ⟨1, [.i .i64 0], (.int .i64)⟩ := .mk' (by kernel_rfl) (by kernel_rfl) (by kernel_rfl)
theorem tk4 : TabOk Try.prog 4 ⟨1, [.b false], .bool⟩ := .mk' (by kernel_rfl) (by kernel_rfl) (by kernel_rfl)
theorem tk5 : TabOk Try.prog 5 ⟨1, [.i .u8 0], (.int .u8)⟩ := .mk' (by kernel_rfl) (by kernel_rfl) (by kernel_rfl)
theorem tk9 : TabOk Try.prog 9 ⟨1, [.s ⟨#[]⟩], .str⟩ := .mk' (by kernel_rfl) (by kernel_rfl) (by kernel_rfl)
theorem tk21 : TabOk Try.prog 21 ⟨1, [.i .i32 0], (.int .i32)⟩ := .mk' (by kernel_rfl) (by kernel_rfl) (by kernel_rfl)
theorem tk22 : TabOk Try.prog 22 ⟨1, [.nsl 44 .act], (.slice 44)⟩ := .mk' (by kernel_rfl) (by kernel_rfl) (by kernel_rfl)
theorem tk25 : TabOk Try.prog 25 ⟨1, [.nilp], .ptr⟩ := .mk' (by kernel_rfl) (by kernel_rfl) (by kernel_rfl)
theorem tk26 : TabOk Try.prog 26 ⟨1, [.i .i64 0], (.int .i64)⟩ := .mk' (by kernel_rfl) (by kernel_rfl) (by kernel_rfl)
theorem tk30 : TabOk Try.prog 30 ⟨1, [.nsl 40 .report], (.slice 40)⟩ := .mk' (by kernel_rfl) (by kernel_rfl) (by kernel_rfl)
theorem tk31 : TabOk Try.prog 31 ⟨1, [.nsl 3 .int], (.slice 3)⟩ := .mk' (by kernel_rfl) (by kernel_rfl) (by kernel_rfl)
theorem tk32 : TabOk Try.prog 32 ⟨1, [.nsl 4 .bool], (.slice 4)⟩ := .mk' (by kernel_rfl) (by kernel_rfl) (by kernel_rfl)
theorem tk33 : TabOk Try.prog 33 ⟨1, [.nsl 42 .proof], (.slice 42)⟩ := .mk' (by kernel_rfl) (by kernel_rfl) (by kernel_rfl)
theorem tk35 : TabOk Try.prog 35 ⟨6, [.i .i64 0, .i .i64 0, .sl .report [], .sl .int [], .sl .bool [], .sl .proof []], (.struct [(0, 3), (1, 3), (2, 30), (3, 31), (4, 32), (5, 33)])⟩ := .mk' (by kernel_rfl) (by kernel_rfl) (by kernel_rfl)
theorem tk38 : TabOk Try.prog 38 ⟨1, [.nsl 71 .spot], (.slice 71)⟩ := .mk' (by kernel_rfl) (by kernel_rfl) (by kernel_rfl)
theorem tk40 : TabOk Try.prog 40 ⟨7, [.i .i64 0, .i .i64 0, .s ⟨#[]⟩, .s ⟨#[]⟩, .sl .spot [], .i .i64 0, .i .i64 0], (.struct [(0, 3), (1, 3), (2, 9), (3, 9), (4, 38), (5, 3), (6, 3)])⟩ := .mk' (by kernel_rfl) (by kernel_rfl) (by kernel_rfl)
theorem tk42 : TabOk Try.prog 42 ⟨6, [.i .i64 0, .i .i64 0, .i .i64 0, .s ⟨#[]⟩, .sl .spot [], .i .i64 0], (.struct [(0, 3), (1, 3), (2, 3), (3, 9), (4, 38), (5, 3)])⟩ := .mk' (by kernel_rfl) (by kernel_rfl) (by kernel_rfl)
theorem tk44 : TabOk Try.prog 44 ⟨16, [.i .i64 0, .i .i64 0, .i .i64 0, .i .i64 0, .i .i64 0, .s ⟨#[]⟩, .s ⟨#[]⟩, .sl .spot [], .i .i64 0, .i .i64 0, .i .i64 0, .i .i64 0, .i .i64 0, .s ⟨#[]⟩, .sl .spot [], .i .i64 0], (.struct [(0, 3), (1, 3), (2, 3), (3, 40), (10, 42)])⟩ := .mk' (by kernel_rfl) (by kernel_rfl) (by kernel_rfl)
theorem tk50 : TabOk Try.prog 50 ⟨2, [.i .i64 0, .i .i64 0], (.struct [(0, 3), (1, 3)])⟩ := .mk' (by kernel_rfl) (by kernel_rfl) (by kernel_rfl)
theorem tk51 : TabOk Try.prog 51 ⟨1, [.nsl 89 .entry], (.slice 89)⟩ := .mk' (by kernel_rfl) (by kernel_rfl) (by kernel_rfl)
theorem tk52 : TabOk Try.prog 52 ⟨1, [.nsl 102 .proved], (.slice 102)⟩ := .mk' (by kernel_rfl) (by kernel_rfl) (by kernel_rfl)
theorem tk54 : TabOk Try.prog 54 ⟨6, [.i .i64 0, .i .i64 0, .b false, .nsl 89 .entry, .nsl 4 .bool, .nsl 102 .proved], (.struct [(0, 50), (2, 4), (3, 51), (4, 32), (5, 52)])⟩ := .mk' (by kernel_rfl) (by kernel_rfl) (by kernel_rfl)
theorem tk55 : TabOk Try.prog 55 ⟨1, [.nils], (.slice 25)⟩ := .mk' (by kernel_rfl) (by kernel_rfl) (by kernel_rfl)
theorem tk71 : TabOk Try.prog 71 ⟨2, [.i .i64 0, .i .i64 0], (.struct [(0, 3), (1, 3)])⟩ := .mk' (by kernel_rfl) (by kernel_rfl) (by kernel_rfl)
theorem tk85 : TabOk Try.prog 85 ⟨1, [.nilf], .func⟩ := .mk' (by kernel_rfl) (by kernel_rfl) (by kernel_rfl)
theorem tk89 : TabOk Try.prog 89 ⟨8, [.i .i64 0, .i .i64 0, .s ⟨#[]⟩, .s ⟨#[]⟩, .sl .spot [], .i .i64 0, .i .i64 0, .i .i64 0], (.struct [(0, 40), (7, 3)])⟩ := .mk' (by kernel_rfl) (by kernel_rfl) (by kernel_rfl)
theorem tk96 : TabOk Try.prog 96 ⟨1, [.nili], .iface⟩ := .mk' (by kernel_rfl) (by kernel_rfl) (by kernel_rfl)
theorem tk99 : TabOk Try.prog 99 ⟨1, [.i .i64 0], (.struct [(0, 3)])⟩ := .mk' (by kernel_rfl) (by kernel_rfl) (by kernel_rfl)
theorem tk102 : TabOk Try.prog 102 ⟨3, [.i .i64 0, .i .i64 0, .nili], (.struct [(0, 3), (1, 3), (2, 96)])⟩ := .mk' (by kernel_rfl) (by kernel_rfl) (by kernel_rfl)
theorem tk114 : TabOk Try.prog 114 ⟨1, [.nilf], .func⟩ := .mk' (by kernel_rfl) (by kernel_rfl) (by kernel_rfl)
theorem tk116 : TabOk Try.prog 116 ⟨2, [.i .i64 0, .nilf], (.struct [(0, 3), (1, 114)])⟩ := .mk' (by kernel_rfl) (by kernel_rfl) (by kernel_rfl)
theorem tk117 : TabOk Try.prog 117 ⟨10, [.i .i64 0, .nilf, .i .i64 0, .nilf, .i .i64 0, .nilf, .i .i64 0, .nilf, .i .i64 0, .nilf], (.arr 5 116)⟩ := .mk' (by kernel_rfl) (by kernel_rfl) (by kernel_rfl)
theorem tk122 : TabOk Try.prog 122 ⟨1, [.s ⟨#[]⟩], (.struct [(0, 9)])⟩ := .mk' (by kernel_rfl) (by kernel_rfl) (by kernel_rfl)
theorem tk123 : TabOk Try.prog 123 ⟨1, [.s ⟨#[]⟩], (.struct [(0, 9)])⟩ := .mk' (by kernel_rfl) (by kernel_rfl) (by kernel_rfl)
theorem tk124 : TabOk Try.prog 124 ⟨1, [.s ⟨#[]⟩], (.struct [(0, 9)])⟩ := .mk' (by kernel_rfl) (by kernel_rfl) (by kernel_rfl)
theorem tk126 : TabOk Try.prog 126 ⟨2, [.sl .spot [], .i .i64 0], (.struct [(0, 38), (1, 3)])⟩ := .mk' (by kernel_rfl) (by kernel_rfl) (by kernel_rfl)
theorem tk128 : TabOk Try.prog 128 ⟨1, [.nilf], .func⟩ := .mk' (by kernel_rfl) (by kernel_rfl) (by kernel_rfl)
theorem tk129 : TabOk Try.prog 129 ⟨1, [.nilf], .func⟩ := .mk' (by kernel_rfl) (by kernel_rfl) (by kernel_rfl)
theorem tk133 : TabOk Try.prog 133 ⟨1, [.nilf], .func⟩ := .mk' (by kernel_rfl) (by kernel_rfl) (by kernel_rfl)
theorem tk135 : TabOk Try.prog 135 ⟨1, [.nilf], .func⟩ := .mk' (by kernel_rfl) (by kernel_rfl) (by kernel_rfl)
theorem tabOk (t : TypeId) (ti : TI) (h : tab t = some ti) : TabOk Try.prog t ti := by
  have : ∀ x ∈ tabL, TabOk Try.prog x.1 x.2 := List.forall_mem_cons.2 ⟨tk3, List.forall_mem_cons.2 ⟨tk4, List.forall_mem_cons.2 ⟨tk5, List.forall_mem_cons.2 ⟨tk9, List.forall_mem_cons.2 ⟨tk21, List.forall_mem_cons.2 ⟨tk22, List.forall_mem_cons.2 ⟨tk25, List.forall_mem_cons.2 ⟨tk26, List.forall_mem_cons.2 ⟨tk30, List.forall_mem_cons.2 ⟨tk31, List.forall_mem_cons.2 ⟨tk32, List.forall_mem_cons.2 ⟨tk33, List.forall_mem_cons.2 ⟨tk35, List.forall_mem_cons.2 ⟨tk38, List.forall_mem_cons.2 ⟨tk40, List.forall_mem_cons.2 ⟨tk42, List.forall_mem_cons.2 ⟨tk44, List.forall_mem_cons.2 ⟨tk50, List.forall_mem_cons.2 ⟨tk51, List.forall_mem_cons.2 ⟨tk52, List.forall_mem_cons.2 ⟨tk54, List.forall_mem_cons.2 ⟨tk55, List.forall_mem_cons.2 ⟨tk71, List.forall_mem_cons.2 ⟨tk85, List.forall_mem_cons.2 ⟨tk89, List.forall_mem_cons.2 ⟨tk96, List.forall_mem_cons.2 ⟨tk99, List.forall_mem_cons.2 ⟨tk102, List.forall_mem_cons.2 ⟨tk114, List.forall_mem_cons.2 ⟨tk116, List.forall_mem_cons.2 ⟨tk117, List.forall_mem_cons.2 ⟨tk122, List.forall_mem_cons.2 ⟨tk123, List.forall_mem_cons.2 ⟨tk124, List.forall_mem_cons.2 ⟨tk126, List.forall_mem_cons.2 ⟨tk128, List.forall_mem_cons.2 ⟨tk129, List.forall_mem_cons.2 ⟨tk133, List.forall_mem_cons.2 ⟨tk135, (fun _ h => by simp at h)⟩⟩⟩⟩⟩⟩⟩⟩⟩⟩⟩⟩⟩⟩⟩⟩⟩⟩⟩⟩⟩⟩⟩⟩⟩⟩⟩⟩⟩⟩⟩⟩⟩⟩⟩⟩⟩⟩⟩
  exact this _ (assoc_mem tabL h)
theorem ek3 : ElemOk Try.prog 3 .int := .mk' (by kernel_rfl)
theorem ek4 : ElemOk Try.prog 4 .bool := .mk' (by kernel_rfl)
theorem ek40 : ElemOk Try.prog 40 .report := .mk' (by kernel_rfl)
theorem ek42 : ElemOk Try.prog 42 .proof := .mk' (by kernel_rfl)
theorem ek44 : ElemOk Try.prog 44 .act := .mk' (by kernel_rfl)
theorem ek71 : ElemOk Try.prog 71 .spot := .mk' (by kernel_rfl)
theorem ek89 : ElemOk Try.prog 89 .entry := .mk' (by kernel_rfl)
theorem ek102 : ElemOk Try.prog 102 .proved := .mk' (by kernel_rfl)
theorem etyOk (e : TypeId) (T : ETy) (h : ety e = some T) : ElemOk Try.prog e T := by
  have : ∀ x ∈ etyL, ElemOk Try.prog x.1 x.2 := List.forall_mem_cons.2 ⟨ek3, List.forall_mem_cons.2 ⟨ek4, List.forall_mem_cons.2 ⟨ek40, List.forall_mem_cons.2 ⟨ek42, List.forall_mem_cons.2 ⟨ek44, List.forall_mem_cons.2 ⟨ek71, List.forall_mem_cons.2 ⟨ek89, List.forall_mem_cons.2 ⟨ek102, (fun _ h => by simp at h)⟩⟩⟩⟩⟩⟩⟩⟩
  exact this _ (assoc_mem etyL h)
theorem qk50 : EqOk Try.prog 50 2 := .mk' (by kernel_rfl) (by kernel_rfl) (by kernel_rfl)
theorem qk71 : EqOk Try.prog 71 2 := .mk' (by kernel_rfl) (by kernel_rfl) (by kernel_rfl)
theorem qk99 : EqOk Try.prog 99 1 := .mk' (by kernel_rfl) (by kernel_rfl) (by kernel_rfl)
def eqs : TypeId → Nat := fun t => (assoc [(50, 3), (71, 3), (99, 2)] t).getD 0
theorem eqsOk (t : TypeId) (n : Nat) (h : eqs t = n + 1) : EqOk Try.prog t n := by
  have : ∀ x ∈ ([(50, 3), (71, 3), (99, 2)] : List (Nat × Nat)), ∀ n, x.2 = n + 1 → EqOk Try.prog x.1 n := List.forall_mem_cons.2 ⟨fun n hn => by obtain rfl := Nat.succ.inj hn; exact qk50, List.forall_mem_cons.2 ⟨fun n hn => by obtain rfl := Nat.succ.inj hn; exact qk71, List.forall_mem_cons.2 ⟨fun n hn => by obtain rfl := Nat.succ.inj hn; exact qk99, (fun _ h => by simp at h)⟩⟩⟩
  unfold eqs at h
  cases ha : assoc [(50, 3), (71, 3), (99, 2)] t with
  | none => rw [ha] at h; simp at h
  | some m => rw [ha] at h; exact this _ (assoc_mem _ ha) n h
def meths : TypeId → String → Option FuncId
  | 99, "cresset/incident.fits" => some 119
  | 122, "cresset/incident.fits" => some 120
  | 123, "cresset/incident.fits" => some 121
  | 124, "cresset/incident.fits" => some 122
  | 126, "cresset/incident.fits" => some 123
  | _, _ => none
theorem methsOk (t : TypeId) (m : String) (f : FuncId) (h : meths t m = some f) (v : Value) (w : World) : (method (Try.prog.types.size + Made.depth) t v m).run Try.prog w = .ok (f, v) w := by
  unfold meths at h
  split at h
  · obtain rfl := Option.some.inj h
    kernel_rfl
  · obtain rfl := Option.some.inj h
    kernel_rfl
  · obtain rfl := Option.some.inj h
    kernel_rfl
  · obtain rfl := Option.some.inj h
    kernel_rfl
  · obtain rfl := Option.some.inj h
    kernel_rfl
  · simp at h
theorem methsOk0 (t : TypeId) (m : String) (f : FuncId) (h : meths t m = some f) (v : Value) (w : World) : (nilAhead (Try.prog.types.size + Made.depth) t v m).run Try.prog w = .ok (some false) w := by
  unfold meths at h
  split at h
  · obtain rfl := Option.some.inj h
    kernel_rfl
  · obtain rfl := Option.some.inj h
    kernel_rfl
  · obtain rfl := Option.some.inj h
    kernel_rfl
  · obtain rfl := Option.some.inj h
    kernel_rfl
  · obtain rfl := Option.some.inj h
    kernel_rfl
  · simp at h
end Go.Proofs.Ytklgaodfakdjpaa.Ev
