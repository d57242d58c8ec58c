/- What the operations do: those that make, read and write memory. -/
import Derived.Test.YtklgaodfakdjpaaKa
import Derived.Great.BuildSlice
import Derived.Maps.AppendAt
import Derived.CallsIn
import Derived.Lib.ConvBytes
import Derived.Laws.StructEq
set_option linter.unusedVariables false
set_option linter.unusedSimpArgs false
namespace Go.Proofs.Ytklgaodfakdjpaa.Ev
open Go Go.RowKit

/-! ### 1. What is told of the program is so -/
def toV : PV → Value
  | .b x => .bool x
  | .i k x => .int k x
  | .s x => .string x
  | .nilp => .pointer none
  | .nilf => .nilFunc
  | .nili => .nilIface
  | _ => .slice none 0 0
def plain : PV → Bool
  | .b _ => true
  | .i _ _ => true
  | .s _ => true
  | .nilp => true
  | .nilf => true
  | .nili => true
  | .nils => true
  | .sl T xs => xs.isEmpty
  | .nsl _ _ => true
  | _ => false
def zval (ti : TI) : Value := match ti.k.agg with
  | true => .agg (ti.zp.map toV).toArray
  | false => match ti.zp with
    | [p] => toV p
    | _ => .tuple #[]
structure TabOk (P : Program) (t : TypeId) (ti : TI) : Prop where
  zero : ∃ i, P.info? t = some i ∧ i.size = ti.size ∧ i.zero = some (zval ti)
  one : ti.k.agg = true ∨ ∃ p, ti.zp = [p]
  und : ∃ d, P.underlying t = some d ∧ sk d = ti.k
  zp : ti.zp.all plain = true
  len : ti.zp.length = ti.size
  fs : ∀ l, ti.k = .struct l → ∀ x ∈ l, (P.info? x.2).isSome = true
theorem toV_cells (p : PV) : (toV p).cells = #[toV p] := by cases p <;> rfl
theorem TabOk.info {P : Program} {t : TypeId} {ti : TI} (h : TabOk P t ti) : ∃ i z, P.info? t = some i ∧ i.size = ti.size ∧ i.zero = some z ∧ z.cells = (ti.zp.map toV).toArray := by
  obtain ⟨i, h1, h2, h3⟩ := h.zero
  refine ⟨i, _, h1, h2, h3, ?_⟩
  unfold zval
  rcases h.one with ha | ⟨p, hp⟩
  · rw [ha]; rfl
  · cases ha : ti.k.agg with
    | true => rfl
    | false => rw [hp]; exact toV_cells p
def eqInts : List Int → List Int → Bool
  | [], [] => true
  | a :: as, b :: bs => a == b && eqInts as bs
  | _, _ => false
/-- Values of a type of so many whole numbers are compared cell by cell. -/
def EqOk (P : Program) (t : TypeId) (n : Nat) : Prop := ∀ (w : World) (as bs : List Int), as.length = n → bs.length = n →
  P.eqGuardType P.depth t = false ∧ (Op.equalIn 10000 t (.agg (as.map (Value.int .i64)).toArray) (.agg (bs.map (Value.int .i64)).toArray)).run P w = .ok (eqInts as bs) w
/-- What a function's summary says. -/
def CallOk (P : Program) (gl : Nat → PV) (f : FuncId) (ps : List PV) (r : PV) : Prop :=
  ∀ (w : World) (ok : Nat → Prop) (args : List Value), (∀ β, ok β → β < w.heap.size) → (∀ n, gl n ≠ .junk → Rep w ok (fun _ => none) (gl n) (.pointer (some ⟨n, 0, none⟩))) →
    RepL w ok (fun _ => none) ps args →
    Calls P f args.toArray w fun e w' => ∃ v, e = .returned v ∧ Below w.heap.size w w' ∧ Rep w' (fun β => (ok β ∨ w.heap.size ≤ β) ∧ β < w'.heap.size) (fun _ => none) r v
/-- Whatever may be called; in a round of a range over a function, or not. -/
def Fw (r : Option Nat) : Fence := { Fence.wide with round := r }
theorem callsFw {r : Option Nat} {n : Nat} {P : Program} {f : FuncId} {args : Array Value} {w : World} {R : Ending → World → Prop} : CallsIn (Fw r) n P f args w R ↔ Calls P f args w R := callsIn_wide (n := n)
/-- Pointers, and what is no slice, stay where they are. -/
def fixOf (os : Heap) (γ : Nat → Option Value) (i : Nat) : Option Value := match Nat.ble 8 i, look os i with
  | false, some (.row _ _ _) => none
  | false, some _ => γ i
  | _, _ => none
/-- What the summary of a function with objects says. -/
def ObjOk (P : Program) (gl : Nat → PV) (f : FuncId) (ps : List PV) (os : Heap) (r : PV) (os' : Heap) : Prop :=
  ∀ (g : GI) (w : World) (γ : Nat → Option Value) (args : List Value), g.P = P → g.gl = gl → g.w0 = w → g.fx = fixOf os γ → MInv g os w γ → RepL w (okOf g w γ) γ ps args →
    Calls P f args.toArray w fun e w' => ∃ v γ', e = .returned v ∧ MInv g os' w' γ' ∧ Rep w' (okOf g w' γ') γ' r v
/-- The temporaries of the loop's record, as they stand for places that stay. -/
def TiesOk (ties : List (Nat × Nat)) (rl : Loop → Prop) (g : GI) : Prop := rl g.lrec ∧ ∀ x ∈ ties, g.fx x.2 = some (g.lrec.tmps.getD x.1 undef)
def ObjOkT (P : Program) (gl : Nat → PV) (ties : List (Nat × Nat)) (rl : Loop → Prop) (f : FuncId) (ps : List PV) (os : Heap) (r : PV) (os' : Heap) : Prop :=
  ∀ (g : GI) (w : World) (γ : Nat → Option Value) (args : List Value), g.P = P → g.gl = gl → g.w0 = w → g.fx = fixOf os γ → TiesOk ties rl g → MInv g os w γ → RepL w (okOf g w γ) γ ps args →
    Calls P f args.toArray w fun e w' => ∃ v γ', e = .returned v ∧ MInv g os' w' γ' ∧ Rep w' (okOf g w' γ') γ' r v
theorem ObjOkT.ok {P : Program} {gl : Nat → PV} {f : FuncId} {ps : List PV} {os : Heap} {r : PV} {os' : Heap} {rl : Loop → Prop} (hrl : ∀ r, rl r) (h : ObjOkT P gl [] rl f ps os r os') : ObjOk P gl f ps os r os' :=
  fun g w γ args h1 h2 h3 h4 h5 h6 => h g w γ args h1 h2 h3 h4 ⟨hrl _, fun x h => by simp at h⟩ h5 h6
/-- What is known of the rest of a round. -/
def RoundOk (P : Program) (gl : Nat → PV) (ties : List (Nat × Nat)) (rl : Loop → Prop) (l : Nat) (ps : List PV) (os : Heap) (r : PV) (os' : Heap) : Prop :=
  ∀ (g : GI) (w : World) (γ : Nat → Option Value) (args : List Value), g.P = P → g.gl = gl → g.w0 = w → g.fx = fixOf os γ → TiesOk ties rl g → MInv g os w γ → RepL w (okOf g w γ) γ ps args →
    (∃ k lb, look os k = some (.loop lb) ∧ γ k = some (.pointer (some ⟨l, 0, none⟩))) → ∃ f tmps assign body, (Instr.yield l args.toArray).run P w = .ok (.round l f tmps assign body) w ∧
      ∀ rr n, RoundIn (Fw rr) n P l f tmps assign body w fun e w' => ∃ v γ', e = .returned v ∧ MInv g os' w' γ' ∧ Rep w' (okOf g w' γ') γ' r v
structure CxOk (P : Program) (C : Cx) : Prop where
  tab : ∀ t ti, C.tab t = some ti → TabOk P t ti
  ety : ∀ e T, C.ety e = some T → ElemOk P e T
  G : ∀ f ps r, C.G f ps = some (true, r) → CallOk P C.gl f ps r ∧ ∃ fn, P.funcs[f]? = some fn ∧ fn.body.isSome = true ∧ fn.name ≠ "runtime.NumGoroutine"
  eqs : ∀ t n, C.eqs t = n + 1 → EqOk P t n
  meth : ∀ t m f, C.meth t m = some f → ∀ (v : Value) (w : World), (method (P.types.size + Made.depth) t v m).run P w = .ok (f, v) w
  meth0 : ∀ t m f, C.meth t m = some f → ∀ (v : Value) (w : World), (nilAhead (P.types.size + Made.depth) t v m).run P w = .ok (some false) w
  O : ∀ f mode F, C.O f = some (mode, F) → ∀ ps os r os', F ps os = some (true, r, os') → ObjOk P C.gl f ps os r os' ∧ ∃ fn, P.funcs[f]? = some fn ∧ fn.body.isSome = true ∧ fn.name ≠ "runtime.NumGoroutine"
  Y : ∀ F, C.Y = some F → ∀ l ps os r os', F ps os = some (true, r, os') → RoundOk P C.gl C.ties C.rl l ps os r os'

/-- What the interpreter is told is of this call. -/
structure Same (C : Cx) (g : GI) : Prop where
  gl : C.gl = g.gl
  ties : TiesOk C.ties C.rl g
section
variable {g : GI} {C : Cx} {H : Heap} {w : World} {γ : Nat → Option Value} {o : Oper} {a : Act}
def applyH (H : Heap) (e : Eff) : Heap := setHs e.hu (killHs e.kl H)
/-- What is so behind an operation. -/
def Post (g : GI) (H : Heap) (w : World) (γ : Nat → Option Value) (e : Eff) (v : Value) (w' : World) (γ' : Nat → Option Value) : Prop :=
  MInv g (applyH H e) w' γ' ∧ Rep w' (okOf g w' γ') γ' e.p v ∧ (∀ p u, Rep w (okOf g w γ) γ p u → (∀ i, i ∈ e.kl → i ∉ p.ids) → Rep w' (okOf g w' γ') γ' p u) ∧ Loc w γ w' γ'
def OpOk (g : GI) (o : Oper) (a : Act) (H : Heap) (w : World) (γ : Nat → Option Value) (e : Eff) : Prop :=
  ∀ (r : Option Nat) (n : Nat) (next : Act → World → Prop) (Q : Exit → Act → World → Prop), (∀ c, o.op ≠ .defer c) → (∀ v w' γ', Post g H w γ e v w' γ' → next (a.put o.dst v) w') → o.wpIn (Fw r) n g.P a w next Q

theorem Post.same (m : MInv g H w γ) {p : PV} {v : Value} {fp : List Nat} (h : Rep w (okOf g w γ) γ p v) : Post g H w γ { p, fp } v w γ := ⟨m, h, fun _ _ h _ => h, .refl _ _⟩
theorem Post.grown {w' : World} (m : MInv g H w γ) (hb : Below w.heap.size w w') {p : PV} {v : Value} {fp : List Nat} (h : Rep w' (okOf g w' γ) γ p v) : Post g H w γ { p, fp } v w' γ :=
  ⟨(m.grow hb).1, h, fun p u hp _ => (m.grow hb).2 p u hp, .below hb _⟩
theorem OpOk.value {e : Eff} {v : Value} {w' : World} {γ' : Nat → Option Value} (hr : (execOp a.eval o).run g.P w = .ok (.value v) w') (h : Post g H w γ e v w' γ') : OpOk g o a H w γ e := by
  intro r n next Q hd hn
  refine ⟨fun _ _ => trivial, ?_⟩
  rw [Oper.semAt_eq _ _ _ hd, hr]
  exact hn v w' γ' h
theorem OpOk.skip {e : Eff} {w' : World} {γ' : Nat → Option Value} (hr : (execOp a.eval o).run g.P w = .ok .skip w') (h : Post g H w γ e undef w' γ') : OpOk g o a H w γ e := by
  intro r n next Q hd hn
  refine ⟨fun _ _ => trivial, ?_⟩
  rw [Oper.semAt_eq _ _ _ hd, hr]
  exact hn undef w' γ' h

theorem cv_rep (w : World) (ok : Nat → Prop) (γ : Nat → Option Value) (v : Value) : Rep w ok γ (cv v) v := by
  unfold cv
  split <;> constructor
theorem toV_rep (w : World) (ok : Nat → Prop) (γ : Nat → Option Value) (p : PV) (h : plain p = true) : Rep w ok γ p (toV p) ∧ (toV p).oneCell' = true ∧ p.one = true := by
  cases p <;> simp [plain] at h <;> first
    | exact ⟨by constructor, rfl, rfl⟩
    | (subst h; exact ⟨.sl _ [] none 0 (fun _ _ => undef) (by simp) (fun _ => rfl) (fun h => absurd rfl h) (fun i j h => by simp at h) (fun i x j p h => by simp at h), rfl, rfl⟩)
theorem zp_rep (w : World) (ok : Nat → Prop) (γ : Nat → Option Value) {ps : List PV} (h : ps.all plain = true) : RepL w ok γ ps (ps.map toV) ∧ (∀ v ∈ ps.map toV, v.oneCell' = true) ∧ ps.all PV.one = true := by
  have hp : ∀ p ∈ ps, plain p = true := fun p hp => List.all_eq_true.1 h p hp
  refine ⟨?_, fun v hv => ?_, List.all_eq_true.2 fun p h => (toV_rep w ok γ p (hp p h)).2.2⟩
  · have : RepL w ok γ (ps.map id) (ps.map toV) := RepL.map fun p h => (toV_rep w ok γ p (hp p h)).1
    simpa using this
  · obtain ⟨p, hm, rfl⟩ := List.mem_map.1 hv
    exact (toV_rep w ok γ p (hp p hm)).2.1

theorem run_size {P : Program} {t : TypeId} {ti : TI} (h : TabOk P t ti) (w : World) : (sizeOf t).run P w = .ok ti.size w := by
  obtain ⟨i, z, h1, h2, _⟩ := h.info
  simp [sizeOf, typeInfo, h1, h2]
theorem run_isAgg {P : Program} {t : TypeId} {ti : TI} (h : TabOk P t ti) (w : World) : (isAgg t).run P w = .ok ti.k.agg w := by
  obtain ⟨d, h1, h2⟩ := h.und
  unfold isAgg
  rw [Sem.run_bind, run_underlying h1 w, ← h2]
  cases d <;> rfl
theorem und_slice {P : Program} {t : TypeId} {ti : TI} {e : TypeId} (h : TabOk P t ti) (hk : ti.k = .slice e) : P.underlying t = some (.slice e) := by
  obtain ⟨d, h1, h2⟩ := h.und
  rw [h1]
  rw [hk] at h2
  cases d <;> simp [sk] at h2
  rw [h2]
theorem und_arr {P : Program} {t : TypeId} {ti : TI} {n e : Nat} (h : TabOk P t ti) (hk : ti.k = .arr n e) : P.underlying t = some (.array n e) := by
  obtain ⟨d, h1, h2⟩ := h.und
  rw [h1]
  rw [hk] at h2
  cases d <;> simp [sk] at h2
  rw [h2.1, h2.2]
theorem und_struct {P : Program} {t : TypeId} {ti : TI} {l : List (Nat × TypeId)} (h : TabOk P t ti) (hk : ti.k = .struct l) : ∃ fs : Array Field, P.underlying t = some (.struct fs) ∧ fs.toList.map (fun f => (f.offset, f.type)) = l := by
  obtain ⟨d, h1, h2⟩ := h.und
  rw [h1]
  rw [hk] at h2
  cases d <;> simp [sk] at h2
  exact ⟨_, rfl, h2⟩
theorem und_int {P : Program} {t : TypeId} {ti : TI} {k : IntKind} (h : TabOk P t ti) (hk : ti.k = .int k) : P.underlying t = some (.int k) := by
  obtain ⟨d, h1, h2⟩ := h.und
  rw [h1]
  rw [hk] at h2
  cases d <;> simp [sk] at h2
  rw [h2]
theorem und_str {P : Program} {t : TypeId} {ti : TI} (h : TabOk P t ti) (hk : ti.k = .str) : P.underlying t = some .string := by
  obtain ⟨d, h1, h2⟩ := h.und
  rw [h1]
  rw [hk] at h2
  cases d <;> simp [sk] at h2
  rfl

/-! ### 2. Parts of memory -/
theorem part_rep {P : Program} {ok : Nat → Prop} {t : TypeId} {ti : TI} (ht : TabOk P t ti) {ps : List PV} {vs : List Value} (hr : RepL w ok γ ps vs) {off : Nat} {p : PV} (h : part ti ps off = some p) :
    ((vs.drop off).take ti.size).length = ti.size ∧ ((ti.k.agg = true ∧ Rep w ok γ p (.agg ((vs.drop off).take ti.size).toArray)) ∨ (ti.k.agg = false ∧ ∃ u, (vs.drop off).take ti.size = [u] ∧ Rep w ok γ p u)) := by
  have hr' := (hr.drop off).take ti.size
  unfold part at h
  simp only [] at h
  split at h
  · rename_i hc
    rw [Bool.and_eq_true] at hc
    have hl : ((vs.drop off).take ti.size).length = ti.size := by rw [hr'.1]; exact Nat.eq_of_beq_eq_true hc.1
    refine ⟨hl, ?_⟩
    unfold mk at h
    split at h
    · rename_i hg
      simp at h
      subst h
      exact .inl ⟨hg, Rep.agg' hc.2 hr'⟩
    · rename_i hg
      split at h
      · rename_i q hq
        simp at h
        subst h
        rw [hq] at hr'
        obtain ⟨u, us, hu, h1, h2⟩ := hr'.cons_inv
        rw [h2.nil_inv] at hu
        exact .inr ⟨hg, u, hu, h1⟩
      · simp at h
  · simp at h
theorem run_loadVar_part {P : Program} {ok : Nat → Prop} {t : TypeId} {ti : TI} (ht : TabOk P t ti) {ps : List PV} {vs : List Value} (hr : RepL w ok γ ps vs) {β base off : Nat}
    (hc : ∀ j v, vs[j]? = some v → w.cell? ⟨β, base + j, none⟩ = some v) {p : PV} (h : part ti ps off = some p) :
    ∃ v, (loadVar t ⟨β, base + off, none⟩).run P w = .ok v w ∧ Rep w ok γ p v := by
  obtain ⟨hl, hp⟩ := part_rep ht hr h
  have hcell : ∀ j v, ((vs.drop off).take ti.size)[j]? = some v → w.cell? ((⟨β, base + off, none⟩ : Addr).add j) = some v := by
    intro j v hv
    have hj : j < ti.size := by rw [← hl]; exact (List.getElem?_eq_some_iff.1 hv).1
    rw [List.getElem?_take_of_lt hj, List.getElem?_drop] at hv
    rw [Addr.add_lit, Nat.add_assoc]
    exact hc _ _ hv
  rcases hp with ⟨hg, hp⟩ | ⟨hg, u, hu, hp⟩
  · have := run_loadCells_list (P := P) w ⟨β, base + off, none⟩ _ hcell
    rw [hl] at this
    exact ⟨_, by simp [loadVar, run_isAgg ht, hg, run_size ht, this], hp⟩
  · have := hcell 0 u (by rw [hu]; rfl)
    rw [Addr.add_zero'] at this
    exact ⟨u, by simp [loadVar, run_isAgg ht, hg, run_load, this], hp⟩
theorem run_part {P : Program} {ok : Nat → Prop} {t : TypeId} {ti : TI} (ht : TabOk P t ti) {ps : List PV} {vs : List Value} (hr : RepL w ok γ ps vs) {off : Nat} {p : PV} (h : Ev.part ti ps off = some p) :
    ∃ v, (Go.part t vs.toArray off).run P w = .ok v w ∧ Rep w ok γ p v := by
  obtain ⟨hl, hp⟩ := part_rep ht hr h
  rcases hp with ⟨hg, hp⟩ | ⟨hg, u, hu, hp⟩
  · refine ⟨_, ?_, hp⟩
    simp only [Go.part, Sem.run_bind, run_isAgg ht, hg, Result.andThen_ok, run_size ht, if_true, Sem.run_pure]
    congr 2
    apply Array.ext'
    simp [Array.toList_extract, List.extract_eq_take_drop]
  · refine ⟨u, ?_, hp⟩
    have h1 : ti.size = 1 := by rw [← hl, hu]; rfl
    have : vs[off]? = some u := by
      have : ((vs.drop off).take ti.size)[0]? = some u := by rw [hu]; rfl
      rw [h1, List.getElem?_take_of_lt (by omega), List.getElem?_drop] at this
      simpa using this
    simp [Go.part, run_isAgg ht, hg, this]
end

end Go.Proofs.Ytklgaodfakdjpaa.Ev
/- What the operations do: load, store, box, alloc. -/
namespace Go.Proofs.Ytklgaodfakdjpaa.Ev
open Go Go.RowKit

section
variable {g : GI} {C : Cx} {H : Heap} {w : World} {γ : Nat → Option Value} {o : Oper} {a : Act} {ok : Nat → Prop}

theorem ptr_list {cs : List PV} {off : Nat} {v : Value} (h : Rep w ok γ (.ptr cs off) v) : ∃ (β base : Nat) (vs : List Value), v = .pointer (some ⟨β, base + off, none⟩) ∧ ok β ∧ RepL w ok γ cs vs ∧ ∀ j u, vs[j]? = some u → w.cell? ⟨β, base + j, none⟩ = some u := by
  cases h with
  | ptr cs off β base f ho hc hf =>
    refine ⟨β, base, (List.range cs.length).map f, rfl, ho, ⟨by simp, fun j p hp => ?_⟩, fun j u hu => ?_⟩
    · have hj : j < cs.length := (List.getElem?_eq_some_iff.1 hp).1
      simpa [List.getD, hj] using hf j p hp
    · rw [List.getElem?_map, Option.map_eq_some_iff] at hu
      obtain ⟨k, hk, rfl⟩ := hu
      have hj : j < cs.length := by
        have := (List.getElem?_eq_some_iff.1 hk).1
        simpa using this
      rw [List.getElem?_range hj] at hk
      simp at hk
      subst hk
      exact hc j hj
theorem cell_of_cells {β : Nat} {vs : List Value} {t : TypeId} (h : w.heap[β]? = some (.cells vs.toArray t (0, 0))) {j : Nat} {u : Value} (hu : vs[j]? = some u) : w.cell? ⟨β, 0 + j, none⟩ = some u := by
  rw [Nat.zero_add, cell_of_row w β j _ t _ h]
  simpa using hu
theorem ref_cells (m : MInv g H w γ) {i off : Nat} {v : Value} (h : Rep w (okOf g w γ) γ (.ref i off) v) {t : TypeId} {ps : List PV} (hl : look H i = some (.cells t ps)) :
    ∃ (β : Nat) (vs : List Value), γ i = some (.pointer (some ⟨β, 0, none⟩)) ∧ v = .pointer (some ⟨β, off, none⟩) ∧ w.heap[β]? = some (.cells vs.toArray t (0, 0)) ∧ RepL w (okOf g w γ) γ ps vs ∧ ∀ u ∈ vs, u.oneCell' = true := by
  obtain ⟨u, hu, β, vs, rfl, h2, h3, h4⟩ := m.blks i _ hl
  cases h with
  | ref i off β' h =>
    rw [hu] at h
    simp at h
    subst h
    exact ⟨β, vs, hu, rfl, h2, h3, h4⟩
/-- An element of a row: its cells. -/
theorem row_cells {v : Value} {T : ETy} {e : TypeId} {xs : List T.den} {ys : List Value} (h2 : w.ownsRow 0 e T.size v xs.length ys)
    (h4 : ∀ k x j p, xs[k]? = some x → (T.cells x)[j]? = some p → Rep w ok γ p (ys.getD (k * T.size + j) undef)) {ix : Nat} {x : T.den} (hx : xs[ix]? = some x) :
    RepL w ok γ (T.cells x) ((ys.drop (ix * T.size)).take T.size) ∧ ((ys.drop (ix * T.size)).take T.size).length = T.size ∧ ix * T.size + T.size ≤ ys.length := by
  have hix : ix < xs.length := (List.getElem?_eq_some_iff.1 hx).1
  have hle : ix * T.size + T.size ≤ ys.length := by
    rw [h2.1, ← Nat.succ_mul]
    exact Nat.mul_le_mul_right _ hix
  have hl : ((ys.drop (ix * T.size)).take T.size).length = T.size := by simp; omega
  refine ⟨⟨by rw [hl, cells_len], fun j p hp => ?_⟩, hl, hle⟩
  have hj : j < T.size := by rw [← cells_len T x]; exact (List.getElem?_eq_some_iff.1 hp).1
  have := h4 ix x j p hx hp
  simpa [List.getD, List.getElem?_take_of_lt hj, List.getElem?_drop] using this

theorem OpOk.load (c : CxOk g.P C) (m : MInv g H w γ) {t : TypeId} {x : Operand} (ho : o.op = .load t x) {q : PV} (hq : Rep w (okOf g w γ) γ q (a.eval x)) {ti : TI} (ht : C.tab t = some ti) {p : PV} {fp : List Nat}
    (h : (∃ cs off, q = .ptr cs off ∧ part ti cs off = some p) ∨ (∃ i off t' cs, q = .ref i off ∧ look H i = some (.cells t' cs) ∧ part ti cs off = some p) ∨
      (∃ i T ix off e xs y, q = .eref i T ix off ∧ look H i = some (.row T e xs) ∧ xs[ix]? = some y ∧ part ti (T.cells y) off = some p)) :
    OpOk g o a H w γ { p, fp } := by
  have key : ∀ {β base off : Nat} {ps : List PV} {vs : List Value}, a.eval x = .pointer (some ⟨β, base + off, none⟩) → RepL w (okOf g w γ) γ ps vs → (∀ j v, vs[j]? = some v → w.cell? ⟨β, base + j, none⟩ = some v) →
      part ti ps off = some p → OpOk g o a H w γ { p, fp } := by
    intro β base off ps vs he hr hc hp
    obtain ⟨v, hv, hrep⟩ := run_loadVar_part (c.tab t ti ht) hr hc hp
    exact OpOk.value (by simp [execOp, ho, he, Instr.loadAt, Instr.sureAddr, hv]) (Post.same m hrep)
  rcases h with ⟨cs, off, rfl, hp⟩ | ⟨i, off, t', cs, rfl, hl, hp⟩ | ⟨i, T, ix, off, e, xs, y, rfl, hl, hy, hp⟩
  · obtain ⟨β, base, vs, he, _, hr, hc⟩ := ptr_list hq
    exact key he hr hc hp
  · obtain ⟨β, vs, _, he, hb, hr, _⟩ := ref_cells m hq hl
    exact key (base := 0) (by rw [Nat.zero_add]; exact he) hr (fun j v hv => cell_of_cells hb hv) hp
  · obtain ⟨u, hu, ys, h2, h3, h4, h5⟩ := m.blks i _ hl
    cases he : a.eval x with
    | pointer A =>
      rw [he] at hq
      cases hq with
      | eref i T ix off β n cp hg =>
        rw [hu] at hg
        simp at hg
        subst hg
        obtain ⟨hr, hlen, hle⟩ := row_cells h2 h4 hy
        refine key (base := ix * T.size) he hr (fun j v hv => ?_) hp
        have hj : j < T.size := by rw [← hlen]; exact (List.getElem?_eq_some_iff.1 hv).1
        rw [List.getElem?_take_of_lt hj, List.getElem?_drop] at hv
        have := h2.cells (g := β) rfl _ v hv
        rw [Addr.add_lit, Nat.zero_add] at this
        exact this
    | _ => rw [he] at hq; cases hq

theorem look_set {H : Heap} {i : Nat} {b : Blk} (hi : i < H.length) (j : Nat) : look (H.set i (some b)) j = if j = i then some b else look H j := by
  unfold look
  by_cases h : j = i
  · subst h; simp [List.getD, hi]
  · simp [List.getD, List.getElem?_set_ne (Ne.symm h), h]
theorem look_lt {H : Heap} {i : Nat} {b : Blk} (h : look H i = some b) : i < H.length := by
  rcases Nat.lt_or_ge i H.length with h' | h'
  · exact h'
  · unfold look at h
    rw [List.getD, List.getElem?_eq_none h'] at h
    simp at h
theorem look_map (H : Heap) (i j : Nat) : look (H.map (killB i)) j = killB i (look H j) := by
  unfold look
  rw [List.getD, List.getD, List.getElem?_map]
  cases H[j]? <;> rfl

theorem put_rep {cs ps cs' : List PV} {vs us : List Value} {off : Nat} (hr : RepL w ok γ cs vs) (hs : RepL w ok γ ps us) (h : put cs off ps = some cs') :
    RepL w ok γ cs' (vs.take off ++ us ++ vs.drop (off + us.length)) ∧ off + us.length ≤ vs.length ∧ ps.all PV.one = true := by
  unfold put at h
  split at h
  · rename_i hc
    rw [Bool.and_eq_true] at hc
    obtain rfl := Option.some.inj h
    have hle : off + ps.length ≤ cs.length := Nat.le_of_ble_eq_true hc.1
    refine ⟨?_, by rw [hs.1, hr.1]; exact hle, hc.2⟩
    rw [hs.1]
    exact ((hr.take off).append hs).append (hr.drop _)
  · simp at h

theorem fst_eq_add {n : Nat} : (⟨n, 0, none⟩ : Addr) = ⟨n, 0, none⟩ := rfl

theorem MInv.fxSame (m : MInv g H w γ) {i : Nat} {b : Blk} {v' : Value} (hl : look H i = some b) (hγ : γ i = some v') (v : Value) (hv : g.fx i = some v) : isRow (some b) = false ∧ v' = v := by
  rcases m.fx i v hv with h | ⟨h1, h2⟩
  · rw [hl] at h; simp at h
  · rw [hl] at h1
    rw [hγ] at h2
    exact ⟨h1, Option.some.inj h2⟩
theorem MInv.fxRow (m : MInv g H w γ) {i : Nat} {T : ETy} {e : TypeId} {xs : List T.den} {v' : Value} (hl : look H i = some (.row T e xs)) (hγ : γ i = some v') {P : Prop} (v : Value) (hv : g.fx i = some v) : P := by
  have := (m.fxSame hl hγ v hv).1
  simp [isRow] at this
theorem OpOk.storeRef (c : CxOk g.P C) (m : MInv g H w γ) {t : TypeId} {x y : Operand} (ho : o.op = .store t x y) {i off : Nat} (hx : Rep w (okOf g w γ) γ (.ref i off) (a.eval x)) {q : PV} (hy : Rep w (okOf g w γ) γ q (a.eval y))
    {ti : TI} (ht : C.tab t = some ti) (hs : q.flat.length = ti.size) {t' : TypeId} {cs cs' : List PV} (hl : look H i = some (.cells t' cs)) (hp : put cs off q.flat = some cs') {fp : List Nat} :
    OpOk g o a H w γ ⟨.junk, [(i, some (.cells t' cs'))], [], fp⟩ := by
  obtain ⟨β, vs, hγ, he, hb, hr, h1⟩ := ref_cells m hx hl
  have hone : q.flat.all PV.one = true := by
    unfold put at hp
    split at hp
    · rename_i hc; rw [Bool.and_eq_true] at hc; exact hc.2
    · simp at hp
  obtain ⟨hf, hf1⟩ := hy.flat hone m.one
  obtain ⟨hr', hle, _⟩ := put_rep hr hf hp
  have hsz : (a.eval y).cells.size = ti.size := by rw [← hs, ← hf.1]; simp
  have hst := run_storeCells_at g.P β off t' (a.eval y).cells.toList 0 vs.toArray w hb (by simpa using hle) hf1
  simp only [Nat.add_zero, List.toList_toArray] at hst
  refine OpOk.skip (w' := w.setRow β (vs.take off ++ (a.eval y).cells.toList ++ vs.drop (off + (a.eval y).cells.toList.length)).toArray) (γ' := upd γ i (.pointer (some ⟨β, 0, none⟩))) ?_ ?_
  · simp [execOp, ho, he, Instr.storeAt, Instr.sureAddr, storeVar, run_size (c.tab t ti ht), hsz, hst]
  · have hH : applyH H ⟨.junk, [(i, some (.cells t' cs'))], [], fp⟩ = H.set i (some (.cells t' cs')) := rfl
    have hput := m.put i (.cells t' cs') (.pointer (some ⟨β, 0, none⟩)) (w.setRow β (vs.take off ++ (a.eval y).cells.toList ++ vs.drop (off + (a.eval y).cells.toList.length)).toArray) (H.set i (some (.cells t' cs'))) false
      (by simp) rfl rfl rfl (fun k hk hne => setRow_other w β k _ (fun e => hne _ hγ (by simp [blk, e]))) (fun β' h => .inl ⟨_, hγ, h⟩) (.inr (.inr hγ)) (fun v hv => ⟨rfl, (m.fxSame hl hγ v hv).2⟩)
      (by rw [look_set (look_lt hl)]; simp) (fun j hj => by rw [look_set (look_lt hl)]; simp [hj])
      (fun tr => ⟨β, _, rfl, setRow_heap w β vs.toArray _ t' _ hb, ⟨hr'.1, fun j p hp => tr _ _ (hr'.2 j p hp) (fun h => by simp at h)⟩, fun u hu => by
        simp only [List.mem_append] at hu
        rcases hu with (hu | hu) | hu
        · exact h1 u (List.mem_of_mem_take hu)
        · exact hf1 u hu
        · exact h1 u (List.mem_of_mem_drop hu)⟩)
    exact ⟨by rw [hH]; exact hput.1, .junk _, fun p u h _ => hput.2.1 p u h (fun h => by simp at h), hput.2.2⟩
end

end Go.Proofs.Ytklgaodfakdjpaa.Ev
/- What the operations do: store into an element; box, alloc; build; append. -/
namespace Go.Proofs.Ytklgaodfakdjpaa.Ev
open Go Go.RowKit

section
variable {g : GI} {C : Cx} {H : Heap} {w : World} {γ : Nat → Option Value} {o : Oper} {a : Act} {ok : Nat → Prop}

theorem PrV.dec_rep {p : PV} {q : PrV} (h : PrV.dec p = some q) {v : Value} (hr : Rep w ok γ p v) : Rep w ok γ q.pv v := by
  unfold PrV.dec at h
  split at h <;> first | (simp at h; done) | (obtain rfl := Option.some.inj h; exact hr) | skip
  obtain rfl := Option.some.inj h
  cases hr with
  | iface t p v h => exact .iface _ _ v (.junk v)
theorem dec_rep {T : ETy} {ps : List PV} {x : T.den} (h : T.dec ps = some x) {vs : List Value} (hr : RepL w ok γ ps vs) : RepL w ok γ (T.cells x) vs := by
  unfold ETy.dec at h
  split at h <;> first | (simp at h; done) | (obtain rfl := Option.some.inj h; exact hr) | skip
  split at h
  · rename_i q hq
    obtain rfl := Option.some.inj h
    obtain ⟨v1, us1, rfl, h1, hr⟩ := hr.cons_inv
    obtain ⟨v2, us2, rfl, h2, hr⟩ := hr.cons_inv
    obtain ⟨v3, us3, rfl, h3, hr⟩ := hr.cons_inv
    exact .cons h1 (.cons h2 (.cons (PrV.dec_rep hq h3) hr))
  · simp at h

theorem getD_splice {l r m : List Value} {off n : Nat} (hm : m.length = n) (hle : off + n ≤ l.length) (k : Nat) :
    (l.take off ++ m ++ l.drop (off + n)).getD k undef = if off ≤ k ∧ k < off + n then m.getD (k - off) undef else l.getD k undef := by
  subst hm
  have h1 : (l.take off).length = off := by simp; omega
  simp only [List.getD]
  by_cases hk : k < off
  · rw [if_neg (by omega), List.append_assoc, List.getElem?_append_left (by omega), List.getElem?_take_of_lt hk]
  · by_cases hk2 : k < off + m.length
    · rw [if_pos (by omega), List.append_assoc, List.getElem?_append_right (by omega), h1, List.getElem?_append_left (by omega)]
    · rw [if_neg (by omega), List.append_assoc, List.getElem?_append_right (by omega), h1, List.getElem?_append_right (by omega), List.getElem?_drop]
      congr 2
      omega

/-- Cells are laid over some of a row's. -/
theorem splice_own {P : Program} {β n cap size : Nat} {e : TypeId} {ys us : List Value} (h2 : w.ownsRow 0 e size (.slice (some ⟨β, 0, none⟩) n cap) n ys) {off : Nat} (hle : off + us.length ≤ ys.length) (h1 : ∀ u ∈ us, u.oneCell' = true) :
    ∃ w', (storeCells ⟨β, off, none⟩ us).run P w = .ok () w' ∧ w'.ownsRow 0 e size (.slice (some ⟨β, 0, none⟩) n cap) n (ys.take off ++ us ++ ys.drop (off + us.length)) ∧
      w'.heap.size = w.heap.size ∧ w'.os = w.os ∧ w'.tape = w.tape ∧ w'.output = w.output ∧ ∀ k, k ≠ β → w'.heap[k]? = w.heap[k]? := by
  rcases h2.2 with ⟨hn, _⟩ | ⟨gb, cap', cur, hv, _, hb, hnc, hcm, hcs, htk⟩
  · simp at hn
  · simp only [Value.slice.injEq, Option.some.injEq, Addr.mk.injEq, and_true, true_and] at hv
    obtain ⟨rfl, rfl⟩ := hv
    have hys : ys.length = n * size := h2.1
    have hcl : cur.toList.length = cap * size := by rw [Array.length_toList, hcs]
    have hcur : ys.length ≤ cur.toList.length := by rw [hys, hcl]; exact Nat.mul_le_mul_right _ hnc
    have hst := run_storeCells_at P β off e us 0 cur w hb (by rw [Nat.add_zero, ← Array.length_toList]; omega) h1
    simp only [Nat.add_zero] at hst
    refine ⟨_, hst, ⟨?_, .inr ⟨β, cap, _, rfl, Nat.zero_le _, setRow_heap w β cur _ e _ hb, hnc, hcm, ?_, ?_⟩⟩, by simp, rfl, rfl, rfl, fun k hk => setRow_other w β k _ hk⟩
    · simp only [List.length_append, List.length_take, List.length_drop]
      omega
    · simp only [List.size_toArray, List.length_append, List.length_take, List.length_drop]
      omega
    · have e1 : ys.take off = cur.toList.take off := by rw [← htk, List.take_take, Nat.min_eq_left (by omega)]
      have e2 : ys.drop (off + us.length) = (cur.toList.drop (off + us.length)).take (n * size - (off + us.length)) := by rw [← htk, List.drop_take]
      have hl1 : (cur.toList.take off).length = off := by rw [List.length_take]; omega
      simp only []
      rw [e1, e2, List.append_assoc, List.append_assoc, List.take_append, List.take_append, hl1, List.take_of_length_le (by rw [hl1]; omega), List.take_of_length_le (show us.length ≤ n * size - off by omega)]
      congr 3
      omega

theorem OpOk.storeEref (c : CxOk g.P C) (m : MInv g H w γ) {t : TypeId} {x y : Operand} (ho : o.op = .store t x y) {i ix off : Nat} {T : ETy} (hx : Rep w (okOf g w γ) γ (.eref i T ix off) (a.eval x)) {q : PV} (hy : Rep w (okOf g w γ) γ q (a.eval y))
    {ti : TI} (ht : C.tab t = some ti) (hs : q.flat.length = ti.size) {e : TypeId} {xs : List T.den} (hl : look H i = some (.row T e xs)) {z0 z : T.den} (h0 : xs[ix]? = some z0) {cs : List PV} (hp : put (T.cells z0) off q.flat = some cs)
    (hd : T.dec cs = some z) {fp : List Nat} :
    OpOk g o a H w γ ⟨.junk, [(i, some (.row T e (xs.set ix z)))], [], fp⟩ := by
  obtain ⟨u, hu, ys, h2, h3, h4, h5⟩ := m.blks i _ hl
  cases he : a.eval x with
  | pointer A =>
    rw [he] at hx
    cases hx with
    | eref i T ix off β n cp hg =>
      rw [hu] at hg
      obtain rfl := Option.some.inj hg
      obtain ⟨hr, hlen, hle⟩ := row_cells h2 h4 h0
      have hone : q.flat.all PV.one = true := by
        unfold put at hp
        split at hp
        · rename_i hc; rw [Bool.and_eq_true] at hc; exact hc.2
        · simp at hp
      obtain ⟨hf, hf1⟩ := hy.flat hone m.one
      obtain ⟨hr', hle', _⟩ := put_rep hr hf hp
      rw [hlen] at hle'
      have hz := dec_rep hd hr'
      have hsz : (a.eval y).cells.size = ti.size := by rw [← hs, ← hf.1]; simp
      have hn : n = xs.length := by
        rcases h2.2 with ⟨hn, _⟩ | ⟨gb, cap', cur, hv, _⟩
        · simp at hn
        · simp only [Value.slice.injEq] at hv; exact hv.2.1
      subst hn
      obtain ⟨w', hst, hown, hhs, hos, htp, hout, hoth⟩ := splice_own (P := g.P) h2 (us := (a.eval y).cells.toList) (off := ix * T.size + off) (by omega) hf1
      refine OpOk.skip (w' := w') (γ' := upd γ i (.slice (some ⟨β, 0, none⟩) xs.length cp)) ?_ ?_
      · simp [execOp, ho, he, Instr.storeAt, Instr.sureAddr, storeVar, run_size (c.tab t ti ht), hsz, hst]
      · generalize (a.eval y).cells.toList = us at *
        have hput := m.put i (.row T e (xs.set ix z)) (.slice (some ⟨β, 0, none⟩) xs.length cp) w' (H.set i (some (.row T e (xs.set ix z)))) false
          (by omega) hos htp hout (fun k hk hne => hoth k (fun e => hne _ hu (by simp [blk, e]))) (fun β' h => .inl ⟨_, hu, h⟩) (.inr (.inr hu)) (fun v hv => m.fxRow hl hu v hv)
          (by rw [look_set (look_lt hl)]; simp) (fun j hj => by rw [look_set (look_lt hl)]; simp [hj])
          (fun tr => by
            refine ⟨ys.take (ix * T.size + off) ++ us ++ ys.drop (ix * T.size + off + us.length), by rw [List.length_set]; exact hown, h3, fun k y0 j p hk hp' => ?_, fun u hu' => ?_⟩
            · have hjT : j < T.size := by rw [← cells_len T y0]; exact (List.getElem?_eq_some_iff.1 hp').1
              rw [getD_splice (r := []) rfl (by omega)]
              by_cases hki : k = ix
              · subst hki
                rw [List.getElem?_set_self (by have := (List.getElem?_eq_some_iff.1 h0).1; exact this)] at hk
                obtain rfl := Option.some.inj hk
                refine tr _ _ ?_ (fun h => by simp at h)
                have hzz := hz.2 j p hp'
                rw [getD_splice (r := []) rfl (by rw [hlen]; exact hle')] at hzz
                by_cases hin : off ≤ j ∧ j < off + us.length
                · rw [if_pos hin] at hzz
                  rw [if_pos (by omega)]
                  rw [show k * T.size + j - (k * T.size + off) = j - off by omega]
                  exact hzz
                · rw [if_neg hin] at hzz
                  rw [if_neg (by omega)]
                  simpa [List.getD, List.getElem?_take_of_lt hjT, List.getElem?_drop] using hzz
              · rw [List.getElem?_set_ne (Ne.symm hki)] at hk
                have hne : ¬ (ix * T.size + off ≤ k * T.size + j ∧ k * T.size + j < ix * T.size + off + us.length) := by
                  rcases Nat.lt_or_gt_of_ne hki with h' | h'
                  · have : k * T.size + T.size ≤ ix * T.size := by rw [← Nat.succ_mul]; exact Nat.mul_le_mul_right _ h'
                    omega
                  · have : ix * T.size + T.size ≤ k * T.size := by rw [← Nat.succ_mul]; exact Nat.mul_le_mul_right _ h'
                    omega
                rw [if_neg hne]
                exact tr _ _ (h4 k y0 j p hk hp') (fun h => by simp at h)
            · simp only [List.mem_append] at hu'
              rcases hu' with (hu' | hu') | hu'
              · exact h5 u (List.mem_of_mem_take hu')
              · exact hf1 u hu'
              · exact h5 u (List.mem_of_mem_drop hu'))
        exact ⟨hput.1, .junk _, fun p u h _ => hput.2.1 p u h (fun h => by simp at h), hput.2.2⟩
  | _ => rw [he] at hx; cases hx
end

end Go.Proofs.Ytklgaodfakdjpaa.Ev
/- What the operations do: box, alloc; build; append. -/
namespace Go.Proofs.Ytklgaodfakdjpaa.Ev
open Go Go.RowKit

section
variable {g : GI} {C : Cx} {H : Heap} {w : World} {γ : Nat → Option Value} {o : Oper} {a : Act} {ok : Nat → Prop}

theorem alloc_below (w : World) (ob : Obj) : Below w.heap.size w (w.alloc ob) := (Below.refl _ w).alloc (Nat.le_refl _) ob

/-- A new mutable thing. -/
theorem Post.made (m : MInv g H w γ) {i : Nat} {b : Blk} {p : PV} {e : Eff} (he : made H i b p = some e) {v' : Value} {w' : World} (hb : Below w.heap.size w w') (hv : ∀ β, blk v' = some β → w.heap.size ≤ β ∧ β < w'.heap.size)
    (hblk : (∀ p u, Rep w (okOf g w γ) γ p u → ((look H i).isSome = true → i ∉ p.ids) → Rep w' (okOf g w' (upd γ i v')) (upd γ i v') p u) → BlkOk g w' (upd γ i v') v' b)
    (hp : (p = .ref i 0 ∧ ∃ β, v' = .pointer (some ⟨β, 0, none⟩)) ∨ p = .own i) : Post g H w γ e v' w' (upd γ i v') := by
  unfold Ev.made at he
  split at he
  · rename_i hlt
    rw [Bool.and_eq_true] at hlt
    have h8 : 8 ≤ i := Nat.le_of_ble_eq_true hlt.1
    have hlt : i < H.length := Nat.le_of_ble_eq_true hlt.2
    obtain rfl := Option.some.inj he
    have hput := m.put i b v' w' (((if (look H i).isSome then H.map (killB i) else H)).set i (some b)) (look H i).isSome hb.size hb.os hb.tape hb.output (fun k hk _ => hb.block k hk) (fun β h => .inr (hv β h))
      (by cases hl : look H i with
          | none => exact .inr (.inl (m.dom i hl))
          | some b0 => exact .inl rfl)
      (fun v hv => by rw [m.fx8 i h8] at hv; simp at hv)
      (by split <;> (rw [look_set (by simpa using hlt)]; simp))
      (fun j hj => by
        cases hl : look H i with
        | none => simp [look_set hlt, hj]
        | some b0 => simp [look_set (H := H.map (killB i)) (by simpa using hlt), hj, look_map])
      hblk
    refine ⟨?_, ?_, fun p u h hk => hput.2.1 p u h fun hs => ?_, hput.2.2⟩
    · have : applyH H ⟨p, [(i, some b)], stale H i, [i]⟩ = ((if (look H i).isSome then H.map (killB i) else H)).set i (some b) := by
        cases hl : look H i <;> simp [applyH, stale, hl, setHs, killHs]
      rw [this]
      exact hput.1
    · rcases hp with ⟨rfl, β, rfl⟩ | rfl
      · exact .ref i 0 β (upd_same _ _ _)
      · exact .own i _ (upd_same _ _ _)
    · refine hk i ?_
      cases hl : look H i with
      | none => rw [hl] at hs; simp at hs
      | some b0 => simp [stale, hl]
  · simp at he

theorem new_cells {vs : List Value} {t : TypeId} : (w.alloc (.cells vs.toArray t)).heap[w.heap.size]? = some (.cells vs.toArray t (0, 0)) := heap_alloc_new w _
theorem Post.newCells (m : MInv g H w γ) {i : Nat} {t : TypeId} {ps : List PV} {e : Eff} (he : Ev.made H i (.cells t ps) (.ref i 0) = some e) {vs : List Value}
    (hr : RepL w (okOf g w γ) γ ps vs) (h1 : ∀ u ∈ vs, u.oneCell' = true) (hi : (look H i).isSome = true → ∀ p ∈ ps, i ∉ p.ids) :
    Post g H w γ e (.pointer (some ⟨w.heap.size, 0, none⟩)) (w.alloc (.cells vs.toArray t)) (upd γ i (.pointer (some ⟨w.heap.size, 0, none⟩))) :=
  Post.made m he (alloc_below w _) (fun β h => by simp [blk] at h; subst h; simp)
    (fun tr => ⟨w.heap.size, vs, rfl, new_cells, ⟨hr.1, fun j p hp => tr _ _ (hr.2 j p hp) fun hs => hi hs p (List.mem_of_getElem? hp)⟩, h1⟩) (.inl ⟨rfl, _, rfl⟩)

/-- A row that is new: cells in a block of its own, as many as it has room for. -/
theorem Post.newRow (m : MInv g H w γ) {i : Nat} {T : ETy} {e : TypeId} {xs : List T.den} {ef : Eff} (he : Ev.made H i (.row T e xs) (.own i) = some ef) {vs : List Value} (hT : ElemOk g.P e T) (hlen : vs.length = xs.length * T.size) (hm : xs.length ≤ maxLen)
    (hr : ∀ k x j p, xs[k]? = some x → (T.cells x)[j]? = some p → Rep w (okOf g w γ) γ p (vs.getD (k * T.size + j) undef)) (h1 : ∀ u ∈ vs, u.oneCell' = true) :
    Post g H w γ ef (.slice (some ⟨w.heap.size, 0, none⟩) xs.length xs.length) (w.alloc (.cells vs.toArray e)) (upd γ i (.slice (some ⟨w.heap.size, 0, none⟩) xs.length xs.length)) :=
  Post.made m he (alloc_below w _) (fun β h => by simp [blk] at h; subst h; simp)
    (fun tr => ⟨vs, by simpa using World.ownsRow_lit (base := 0) (e := e) (size := T.size) w vs.toArray xs.length (Nat.zero_le _) hm (by simpa using hlen), hT,
      fun k x j p hx hp => tr _ _ (hr k x j p hx hp) fun _ hmm => by rw [cells_id hp] at hmm; simp at hmm, h1⟩) (.inr rfl)
theorem Post.nilRow (m : MInv g H w γ) {i : Nat} {T : ETy} {e : TypeId} {ef : Eff} (he : Ev.made H i (.row T e []) (.own i) = some ef) (hT : ElemOk g.P e T) :
    Post g H w γ ef (.slice none 0 0) w (upd γ i (.slice none 0 0)) :=
  Post.made m he (Below.refl _ w) (fun β h => by simp [blk] at h)
    (fun tr => ⟨[], by simpa using World.ownsRow_nil w 0 e T.size, hT, fun k x j p hx hp => by simp at hx, fun u hu => by simp at hu⟩) (.inr rfl)

theorem soft1_rep {p : PV} {v : Value} {ok : Nat → Prop} (h : Rep w ok γ p v) : Rep w ok γ p.soft v := by
  cases h with
  | nsl e T => exact .sl T [] none 0 (fun _ _ => undef) (by simp) (fun _ => rfl) (fun h => absurd rfl h) (fun i j h => by simp at h) (fun i x j p h => by simp at h)
  | slz T xs ad c h => exact h
  | _ => first | exact .junk _ | (constructor <;> assumption)
theorem OpOk.alloc (c : CxOk g.P C) (m : MInv g H w γ) {t : TypeId} (ho : o.op = .alloc t) {ti : TI} (ht : C.tab t = some ti) {sf : PV → PV} (hsf : sf = id ∨ sf = PV.soft) {e : Eff} (he : Ev.made H (lid o.dst) (.cells t (ti.zp.map sf)) (.ref (lid o.dst) 0) = some e) : OpOk g o a H w γ e := by
  have hk := c.tab t ti ht
  obtain ⟨i, z, h1, h2, h3, h4⟩ := hk.info
  obtain ⟨hr, ho1, _⟩ := zp_rep w (okOf g w γ) γ hk.zp
  have hr' : RepL w (okOf g w γ) γ (ti.zp.map sf) (ti.zp.map toV) := by
    refine ⟨by simp, fun j q hq => ?_⟩
    rw [List.getElem?_map, Option.map_eq_some_iff] at hq
    obtain ⟨p, hp, rfl⟩ := hq
    rcases hsf with rfl | rfl
    · exact hr.2 j p hp
    · exact soft1_rep (hr.2 j p hp)
  refine OpOk.value (v := .pointer (some ⟨w.heap.size, 0, none⟩)) (w' := w.alloc (.cells (ti.zp.map toV).toArray t)) ?_ (Post.newCells m he hr' ho1 fun _ p hp hm => ?_)
  · simp [execOp, ho, Instr.alloc, zeroValue, typeInfo, h1, h3, Go.newVar, Go.newRow, h4]
  · obtain ⟨q, hq, rfl⟩ := List.mem_map.1 hp
    have := List.all_eq_true.1 hk.zp q hq
    rcases hsf with rfl | rfl <;> cases q <;> simp [plain] at this <;> simp [PV.ids, PV.soft] at hm
theorem OpOk.boxMut (m : MInv g H w γ) {t : TypeId} {x : Operand} (ho : o.op = .box t x) {q : PV} (hq : Rep w (okOf g w γ) γ q (a.eval x)) (h1 : q.flat.all PV.one = true)
    (hi : (look H (lid o.dst)).isSome = true → ∀ p ∈ q.flat, lid o.dst ∉ p.ids) {e : Eff} (he : Ev.made H (lid o.dst) (.cells t q.flat) (.ref (lid o.dst) 0) = some e) : OpOk g o a H w γ e := by
  obtain ⟨hf, hf1⟩ := hq.flat h1 m.one
  refine OpOk.value (v := .pointer (some ⟨w.heap.size, 0, none⟩)) (w' := w.alloc (.cells (a.eval x).cells.toList.toArray t)) ?_ (Post.newCells m he hf hf1 hi)
  simp [execOp, ho, Instr.box, Go.newVar, Go.newRow]
theorem OpOk.box (m : MInv g H w γ) {t : TypeId} {x : Operand} (ho : o.op = .box t x) {q : PV} (hq : Rep w (okOf g w γ) γ q (a.eval x)) (h1 : q.flat.all PV.one = true) : OpOk g o a H w γ { p := .ptr q.flat 0 } := by
  obtain ⟨hf, hf1⟩ := hq.flat h1 m.one
  have hb := alloc_below w (.cells (a.eval x).cells t)
  refine OpOk.value (v := .pointer (some ⟨w.heap.size, 0, none⟩)) (w' := w.alloc (.cells (a.eval x).cells t)) ?_ (Post.grown m hb ?_)
  · simp [execOp, ho, Instr.box, Go.newVar, Go.newRow]
  · have hok : okOf g (w.alloc (.cells (a.eval x).cells t)) γ w.heap.size := ⟨.inr (.inr m.fr.size), by simp, fun i v hv hbv => by have := (m.old i v _ hv hbv).2; omega⟩
    refine .ptr q.flat 0 w.heap.size 0 (fun j => (a.eval x).cells.toList.getD j undef) hok (fun j hj => ?_) fun j p hp => (m.grow hb).2 _ _ (hf.2 j p hp)
    have hjl : j < (a.eval x).cells.toList.length := by rw [hf.1]; exact hj
    have : (w.alloc (.cells (a.eval x).cells t)).heap[w.heap.size]? = some (.cells (a.eval x).cells t (0, 0)) := heap_alloc_new w _
    rw [Nat.zero_add, cell_of_row _ _ j _ t _ this]
    simp only [Array.length_toList] at hjl
    simp [List.getD, hjl]

theorem OpOk.nilOwn (m : MInv g H w γ) {x : Operand} (ho : o.op = .assign x) (hx : a.eval x = .slice none 0 0) {T : ETy} {e : TypeId} (hT : ElemOk g.P e T) {ef : Eff} (he : Ev.made H (lid o.dst) (.row T e []) (.own (lid o.dst)) = some ef) : OpOk g o a H w γ ef :=
  OpOk.value (by simp [execOp, ho, hx]) (Post.nilRow m he hT)

/-! ### Values out of parts -/
theorem foldl_set : ∀ (l : List Value) (k off : Nat) (cs : Array Value), off + k + l.length ≤ cs.size →
    ((l.zipIdx k).foldl (fun cs x => cs.setIfInBounds (off + x.2) x.1) cs).toList = cs.toList.take (off + k) ++ l ++ cs.toList.drop (off + k + l.length)
  | [], k, off, cs, h => by simp
  | v :: l, k, off, cs, h => by
    simp only [List.zipIdx_cons, List.foldl_cons]
    rw [foldl_set l (k + 1) off _ (by simp at h ⊢; omega)]
    have := list_seg_step cs.toList (off + k) v l (by simp at h ⊢; omega)
    simpa [Array.toList_setIfInBounds, Nat.add_assoc] using this

theorem fill_rep {place place' : Nat → Option (Nat × Nat)} (hpl : ∀ i x, place i = some x → place' i = some x) (hone : ∀ i v, γ i = some v → v.oneCell' = true) :
    ∀ (parts : List (Nat × PV)) (vals : List (Nat × Value)) (cs cs' : List PV) (us : List Value), parts.map (·.1) = vals.map (·.1) → RepL w ok γ (parts.map (·.2)) (vals.map (·.2)) → RepL w ok γ cs us → (∀ u ∈ us, u.oneCell' = true) →
      cs.all PV.one = true → fills C place parts cs = some cs' → ∃ us' : List Value, Instr.fill place' us.toArray vals = some us'.toArray ∧ RepL w ok γ cs' us' ∧ (∀ u ∈ us', u.oneCell' = true) ∧ cs'.all PV.one = true
  | [], vals, cs, cs', us, hi, hv, hr, h1, hc, h => by
    cases vals with
    | nil => simp [fills] at h; subst h; exact ⟨us, rfl, hr, h1, hc⟩
    | cons v vs => simp at hi
  | (i, p) :: parts, vals, cs, cs', us, hi, hv, hr, h1, hc, h => by
    cases vals with
    | nil => simp at hi
    | cons iv vals =>
      obtain ⟨i', v⟩ := iv
      simp only [List.map_cons, List.cons.injEq] at hi hv
      obtain ⟨rfl, hi⟩ := hi
      obtain ⟨v0, us0, hvv, hp, hv⟩ := hv.cons_inv
      obtain ⟨rfl, rfl⟩ := List.cons.inj hvv
      unfold fills at h
      split at h
      · rename_i off n hpl0
        split at h
        · rename_i hn
          split at h
          · rename_i cs1 hput
            have hn : p.flat.length = n := Nat.eq_of_beq_eq_true hn
            have hpo : p.flat.all PV.one = true := by
              unfold put at hput
              split at hput
              · rename_i hcc; rw [Bool.and_eq_true] at hcc; exact hcc.2
              · simp at hput
            obtain ⟨hf, hf1⟩ := hp.flat hpo hone
            obtain ⟨hr1, hle, _⟩ := put_rep hr hf hput
            have hc1 : cs1.all PV.one = true := by
              unfold put at hput
              split at hput
              · obtain rfl := Option.some.inj hput
                simp only [List.all_append, Bool.and_eq_true]
                refine ⟨⟨?_, hpo⟩, ?_⟩
                · exact List.all_eq_true.2 fun x hx => List.all_eq_true.1 hc x (List.mem_of_mem_take hx)
                · exact List.all_eq_true.2 fun x hx => List.all_eq_true.1 hc x (List.mem_of_mem_drop hx)
              · simp at hput
            obtain ⟨us', h2, h3, h4, h5⟩ := fill_rep hpl hone parts vals cs1 cs' _ hi hv hr1 (fun u hu => by
              simp only [List.mem_append] at hu
              rcases hu with (hu | hu) | hu
              · exact h1 u (List.mem_of_mem_take hu)
              · exact hf1 u hu
              · exact h1 u (List.mem_of_mem_drop hu)) hc1 h
            refine ⟨us', ?_, h3, h4, h5⟩
            have hsz : v.cells.size = n := by rw [← hn, ← hf.1]; simp
            have hfold : (v.cells.zipIdx.foldl (fun cs x => cs.setIfInBounds (off + x.2) x.1) us.toArray) = (us.take off ++ v.cells.toList ++ us.drop (off + v.cells.toList.length)).toArray := by
              apply Array.ext'
              rw [← Array.foldl_toList, Array.toList_zipIdx, foldl_set _ 0 off _ (by simpa using hle)]
              simp
            simp only [Instr.fill, hpl _ _ hpl0]
            rw [if_neg (by rw [Bool.or_eq_true]; simp [hsz]; rw [← hsz, ← Array.length_toList]; omega)]
            have : (fun (cs : Array Value) (x : Value × Nat) => match x with | (c, j) => cs.setIfInBounds (off + j) c) = fun cs x => cs.setIfInBounds (off + x.2) x.1 := by funext cs x; rfl
            rw [this, hfold]
            exact h2
          · simp at h
        · simp at h
      · simp at h
end

end Go.Proofs.Ytklgaodfakdjpaa.Ev
/- What the operations do: build, buildSlice, append. -/
namespace Go.Proofs.Ytklgaodfakdjpaa.Ev
open Go Go.RowKit

section
variable {g : GI} {C : Cx} {H : Heap} {w : World} {γ : Nat → Option Value} {o : Oper} {a : Act} {ok : Nat → Prop}

theorem places_ok (P : Program) : ∀ (fs : List Field), (∀ f ∈ fs, (P.info? f.type).isSome = true) →
    ∃ places : List (Nat × Nat), fs.mapM (fun f => (P.info? f.type).map fun i => (f.offset, i.size)) = some places ∧
      ∀ (k : Nat) (off : Nat) (ft : TypeId) (fi : TI), (fs.map fun f => (f.offset, f.type))[k]? = some (off, ft) → TabOk P ft fi → places[k]? = some (off, fi.size)
  | [], _ => ⟨[], rfl, fun k off ft fi h => by simp at h⟩
  | f :: fs, h => by
    obtain ⟨places, h1, h2⟩ := places_ok P fs fun x hx => h x (by simp [hx])
    obtain ⟨i, hi⟩ := Option.isSome_iff_exists.1 (h f (by simp))
    refine ⟨(f.offset, i.size) :: places, by simp [List.mapM_cons, hi, h1], fun k off ft fi hk ht => ?_⟩
    cases k with
    | zero =>
      simp at hk
      obtain ⟨rfl, rfl⟩ := hk
      obtain ⟨i', z, h3, h4, _⟩ := ht.info
      rw [hi] at h3
      obtain rfl := Option.some.inj h3
      simp [h4]
    | succ k => simpa using h2 k off ft fi (by simpa using hk) ht

theorem parts_map (parts : Array (Nat × Operand)) (r : Operand → PV) (a : Act) (hr : ∀ x, Rep w ok γ (r x) (a.eval x)) :
    (parts.toList.map fun (i, x) => (i, r x)).map (·.1) = (parts.map fun (i, x) => (i, a.eval x)).toList.map (·.1) ∧
    RepL w ok γ ((parts.toList.map fun (i, x) => (i, r x)).map (·.2)) ((parts.map fun (i, x) => (i, a.eval x)).toList.map (·.2)) := by
  refine ⟨by simp, ?_⟩
  rw [Array.toList_map, List.map_map, List.map_map]
  exact RepL.map fun x _ => hr _

theorem OpOk.build (c : CxOk g.P C) (m : MInv g H w γ) {t : TypeId} {parts : Array (Nat × Operand)} (ho : o.op = .build t parts) {r : Operand → PV} (hr : ∀ x, Rep w (okOf g w γ) γ (r x) (a.eval x)) {ti : TI} (ht : C.tab t = some ti) {cs : List PV}
    (h : (∃ fs, ti.k = .struct fs ∧ fills C (fun i => match fs[i]? with | some (off, ft) => (match C.tab ft with | some f => some (off, f.size) | none => none) | none => none) (parts.toList.map fun (i, x) => (i, r x)) ti.zp = some cs) ∨
      (∃ n e f, ti.k = .arr n e ∧ C.tab e = some f ∧ fills C (fun i => some (i * f.size, f.size)) (parts.toList.map fun (i, x) => (i, r x)) ti.zp = some cs)) :
    OpOk g o a H w γ { p := .agg cs } := by
  have hk := c.tab t ti ht
  obtain ⟨it, z, h1, h2, h3, h4⟩ := hk.info
  obtain ⟨hz, hz1, hz2⟩ := zp_rep w (okOf g w γ) γ hk.zp
  obtain ⟨hp1, hp2⟩ := parts_map parts r a hr
  have fin : ∀ {us' : List Value}, g.P.built t (parts.map fun (i, x) => (i, a.eval x)).toList = some us'.toArray → RepL w (okOf g w γ) γ cs us' → cs.all PV.one = true → OpOk g o a H w γ { p := .agg cs } := by
    intro us' hb hrr hone
    exact OpOk.value (v := .agg us'.toArray) (by simp only [execOp, ho, Sem.run_bind, run_build w t _ _ hb, Result.andThen_ok]; rfl) (Post.same m (Rep.agg' hone hrr))
  rcases h with ⟨fs, hf, hfill⟩ | ⟨n, e, f, hf, he, hfill⟩
  · obtain ⟨fa, hu, hfa⟩ := und_struct hk hf
    obtain ⟨places, hpl, hpk⟩ := places_ok g.P fa.toList fun fl hfl => hk.fs fs hf (fl.offset, fl.type) (by rw [← hfa]; exact List.mem_map.2 ⟨fl, hfl, rfl⟩)
    obtain ⟨us', hfl, hrr, _, hone⟩ := fill_rep (place' := (places.toArray[·]?)) (fun i x hx => by
      simp only [List.getElem?_toArray]
      split at hx
      · rename_i off ft hft
        split at hx
        · rename_i fi hfi
          obtain rfl := Option.some.inj hx
          exact hpk i off ft fi (by rw [hfa]; exact hft) (c.tab ft fi hfi)
        · simp at hx
      · simp at hx) m.one _ _ _ _ _ hp1 hp2 hz hz1 hz2 hfill
    refine fin ?_ hrr hone
    unfold Program.built
    simp only [h1, hu, h3, hpl]
    rw [h4]
    exact hfl
  · have hu := und_arr hk hf
    obtain ⟨ie, ze, e1, e2, _⟩ := (c.tab e f he).info
    obtain ⟨us', hfl, hrr, _, hone⟩ := fill_rep (place' := fun i => some (i * f.size, f.size)) (fun i x hx => hx) m.one _ _ _ _ _ hp1 hp2 hz hz1 hz2 hfill
    refine fin ?_ hrr hone
    unfold Program.built
    simp only [h1, hu, h3, e1, e2]
    rw [h4]
    exact hfl

theorem rep_zero (l : List Value) (hl : 0 < l.length) : ∀ n : Nat, (List.range (n * l.length)).map (fun k => l.getD (k % l.length) default) = (List.replicate n l).flatten
  | 0 => by simp
  | n + 1 => by
    rw [Nat.succ_mul, Nat.add_comm, List.range_add, List.map_append, List.map_map, List.replicate_succ, List.flatten_cons, ← rep_zero l hl n]
    congr 1
    · apply List.ext_getElem?
      intro j
      by_cases hj : j < l.length
      · simp [hj, Nat.mod_eq_of_lt hj, List.getD]
      · simp [hj, List.getElem?_eq_none (Nat.le_of_not_lt hj)]
    · apply List.map_congr_left
      intro k _
      simp
theorem rep_map (n : Nat) (l : List PV) : (rep n l).map toV = (List.replicate n (l.map toV)).flatten := by
  induction n with
  | zero => rfl
  | succ n ih => simp [rep, ih, List.replicate_succ]
theorem rep_plain (n : Nat) (l : List PV) (h : l.all plain = true) : (rep n l).all plain = true := by
  induction n with
  | zero => rfl
  | succ n ih => simp only [rep, List.all_append, h, ih, Bool.and_self]

theorem decAll_rep {T : ETy} : ∀ (n : Nat) (cs : List PV) (xs : List T.den) (vs : List Value), decAll T n cs = some xs → RepL w ok γ cs vs →
    xs.length = n ∧ ∀ k x j p, xs[k]? = some x → (T.cells x)[j]? = some p → Rep w ok γ p (vs.getD (k * T.size + j) undef)
  | 0, cs, xs, vs, h, hr => by
    simp [decAll] at h
    subst h
    exact ⟨rfl, fun k x j p hk => by simp at hk⟩
  | n + 1, cs, xs, vs, h, hr => by
    unfold decAll at h
    split at h
    · rename_i x hx
      split at h
      · rename_i xs' hxs
        obtain rfl := Option.some.inj h
        obtain ⟨h1, h2⟩ := decAll_rep n _ xs' _ hxs (hr.drop T.size)
        refine ⟨by simp [h1], fun k y j p hk hp => ?_⟩
        cases k with
        | zero =>
          simp at hk
          subst hk
          have hj : j < T.size := by rw [← cells_len T x]; exact (List.getElem?_eq_some_iff.1 hp).1
          have := (dec_rep hx (hr.take T.size)).2 j p hp
          simpa [List.getD, List.getElem?_take_of_lt hj] using this
        | succ k =>
          simp at hk
          have := h2 k y j p hk hp
          simp only [List.getD, List.getElem?_drop] at this
          rw [show (k + 1) * T.size + j = T.size + (k * T.size + j) by rw [Nat.succ_mul]; omega]
          simpa [List.getD] using this
      · simp at h
    · simp at h

theorem getBang (l : List Value) (k : Nat) : l.toArray[k]! = l.getD k default := by
  rw [Array.getElem!_eq_getD]
  simp [Array.getD_eq_getD_getElem?, List.getD]
theorem run_lit {P : Program} {t e : TypeId} {len : Nat} {parts : Array (Nat × Value)} {f : TI} (hu : P.underlying t = some (.slice e)) (hf : TabOk P e f) (hs : 0 < f.size) (hb : len * f.size ≤ 16777216) {us : List Value}
    (h : Instr.fill (fun i => some (i * f.size, f.size)) ((rep len f.zp).map toV).toArray parts.toList = some us.toArray) :
    (Instr.buildSlice t len parts).run P w = .ok (.slice (some ⟨w.heap.size, 0, none⟩) len len) (w.alloc (.cells us.toArray e)) := by
  obtain ⟨i, z, h1, h2, h3, h4⟩ := hf.info
  have hlen : (f.zp.map toV).length = f.size := by rw [List.length_map]; exact hf.len
  by_cases hl : len = 0
  · subst hl
    have hsz : (sizeOf e).run P w = .ok i.size w := by simp [sizeOf, typeInfo, h1]
    simp only [rep, List.map_nil] at h
    rw [← h2] at h
    have hz : Array.range 0 = #[] := rfl
    unfold Instr.buildSlice
    rw [Sem.run_bind, run_underlying hu, Result.andThen_ok]
    simp only []
    rw [Sem.run_bind, hsz, Result.andThen_ok]
    simp only [Nat.zero_mul, hz, Array.map_empty, if_true]
    rw [if_neg (by decide)]
    simp only [Sem.run_bind, Sem.run_pure, Result.andThen_ok, h]
    simp [newRow]
  · refine run_buildSlice w t e len parts us.toArray i z hu h1 h3 (by rw [h2]; omega) (by rw [h2]; exact Nat.ne_of_gt (Nat.mul_pos (Nat.pos_of_ne_zero hl) hs)) ?_
    rw [h2, ← h]
    congr 1
    apply Array.ext'
    rw [Array.toList_map, Array.toList_range, h4, List.size_toArray, hlen, rep_map, ← hlen, ← rep_zero _ (by rw [hlen]; exact hs)]
    apply List.map_congr_left
    intro k _
    exact getBang _ _
end

end Go.Proofs.Ytklgaodfakdjpaa.Ev
/- What the operations do: slice literals, append. -/
namespace Go.Proofs.Ytklgaodfakdjpaa.Ev
open Go Go.RowKit

section
variable {g : GI} {C : Cx} {H : Heap} {w : World} {γ : Nat → Option Value} {o : Oper} {a : Act} {ok : Nat → Prop}

theorem put_len {cs ps cs' : List PV} {off : Nat} (h : put cs off ps = some cs') : cs'.length = cs.length := by
  unfold put at h
  split at h
  · rename_i hc
    rw [Bool.and_eq_true] at hc
    have := Nat.le_of_ble_eq_true hc.1
    obtain rfl := Option.some.inj h
    simp only [List.length_append, List.length_take, List.length_drop]
    omega
  · simp at h
theorem fills_len {place : Nat → Option (Nat × Nat)} : ∀ (parts : List (Nat × PV)) (cs cs' : List PV), fills C place parts cs = some cs' → cs'.length = cs.length
  | [], cs, cs', h => by simp [fills] at h; rw [h]
  | (i, p) :: parts, cs, cs', h => by
    unfold fills at h
    split at h
    · split at h
      · split at h
        · rename_i hp
          rw [fills_len parts _ _ h, put_len hp]
        · simp at h
      · simp at h
    · simp at h
theorem rep_len (n : Nat) (l : List PV) : (rep n l).length = n * l.length := by
  induction n with
  | zero => simp [rep]
  | succ n ih => simp [rep, ih, Nat.succ_mul, Nat.add_comm]

theorem index_lt {i n j s : Nat} (hi : i < n) (hj : j < s) : i * s + j < n * s := by
  have : i * s + s ≤ n * s := by rw [← Nat.succ_mul]; exact Nat.mul_le_mul_right _ hi
  omega

theorem OpOk.buildSlice (c : CxOk g.P C) (m : MInv g H w γ) {t e : TypeId} {len : Nat} {parts : Array (Nat × Operand)} (ho : o.op = .buildSlice t len parts) {r : Operand → PV} (hr : ∀ x, Rep w (okOf g w γ) γ (r x) (a.eval x)) {ti f : TI} {T : ETy}
    (ht : C.tab t = some ti) (hk : ti.k = .slice e) (hf : C.tab e = some f) (hT : C.ety e = some T) {cs : List PV}
    (hfill : fills C (fun i => some (i * f.size, f.size)) (parts.toList.map fun (i, x) => (i, r x)) (rep len f.zp) = some cs) (hb : len * f.size ≤ 16777216) (hs : f.size = T.size) {xs : List T.den} (hd : decAll T len cs = some xs) :
    OpOk g o a H w γ { p := .sl T xs } ∧ ∀ e', Ev.made H (lid o.dst) (.row T e xs) (.own (lid o.dst)) = some e' → OpOk g o a H w γ e' := by
  have hfo := c.tab e f hf
  obtain ⟨hp1, hp2⟩ := parts_map parts r a hr
  obtain ⟨hz, hz1, hz2⟩ := zp_rep w (okOf g w γ) γ (rep_plain len f.zp hfo.zp)
  obtain ⟨us, hfl, hrr, hu1, _⟩ := fill_rep (place' := fun i => some (i * f.size, f.size)) (fun i x hx => hx) m.one _ _ _ _ _ hp1 hp2 hz hz1 hz2 hfill
  have hrun := run_lit (w := w) (und_slice (c.tab t ti ht) hk) hfo (by rw [hs]; exact size_pos T) hb hfl
  obtain ⟨hxl, hrep⟩ := decAll_rep len cs xs us hd hrr
  have hul : us.length = len * T.size := by rw [hrr.1, fills_len _ _ _ hfill, rep_len, hfo.len, hs]
  have hex : (execOp a.eval o).run g.P w = .ok (.value (.slice (some ⟨w.heap.size, 0, none⟩) len len)) (w.alloc (.cells us.toArray e)) := by
    simp only [execOp, ho, Sem.run_bind, hrun, Result.andThen_ok]
    rfl
  subst hxl
  refine ⟨OpOk.value hex (Post.grown m (alloc_below w _) ?_), fun e' he' => OpOk.value hex (Post.newRow m he' (c.ety e T hT) hul ?_ hrep hu1)⟩
  · have hnew : (w.alloc (.cells us.toArray e)).heap[w.heap.size]? = some (.cells us.toArray e (0, 0)) := heap_alloc_new w _
    have hok : okOf g (w.alloc (.cells us.toArray e)) γ w.heap.size := ⟨.inr (.inr m.fr.size), by simp, fun i v hv hbv => by have := (m.old i v _ hv hbv).2; omega⟩
    refine .sl T xs (some ⟨w.heap.size, 0, none⟩) xs.length (fun i j => us.getD (i * T.size + j) undef) (Nat.le_refl _) (fun h => by simp at h) (fun _ => ⟨_, rfl, hok, fun i j hi hj => ?_⟩) (fun i j hi hj => ?_) fun i x j p hx hp => (m.grow (alloc_below w _)).2 _ _ (hrep i x j p hx hp)
    · have hlt := index_lt hi hj
      rw [Addr.add_lit, Nat.zero_add, cell_of_row _ _ _ _ _ _ hnew]
      have hlt' : i * T.size + j < us.length := by rw [hul]; exact hlt
      simp [List.getD, hlt']
    · have hlt' : i * T.size + j < us.length := by rw [hul]; exact index_lt hi hj
      simp only [List.getD, List.getElem?_eq_getElem hlt', Option.getD_some]
      exact hu1 _ (List.getElem_mem hlt')
  · have : xs.length * 1 ≤ xs.length * f.size := Nat.mul_le_mul_left _ (by rw [hs]; exact size_pos T)
    simp only [maxLen]
    omega

/-- The cells of a slice, one after another. -/
theorem sl_cells {T : ETy} {xs : List T.den} {v : Value} (h : Rep w ok γ (.sl T xs) v) : (v = .slice none 0 0 ∧ xs = []) ∨ ∃ (ad : Addr) (c : Nat) (us : List Value), v = .slice (some ad) xs.length c ∧ us.length = xs.length * T.size ∧
    (∀ j u, us[j]? = some u → w.cell? (ad.add j) = some u) ∧ (∀ u ∈ us, u.oneCell' = true) ∧ (∀ k x j p, xs[k]? = some x → (T.cells x)[j]? = some p → Rep w ok γ p (us.getD (k * T.size + j) undef)) := by
  cases h with
  | sl T xs A c f hc hn hA h1 hf =>
    have hsp := size_pos T
    by_cases hx : xs = []
    · subst hx
      cases A with
      | none => exact .inl ⟨by rw [hn rfl]; rfl, rfl⟩
      | some ad => exact .inr ⟨ad, c, [], rfl, by simp, fun j u h => by simp at h, fun u h => by simp at h, fun k x j p h => by simp at h⟩
    · obtain ⟨ad, rfl, _, hcell⟩ := hA hx
      refine .inr ⟨ad, c, (List.range (xs.length * T.size)).map fun k => f (k / T.size) (k % T.size), rfl, by simp, fun j u hu => ?_, fun u hu => ?_, fun k x j p hk hp => ?_⟩
      · rw [List.getElem?_map, Option.map_eq_some_iff] at hu
        obtain ⟨k, hk, rfl⟩ := hu
        have hj : j < xs.length * T.size := by
          have := (List.getElem?_eq_some_iff.1 hk).1
          simpa using this
        rw [List.getElem?_range hj] at hk
        simp at hk
        subst hk
        have h1 := hcell (j / T.size) (j % T.size) (Nat.div_lt_of_lt_mul (by rw [Nat.mul_comm]; exact hj)) (Nat.mod_lt _ hsp)
        rwa [Nat.div_add_mod'] at h1
      · obtain ⟨k, hk, rfl⟩ := List.mem_map.1 hu
        rw [List.mem_range] at hk
        exact h1 _ _ (Nat.div_lt_of_lt_mul (by rw [Nat.mul_comm]; exact hk)) (Nat.mod_lt _ hsp)
      · have hj : j < T.size := by rw [← cells_len T x]; exact (List.getElem?_eq_some_iff.1 hp).1
        have hk' : k < xs.length := (List.getElem?_eq_some_iff.1 hk).1
        have hlt := index_lt hk' hj
        have e1 : (k * T.size + j) / T.size = k := by rw [Nat.add_comm, Nat.add_mul_div_right _ _ hsp, Nat.div_eq_of_lt hj, Nat.zero_add]
        have e2 : (k * T.size + j) % T.size = j := by rw [Nat.add_comm, Nat.add_mul_mod_self_right, Nat.mod_eq_of_lt hj]
        simp only [List.getD, List.getElem?_map, List.getElem?_range hlt, Option.map_some, Option.getD_some, e1, e2]
        exact hf k x j p hk hp

/-- What stands behind a slice that is read. -/
def SlC (w : World) (ok : Nat → Prop) (γ : Nat → Option Value) (T : ETy) (xs : List T.den) (v : Value) : Prop := (v = .slice none 0 0 ∧ xs = []) ∨ ∃ (ad : Addr) (c : Nat) (us : List Value), v = .slice (some ad) xs.length c ∧ us.length = xs.length * T.size ∧
    (∀ j u, us[j]? = some u → w.cell? (ad.add j) = some u) ∧ (∀ u ∈ us, u.oneCell' = true) ∧ (∀ k x j p, xs[k]? = some x → (T.cells x)[j]? = some p → Rep w ok γ p (us.getD (k * T.size + j) undef))
theorem own_cells (m : MInv g H w γ) {j : Nat} {T : ETy} {e : TypeId} {ys : List T.den} (hl : look H j = some (.row T e ys)) {v : Value} (h : Rep w (okOf g w γ) γ (.own j) v) : SlC w (okOf g w γ) γ T ys v := by
  obtain ⟨u, hu, zs, h2, h3, h4, h5⟩ := m.blks j _ hl
  cases h with
  | own i _ h =>
    rw [hu] at h
    obtain rfl := Option.some.inj h
    rcases h2.2 with ⟨rfl, hn⟩ | ⟨gb, cap, cur, rfl, rest⟩
    · exact .inl ⟨rfl, List.eq_nil_of_length_eq_zero hn⟩
    · exact .inr ⟨⟨gb, 0, none⟩, cap, zs, rfl, h2.1, fun j u hu => h2.cells (g := gb) rfl j u hu, h5, h4⟩
theorem OpOk.append (c : CxOk g.P C) (m : MInv g H w γ) {t e : TypeId} {x y : Operand} (ho : o.op = .call { callee := .builtin .append, args := #[x, y], argTypes := #[t, t] }) {ti : TI} (ht : C.tab t = some ti) (hk : ti.k = .slice e)
    {i : Nat} (hx : Rep w (okOf g w γ) γ (.own i) (a.eval x)) {T : ETy} {xs ys : List T.den} (hl : look H i = some (.row T e xs)) (hy : SlC w (okOf g w γ) γ T ys (a.eval y)) (hb : (xs.length + ys.length) * T.bytes ≤ 140737488355328) {fp : List Nat} :
    OpOk g o a H w γ ⟨.own i, [(i, some (.row T e (xs ++ ys)))], [i], fp⟩ := by
  obtain ⟨v, hv, zs, h2, h3, h4, h5⟩ := m.blks i _ hl
  have hex : a.eval x = v := by
    generalize a.eval x = u at hx
    cases hx with
    | own i _ h => rw [hv] at h; exact (Option.some.inj h).symm
  have hlt : i < (H.map (killB i)).length := by simpa using look_lt hl
  have hH : applyH H ⟨.own i, [(i, some (.row T e (xs ++ ys)))], [i], fp⟩ = (H.map (killB i)).set i (some (.row T e (xs ++ ys))) := rfl
  have fin : ∀ {v' : Value} {w' : World} {us : List Value}, (Builtin.append_ #[t, t] o.type #[a.eval x, a.eval y]).run g.P w = .ok v' w' → w'.ownsRow 0 e T.size v' (xs.length + ys.length) (zs ++ us) → w.grownBy w' v.ownBlock →
      (v'.ownBlock = v.ownBlock ∨ v'.ownBlock = some w.heap.size) → (∀ u ∈ us, u.oneCell' = true) → us.length = ys.length * T.size →
      (∀ k x j p, ys[k]? = some x → (T.cells x)[j]? = some p → Rep w (okOf g w γ) γ p (us.getD (k * T.size + j) undef)) → OpOk g o a H w γ ⟨.own i, [(i, some (.row T e (xs ++ ys)))], [i], fp⟩ := by
    intro v' w' us hrun hown hgr hat hu1 hul hur
    have hbv : blk v = v.ownBlock := blk_ownBlock h2
    have hbv' : blk v' = v'.ownBlock := blk_ownBlock hown
    have hput := m.put i (.row T e (xs ++ ys)) v' w' ((H.map (killB i)).set i (some (.row T e (xs ++ ys)))) true hgr.size hgr.os hgr.tape hgr.output (fun k hk hne => hgr.block k hk (fun h => hne v hv (by rw [hbv, ← h])))
      (fun β hβ => by
        rw [hbv'] at hβ
        rcases hat with hat | hat
        · exact .inl ⟨v, hv, by rw [hbv, ← hat]; exact hβ⟩
        · rw [hat] at hβ
          obtain rfl := Option.some.inj hβ
          exact .inr ⟨Nat.le_refl _, (hown.lt _ hat).2⟩) (.inl rfl) (fun v' hv' => m.fxRow hl hv v' hv') (by rw [look_set hlt]; simp) (fun j hj => by rw [look_set hlt, look_map]; simp [hj])
      (fun tr => by
        refine ⟨zs ++ us, by rw [List.length_append]; exact hown, h3, fun k z j p hk hp => ?_, fun u hu => ?_⟩
        · refine tr _ _ ?_ fun _ hm => by rw [cells_id hp] at hm; simp at hm
          have hj : j < T.size := by rw [← cells_len T z]; exact (List.getElem?_eq_some_iff.1 hp).1
          have hzl : zs.length = xs.length * T.size := h2.1
          by_cases hkx : k < xs.length
          · rw [List.getElem?_append_left hkx] at hk
            have := h4 k z j p hk hp
            have hlt := index_lt hkx hj
            simpa [List.getD, List.getElem?_append_left (show k * T.size + j < zs.length by rw [hzl]; exact hlt)] using this
          · have hkx := Nat.le_of_not_lt hkx
            rw [List.getElem?_append_right hkx] at hk
            have := hur _ z j p hk hp
            have hge : zs.length ≤ k * T.size + j := by rw [hzl]; exact Nat.le_add_right_of_le (Nat.mul_le_mul_right _ hkx)
            simp only [List.getD, List.getElem?_append_right hge]
            rw [show k * T.size + j - zs.length = (k - xs.length) * T.size + j by rw [hzl, Nat.sub_mul]; have := Nat.mul_le_mul_right T.size hkx; omega]
            simpa [List.getD] using this
        · rw [List.mem_append] at hu
          rcases hu with hu | hu
          · exact h5 u hu
          · exact hu1 u hu)
    refine OpOk.value (v := v') (w' := w') (γ' := upd γ i v') ?_ ⟨by rw [hH]; exact hput.1, .own i _ (upd_same _ _ _), fun p u h hkp => hput.2.1 p u h fun _ => hkp i (by simp), hput.2.2⟩
    simp [execOp, ho, resolve, invoke, builtin, hrun]
  obtain ⟨ie, z, e1, e2, e3, e4, e5⟩ := h3
  have hbt := bytes_pos T
  have h63 : xs.length + ys.length ≤ maxLen := by
    have : (xs.length + ys.length) * 1 ≤ (xs.length + ys.length) * T.bytes := Nat.mul_le_mul_left _ hbt
    simp only [maxLen]
    omega
  rcases hy with ⟨hn, rfl⟩ | ⟨ad, cp, us, hey, hul, huc, hu1, hur⟩
  · have := run_append_owned_none (P := g.P) w 0 t o.type e ie T.size (und_slice (c.tab t ti ht) hk) e1 v xs.length zs h2
    refine fin (us := []) (by rw [hex, hn]; exact this) (by simpa using h2) ⟨rfl, rfl, rfl, Nat.le_refl _, fun _ _ _ => rfl⟩ (.inl rfl) (fun u hu => by simp at hu) (by simp) (fun k x j p hk => by simp at hk)
  · obtain ⟨v', w', hrun, hown, hgr, _, hat⟩ := run_append_own_at (P := g.P) w 0 t o.type e ie z T.size T.bytes (und_slice (c.tab t ti ht) hk) e1 e4 e2 e3 e5 (size_pos T) v xs.length zs h2 ad ys.length cp us hul huc hu1 h63 hb (Nat.zero_le _)
    exact fin (by rw [hex, hey]; exact hrun) hown hgr hat hu1 hul hur

theorem below_of_grown {w w' : World} (h : w.grownBy w' none) : Below w.heap.size w w' := ⟨h.os, h.tape, h.output, h.size, fun k hk => h.block k hk (by simp)⟩
theorem OpOk.appendNil (c : CxOk g.P C) (m : MInv g H w γ) {t e : TypeId} {x y : Operand} (ho : o.op = .call { callee := .builtin .append, args := #[x, y], argTypes := #[t, t] }) {ti : TI} (ht : C.tab t = some ti) (hk : ti.k = .slice e)
    (hx : a.eval x = .slice none 0 0) {T : ETy} {ys : List T.den} (hT : ElemOk g.P e T) (hy : SlC w (okOf g w γ) γ T ys (a.eval y)) (hb : ys.length * T.bytes ≤ 140737488355328) {ef : Eff} (he : Ev.made H (lid o.dst) (.row T e ys) (.own (lid o.dst)) = some ef) :
    OpOk g o a H w γ ef := by
  have h2 := World.ownsRow_nil w 0 e T.size
  have fin : ∀ {v' : Value} {w' : World} {us : List Value}, (Builtin.append_ #[t, t] o.type #[a.eval x, a.eval y]).run g.P w = .ok v' w' → w'.ownsRow 0 e T.size v' ys.length us → w.grownBy w' none →
      (v'.ownBlock = none ∨ v'.ownBlock = some w.heap.size) → (∀ u ∈ us, u.oneCell' = true) →
      (∀ k x j p, ys[k]? = some x → (T.cells x)[j]? = some p → Rep w (okOf g w γ) γ p (us.getD (k * T.size + j) undef)) → OpOk g o a H w γ ef := by
    intro v' w' us hrun hown hgr hat hu1 hur
    have hbv' : blk v' = v'.ownBlock := blk_ownBlock hown
    refine OpOk.value (v := v') (w' := w') ?_ (Post.made m he (below_of_grown hgr) (fun β hβ => ?_) (fun tr => ⟨us, hown, hT, fun k z j p hz hp => tr _ _ (hur k z j p hz hp) fun _ hm => by rw [cells_id hp] at hm; simp at hm, hu1⟩) (.inr rfl))
    · simp [execOp, ho, resolve, invoke, builtin, hrun]
    · rw [hbv'] at hβ
      rcases hat with hat | hat
      · rw [hat] at hβ; simp at hβ
      · rw [hat] at hβ
        obtain rfl := Option.some.inj hβ
        exact ⟨Nat.le_refl _, (hown.lt _ hat).2⟩
  obtain ⟨ie, z, e1, e2, e3, e4, e5⟩ := hT
  have hbt := bytes_pos T
  have h63 : 0 + ys.length ≤ maxLen := by
    have : ys.length * 1 ≤ ys.length * T.bytes := Nat.mul_le_mul_left _ hbt
    simp only [maxLen]
    omega
  rcases hy with ⟨hn, rfl⟩ | ⟨ad, cp, us, hey, hul, huc, hu1, hur⟩
  · have := run_append_owned_none (P := g.P) w 0 t o.type e ie T.size (und_slice (c.tab t ti ht) hk) e1 (.slice none 0 0) 0 [] h2
    exact fin (us := []) (by rw [hx, hn]; exact this) h2 ⟨rfl, rfl, rfl, Nat.le_refl _, fun _ _ _ => rfl⟩ (.inl rfl) (fun u hu => by simp at hu) (fun k x j p hk => by simp at hk)
  · obtain ⟨v', w', hrun, hown, hgr, _, hat⟩ := run_append_own_at (P := g.P) w 0 t o.type e ie z T.size T.bytes (und_slice (c.tab t ti ht) hk) e1 e4 e2 e3 e5 (size_pos T) (.slice none 0 0) 0 [] h2 ad ys.length cp us hul huc hu1 h63 (by simpa using hb) (Nat.zero_le _)
    exact fin (us := us) (by rw [hx, hey]; exact hrun) (by simpa using hown) hgr hat hu1 hur
end

end Go.Proofs.Ytklgaodfakdjpaa.Ev
/- What the operations do: numbers, addresses, slices, interfaces. -/
namespace Go.Proofs.Ytklgaodfakdjpaa.Ev
open Go Go.RowKit

section
variable {g : GI} {C : Cx} {H : Heap} {w : World} {γ : Nat → Option Value} {o : Oper} {a : Act} {ok : Nat → Prop}

theorem nil_sl (T : ETy) : Rep w ok γ (.sl T []) (.slice none 0 0) :=
  .sl T [] none 0 (fun _ _ => undef) (by simp) (fun _ => rfl) (fun h => absurd rfl h) (fun i j h => by simp at h) (fun i x j p h => by simp at h)
theorem typed_rep {t : TypeId} {p : PV} {v : Value} (h : Rep w ok γ p v) : Rep w ok γ (typed C t p) v := by
  unfold typed
  split
  · cases h
    split
    · split
      · exact .nsl _ _
      · exact .nils
    · exact .nils
  · exact h
theorem soft_rep {p : PV} {v : Value} (h : Rep w ok γ p v) : Rep w ok γ p.soft v := by
  cases h with
  | nsl e T => exact nil_sl T
  | slz T xs ad c h => exact h
  | _ => first | exact .junk _ | (constructor <;> assumption)
theorem typedL_rep : ∀ (ts : List TypeId) {ps : List PV} {vs : List Value}, RepL w ok γ ps vs → RepL w ok γ (typedL C ts ps) vs
  | [], _, _, h => by unfold typedL; exact h
  | t :: ts, [], _, h => by unfold typedL; exact h
  | t :: ts, p :: ps, vs, h => by
    obtain ⟨v, us, rfl, h1, h2⟩ := h.cons_inv
    unfold typedL
    exact .cons (soft_rep (typed_rep h1)) (typedL_rep ts h2)

theorem OpOk.copyOf (m : MInv g H w γ) {x : Operand} (ho : o.op = .move x ∨ o.op = .assign x) {p : PV} (hp : Rep w (okOf g w γ) γ p (a.eval x)) : OpOk g o a H w γ { p } :=
  OpOk.value (v := a.eval x) (by rcases ho with ho | ho <;> simp [execOp, ho]) (Post.same m hp)

theorem OpOk.nilCheck (m : MInv g H w γ) {x : Operand} (ho : o.op = .nilCheck x) {p : PV} (hp : Rep w (okOf g w γ) γ p (a.eval x)) (h : (∃ cs off, p = .ptr cs off) ∨ (∃ i off, p = .ref i off) ∨ (∃ i T ix off, p = .eref i T ix off)) : OpOk g o a H w γ { p } := by
  have hp' := hp
  rcases h with ⟨cs, off, rfl⟩ | ⟨i, off, rfl⟩ | ⟨i, T, ix, off, rfl⟩ <;>
  · generalize hv : a.eval x = v at hp
    cases hp
    exact OpOk.value (v := a.eval x) (by simp [execOp, ho, hv]) (Post.same m hp')

theorem OpOk.nilCheckM (c : CxOk g.P C) (m : MInv g H w γ) {x : Operand} (ho : o.op = .nilCheck x) {n : String} {t : TypeId} {q : PV} {cs : List PV} (hp : Rep w (okOf g w γ) γ (.fn (.method n) [.iface t q] cs) (a.eval x)) {f : FuncId} (hm : C.meth t n = some f) : OpOk g o a H w γ { p := .fn (.method n) [.iface t q] cs } := by
  have hp' := hp
  generalize hv : a.eval x = v at hp
  cases hp with
  | fn f' as' cs' fs us ha hc h1 h2 =>
    obtain ⟨u, rfl⟩ : ∃ u, fs = [u] := by
      cases fs with
      | nil => simp at ha
      | cons u l => cases l with
        | nil => exact ⟨u, rfl⟩
        | cons _ _ => simp at ha
    have hu : Rep w (okOf g w γ) γ (.iface t q) u := h1 0 _ rfl
    generalize hpt : PV.iface t q = pt at hu
    cases hu <;> try (simp at hpt; done)
    rename_i t' q' v' hq
    obtain ⟨rfl, rfl⟩ : t = t' ∧ q = q' := by simpa using hpt
    have hn := c.meth0 t n f hm v' w
    refine OpOk.value (v := a.eval x) ?_ (Post.same m hp')
    simp only [execOp, ho, hv]
    have h0 : ([Value.iface t v'].toArray)[0]? = some (Value.iface t v') := rfl
    simp only [h0, Sem.run_bind, Sem.run_pure, Result.andThen_ok]
    have hp0 : Sem.run g.P program w = .ok g.P w := rfl
    simp [hp0, hn, Result.andThen_ok]
theorem OpOk.unOp (m : MInv g H w γ) {op : UnOp} {t : TypeId} {x : Operand} (ho : o.op = .unOp op t x) {p q : PV} (hp : Rep w (okOf g w γ) γ p (a.eval x))
    (h : (op = .not ∧ ∃ v, p = .b v ∧ q = .b (!v)) ∨ (op = .neg ∧ ∃ k v, p = .i k v ∧ q = .i k (k.wrap (0 - v)))) : OpOk g o a H w γ { p := q } := by
  rcases h with ⟨rfl, v, rfl, rfl⟩ | ⟨rfl, k, v, rfl, rfl⟩
  · generalize hv : a.eval x = u at hp
    cases hp
    exact OpOk.value (v := .bool (!v)) (by simp [execOp, ho, hv, Op.unary]) (Post.same m (.b _))
  · generalize hv : a.eval x = u at hp
    cases hp
    exact OpOk.value (v := .int k (k.wrap (0 - v))) (by simp [execOp, ho, hv, Op.unary, Op.intArith]) (Post.same m (.i _ _))

theorem arith_run {op : BinOp} {k : IntKind} {x y : Int} {q : PV} (h : arith op k x y = some q) (hs : op ≠ .shr) {t : TypeId} : ∃ v, (binOp op t (.int k x) (.int k y)).run g.P w = .ok v w ∧ Rep w ok γ q v := by
  unfold arith at h
  split at h
  case h_1 => obtain rfl := Option.some.inj h; exact ⟨_, by simp [binOp, Op.intArith], .i _ _⟩
  case h_2 => obtain rfl := Option.some.inj h; exact ⟨_, by simp [binOp, Op.intArith], .i _ _⟩
  case h_3 => obtain rfl := Option.some.inj h; exact ⟨_, by simp [binOp, Op.intArith], .i _ _⟩
  case h_4 =>
    split at h
    · simp at h
    · rename_i hy
      obtain rfl := Option.some.inj h
      have hy : ¬ y = 0 := by simpa using hy
      exact ⟨_, by simp [binOp, Op.intDiv, hy], .i _ _⟩
  case h_5 =>
    split at h
    · simp at h
    · rename_i hy
      obtain rfl := Option.some.inj h
      have hy : ¬ y = 0 := by simpa using hy
      exact ⟨_, by simp [binOp, Op.intDiv, hy], .i _ _⟩
  case h_6 => obtain rfl := Option.some.inj h; exact ⟨_, by simp [binOp, Op.intBits], .i _ _⟩
  case h_7 => obtain rfl := Option.some.inj h; exact ⟨_, by simp [binOp, Op.intCmp], .b _⟩
  case h_8 => obtain rfl := Option.some.inj h; exact ⟨_, by simp [binOp, Op.intCmp], .b _⟩
  case h_9 => obtain rfl := Option.some.inj h; exact ⟨_, by simp [binOp, Op.intCmp], .b _⟩
  case h_10 => obtain rfl := Option.some.inj h; exact ⟨_, by simp [binOp, Op.intCmp], .b _⟩
  case h_11 => obtain rfl := Option.some.inj h; exact ⟨_, by simp [binOp, Op.intCmp], .b _⟩
  case h_12 => obtain rfl := Option.some.inj h; exact ⟨_, by simp [binOp, Op.intCmp], .b _⟩
  case h_13 => simp at h

theorem isPtr_und {P : Program} (c : CxOk P C) {t : TypeId} (h : isPtr C t = true) : ∃ e, P.underlying t = some (.pointer e) := by
  unfold isPtr at h
  split at h
  · rename_i s z hk
    obtain ⟨d, h1, h2⟩ := (c.tab t _ hk).und
    rw [h1]
    cases d <;> simp [sk] at h2
    exact ⟨_, rfl⟩
  · simp at h

theorem run_eq_nilIn {P : Program} {t e : TypeId} (hu : P.underlying t = some (.pointer e)) (d : Nat) (A : Option Addr) : (Op.equalIn (d + 1) t (.pointer A) (.pointer none)).run P w = .ok A.isNone w := by
  unfold Op.equalIn
  rw [Sem.run_bind, run_underlying hu, Result.andThen_ok]
  cases A <;> rfl
theorem run_eq_nil {P : Program} {t e : TypeId} (hu : P.underlying t = some (.pointer e)) (A : Option Addr) : (Op.equal t (.pointer A) (.pointer none)).run P w = .ok A.isNone w := run_eq_nilIn hu 9999 A

theorem isSl_und {P : Program} (c : CxOk P C) {t : TypeId} (h : isSlT C t = true) : ∃ e, P.underlying t = some (.slice e) := by
  unfold isSlT at h
  split at h
  · rename_i s z e hk
    obtain ⟨d, h1, h2⟩ := (c.tab t _ hk).und
    rw [h1]
    cases d <;> simp [sk] at h2
    exact ⟨_, rfl⟩
  · simp at h
theorem run_eq_nilS {P : Program} {t e : TypeId} (hu : P.underlying t = some (.slice e)) (A : Option Addr) (n c : Nat) : (Op.equal t (.slice A n c) (.slice none 0 0)).run P w = .ok A.isNone w := by
  show (Op.equalIn (9999 + 1) t (.slice A n c) (.slice none 0 0)).run P w = .ok A.isNone w
  unfold Op.equalIn
  rw [Sem.run_bind, run_underlying hu, Result.andThen_ok]
  cases A <;> rfl
theorem eqGuard_slice {P : Program} (op : BinOp) (t : TypeId) (x y : Operand) (A B : Option Addr) (n c m d : Nat) : (eqGuard op t x y (.slice A n c) (.slice B m d)).run P w = .ok () w := by
  cases op <;> simp [eqGuard]
theorem eqCells_inv : ∀ (xs ys : List PV) (r : Bool) (vs us : List Value), RepL w ok γ xs vs → RepL w ok γ ys us → eqCells xs ys = some r →
    ∃ as bs : List Int, as.length = xs.length ∧ bs.length = xs.length ∧ vs = as.map (Value.int .i64) ∧ us = bs.map (Value.int .i64) ∧ r = eqInts as bs
  | [], [], r, vs, us, h1, h2, h => by
    simp only [eqCells, Option.some.injEq] at h
    exact ⟨[], [], rfl, rfl, h1.nil_inv, h2.nil_inv, h.symm⟩
  | x :: xs, ys, r, vs, us, h1, h2, h => by
    unfold eqCells at h
    split at h
    · rename_i hx; simp at hx
    · rename_i a xs' b ys' hx
      obtain ⟨rfl, rfl⟩ := List.cons.inj hx
      split at h
      · rename_i r' hr
        obtain rfl := Option.some.inj h
        obtain ⟨v, vs', rfl, k1, k2⟩ := h1.cons_inv
        obtain ⟨u, us', rfl, k3, k4⟩ := h2.cons_inv
        obtain ⟨as, bs, e1, e2, rfl, rfl, rfl⟩ := eqCells_inv xs ys' r' vs' us' k2 k4 hr
        cases k1
        cases k3
        exact ⟨a :: as, b :: bs, by simp [e1], by simp [e2], rfl, rfl, rfl⟩
      · simp at h
    · simp at h
  | [], y :: ys, r, vs, us, h1, h2, h => by simp [eqCells] at h
theorem OpOk.binOp (c : CxOk g.P C) (m : MInv g H w γ) {op : BinOp} {t t' : TypeId} {x y : Operand} (ho : o.op = .binOp op t x y t') {p q r : PV} (hp : Rep w (okOf g w γ) γ p (a.eval x)) (hq : Rep w (okOf g w γ) γ q (a.eval y)) (h : binop C op t p q = some r) :
    OpOk g o a H w γ { p := r } := by
  have fin : ∀ {v : Value}, ((do eqGuard op t x y (a.eval x) (a.eval y); Go.binOp op t (a.eval x) (a.eval y)) : Sem Value).run g.P w = .ok v w → Rep w (okOf g w γ) γ r v → OpOk g o a H w γ { p := r } := by
    intro v hr hrep
    refine OpOk.value (v := v) ?_ (Post.same m hrep)
    simp only [execOp, ho]
    rw [Sem.run_bind, hr]
    rfl
  generalize hvx : a.eval x = u at *
  generalize hvy : a.eval y = v at *
  unfold binop at h
  split at h
  · cases hp
    cases hq
    rename_i k b k' b'
    split at h
    · unfold shr at h
      split at h
      · simp at h
      · rename_i hb
        obtain rfl := Option.some.inj h
        refine fin (v := .int k (b.fdiv (2 ^ min b'.toNat k.bits))) ?_ (.i _ _)
        rw [eqGuard_at_int]
        simp [Go.binOp, Op.shift, hb]
    · rename_i hne
      split at h
      · rename_i hk
        have hk : k = k' := by simpa using hk
        subst hk
        obtain ⟨v, hr, hrep⟩ := arith_run (g := g) (w := w) (ok := okOf g w γ) (γ := γ) h (fun e => hne e) (t := t)
        refine fin ?_ hrep
        rw [eqGuard_at_int]
        simpa using hr
      · simp at h
  · cases hp
    cases hq
    split at h
    · obtain rfl := Option.some.inj h
      exact fin (v := .bool _) (by rw [eqGuard_at_string]; simp [Go.binOp, Op.stringOp]) (.b _)
    · obtain rfl := Option.some.inj h
      exact fin (v := .bool _) (by rw [eqGuard_at_string]; simp [Go.binOp, Op.stringOp]) (.b _)
    · simp at h
  · obtain ⟨vs, rfl, hr1, _⟩ := hp.agg_inv
    obtain ⟨us, rfl, hr2, _⟩ := hq.agg_inv
    have key : ∀ {xs ys : List PV} {r : Bool}, RepL w (okOf g w γ) γ xs vs → RepL w (okOf g w γ) γ ys us → Nat.beq (xs.length + 1) (C.eqs t) = true → eqCells xs ys = some r →
        (Op.equalIn 10000 t (.agg vs.toArray) (.agg us.toArray)).run g.P w = .ok r w ∧ g.P.eqGuardType g.P.depth t = false := by
      intro xs ys r h1 h2 hn hc
      have hn := Nat.eq_of_beq_eq_true hn
      obtain ⟨as, bs, hl1, hl2, rfl, rfl, rfl⟩ := eqCells_inv xs ys r vs us h1 h2 hc
      have := c.eqs t _ hn.symm w as bs hl1 hl2
      exact ⟨this.2, this.1⟩
    split at h
    · rename_i hn hc
      obtain rfl := Option.some.inj h
      obtain ⟨hk, hg⟩ := key hr1 hr2 hn hc
      exact fin (v := .bool _) (by rw [Sem.run_bind, run_eqGuard_agg w .eql t x y _ _ hg, Result.andThen_ok, run_eql_struct, hk]; rfl) (.b _)
    · rename_i hn hc
      obtain rfl := Option.some.inj h
      obtain ⟨hk, hg⟩ := key hr1 hr2 hn hc
      exact fin (v := .bool _) (by rw [Sem.run_bind, run_eqGuard_agg w .neq t x y _ _ hg, Result.andThen_ok, run_neq_struct, hk]; rfl) (.b _)
    · simp at h
  · cases hp
    cases hq
    split at h
    · rename_i sz zp ht
      have hu : g.P.underlying t = some .bool := by
        obtain ⟨d, h1, h2⟩ := (c.tab t _ ht).und
        rw [h1]
        simp only [] at h2
        cases d <;> simp [sk] at h2
        rfl
      have hg : ∀ (op : BinOp) (a b : Bool), (eqGuard op t x y (.bool a) (.bool b)).run g.P w = .ok () w := by
        intro op a b
        cases op <;> simp [eqGuard]
      split at h
      · obtain rfl := Option.some.inj h
        exact fin (v := .bool _) (by rw [Sem.run_bind, hg, Result.andThen_ok]; simp [Go.binOp, Op.equal, Op.maxDepth, run_equalIn_bool' w 9999 t _ _ hu]) (.b _)
      · obtain rfl := Option.some.inj h
        exact fin (v := .bool _) (by rw [Sem.run_bind, hg, Result.andThen_ok]; simp [Go.binOp, Op.equal, Op.maxDepth, run_equalIn_bool' w 9999 t _ _ hu]) (.b _)
      · simp at h
    · simp at h
  · cases hp
    cases hq
    split at h
    · rename_i hpt
      obtain ⟨e, hu⟩ := isPtr_und c hpt
      obtain rfl := Option.some.inj h
      exact fin (v := .bool true) (by rw [eqGuard_at_pointer]; simp [Go.binOp, run_eq_nil hu]) (.b _)
    · rename_i hpt
      obtain ⟨e, hu⟩ := isPtr_und c hpt
      obtain rfl := Option.some.inj h
      exact fin (v := .bool false) (by rw [eqGuard_at_pointer]; simp [Go.binOp, run_eq_nil hu]) (.b _)
    · simp at h
  · cases hp
    cases hq
    split at h
    · rename_i hpt
      obtain ⟨e, hu⟩ := isPtr_und c hpt
      obtain rfl := Option.some.inj h
      exact fin (v := .bool false) (by rw [eqGuard_at_pointer]; simp [Go.binOp, run_eq_nil hu]) (.b _)
    · rename_i hpt
      obtain ⟨e, hu⟩ := isPtr_und c hpt
      obtain rfl := Option.some.inj h
      exact fin (v := .bool true) (by rw [eqGuard_at_pointer]; simp [Go.binOp, run_eq_nil hu]) (.b _)
    · simp at h
  · cases hp
    cases hq
    split at h
    · rename_i hpt
      obtain ⟨e, hu⟩ := isPtr_und c hpt
      obtain rfl := Option.some.inj h
      exact fin (v := .bool false) (by rw [eqGuard_at_pointer]; simp [Go.binOp, run_eq_nil hu]) (.b _)
    · rename_i hpt
      obtain ⟨e, hu⟩ := isPtr_und c hpt
      obtain rfl := Option.some.inj h
      exact fin (v := .bool true) (by rw [eqGuard_at_pointer]; simp [Go.binOp, run_eq_nil hu]) (.b _)
    · simp at h
  · cases hp
    cases hq
    split at h
    · rename_i hpt
      obtain ⟨e, hu⟩ := isSl_und c hpt
      obtain rfl := Option.some.inj h
      exact fin (v := .bool true) (by rw [Sem.run_bind, eqGuard_slice, Result.andThen_ok]; simp [Go.binOp, run_eq_nilS hu]) (.b _)
    · rename_i hpt
      obtain ⟨e, hu⟩ := isSl_und c hpt
      obtain rfl := Option.some.inj h
      exact fin (v := .bool false) (by rw [Sem.run_bind, eqGuard_slice, Result.andThen_ok]; simp [Go.binOp, run_eq_nilS hu]) (.b _)
    · simp at h
  · cases hp
    cases hq
    split at h
    · rename_i hpt
      obtain ⟨e, hu⟩ := isSl_und c hpt
      obtain rfl := Option.some.inj h
      exact fin (v := .bool false) (by rw [Sem.run_bind, eqGuard_slice, Result.andThen_ok]; simp [Go.binOp, run_eq_nilS hu]) (.b _)
    · rename_i hpt
      obtain ⟨e, hu⟩ := isSl_und c hpt
      obtain rfl := Option.some.inj h
      exact fin (v := .bool true) (by rw [Sem.run_bind, eqGuard_slice, Result.andThen_ok]; simp [Go.binOp, run_eq_nilS hu]) (.b _)
    · simp at h
  · simp at h
end

end Go.Proofs.Ytklgaodfakdjpaa.Ev
/- What the operations do: conversions, addresses, slices, interfaces, len, max, min. -/
namespace Go.Proofs.Ytklgaodfakdjpaa.Ev
open Go Go.RowKit

section
variable {g : GI} {C : Cx} {H : Heap} {w : World} {γ : Nat → Option Value} {o : Oper} {a : Act} {ok : Nat → Prop}

theorem OpOk.convertInt (c : CxOk g.P C) (m : MInv g H w γ) {s t : TypeId} {x : Operand} (ho : o.op = .convert s t x) {ts tt : TI} (hs : C.tab s = some ts) (ht : C.tab t = some tt) {k : IntKind} (hk : tt.k = .int k) {k' : IntKind} {v : Int}
    (hx : Rep w (okOf g w γ) γ (.i k' v) (a.eval x)) : OpOk g o a H w γ { p := .i k (k.wrap v) } := by
  generalize hv : a.eval x = u at hx
  cases hx
  obtain ⟨d, hd, _⟩ := (c.tab s ts hs).und
  refine OpOk.value (v := .int k (k.wrap v)) ?_ (Post.same m (.i _ _))
  simp [execOp, ho, hv, convert, run_underlying hd, run_underlying (und_int (c.tab t tt ht) hk), Conv.intToInt]
theorem OpOk.convertBytes (c : CxOk g.P C) (m : MInv g H w γ) {s t e : TypeId} {x : Operand} (ho : o.op = .convert s t x) {ts tt te : TI} (hs : C.tab s = some ts) (ht : C.tab t = some tt) (hk : tt.k = .slice e) (he : C.tab e = some te) (hek : te.k = .int .u8) {v : ByteArray}
    (hx : Rep w (okOf g w γ) γ (.s v) (a.eval x)) : OpOk g o a H w γ { p := .sl .u8 (bytesOf v) } := by
  generalize hv : a.eval x = u at hx
  cases hx
  obtain ⟨d, hd, _⟩ := (c.tab s ts hs).und
  have hrun := Lib.run_convert_string_bytes w s t e v hd (und_slice (c.tab t tt ht) hk) (und_int (c.tab e te he) hek)
  have hb : Below w.heap.size w (Lib.bytesWorld w e v) := ⟨rfl, rfl, rfl, by rw [Lib.bytesWorld_size]; omega, fun k hk => Lib.bytesWorld_at_old w e v k hk⟩
  have hl : (bytesOf v).length = v.size := by simp [bytesOf]
  refine OpOk.value (v := .slice (some ⟨w.heap.size, 0, none⟩) v.size (grownCap w v.size 0 e)) (w' := Lib.bytesWorld w e v) (by simp [execOp, ho, hv, hrun]) (Post.grown m hb ?_)
  have hok : okOf g (Lib.bytesWorld w e v) γ w.heap.size := ⟨.inr (.inr m.fr.size), by rw [Lib.bytesWorld_size]; omega, fun i v hv hbv => by have := (m.old i v _ hv hbv).2; omega⟩
  rw [← hl]
  refine .sl .u8 (bytesOf v) (some ⟨w.heap.size, 0, none⟩) _ (fun i _ => .int .u8 (v.data.toList.getD i 0).toNat) (by rw [hl]; exact grownCap_ge w v.size 0 e) (fun h => by simp at h) (fun _ => ⟨_, rfl, hok, fun i j hi hj => ?_⟩) (fun i j hi hj => rfl) fun i x j p hx hp => ?_
  · have hj : j = 0 := by simp [ETy.size] at hj; exact hj
    subst hj
    rw [hl] at hi
    rw [Addr.add_lit]
    simpa [ETy.size] using Lib.bytesWorld_cell w e v i hi
  · have hj : j < 1 := (List.getElem?_eq_some_iff.1 hp).1
    have hj : j = 0 := by omega
    subst hj
    simp only [ETy.cells, List.getElem?_cons_zero, Option.some.injEq] at hp
    subst hp
    have : x = ((v.data.toList.getD i 0).toNat : Int) := by
      simp only [bytesOf, List.getElem?_map, Option.map_eq_some_iff] at hx
      obtain ⟨b, hb, rfl⟩ := hx
      simp [List.getD, hb]
    rw [this]
    exact .i _ _

theorem OpOk.makeInterface (c : CxOk g.P C) (m : MInv g H w γ) {t : TypeId} {x : Operand} (ho : o.op = .makeInterface t x) {ti : TI} (ht : C.tab t = some ti) (hk : ti.k ≠ .iface) {p : PV} (hp : Rep w (okOf g w γ) γ p (a.eval x)) : OpOk g o a H w γ { p := .iface t p } := by
  obtain ⟨d, hd, hs⟩ := (c.tab t ti ht).und
  refine OpOk.value (v := .iface t (a.eval x)) ?_ (Post.same m (.iface _ _ _ hp))
  have : (Instr.makeInterface t (a.eval x)).run g.P w = .ok (.iface t (a.eval x)) w := by
    unfold Instr.makeInterface
    rw [Sem.run_bind, run_underlying hd, Result.andThen_ok]
    cases d <;> first | rfl | (rw [← hs] at hk; exact absurd rfl hk)
  simp [execOp, ho, this]
theorem OpOk.makeFunc (m : MInv g H w γ) {f : Fn} {fs cs : Array Operand} (ho : o.op = .makeFunc f fs cs) {r : Operand → PV} (hr : ∀ x, Rep w (okOf g w γ) γ (r x) (a.eval x)) : OpOk g o a H w γ { p := .fn f (fs.toList.map r) (cs.toList.map r) } := by
  have h1 : RepL w (okOf g w γ) γ (fs.toList.map r) (fs.toList.map a.eval) := RepL.map fun x _ => hr x
  have h2 : RepL w (okOf g w γ) γ (cs.toList.map r) (cs.toList.map a.eval) := RepL.map fun x _ => hr x
  refine OpOk.value (v := .func f (fs.toList.map a.eval).toArray (cs.toList.map a.eval).toArray) ?_ (Post.same m (.fn f _ _ _ _ h1.1 h2.1 h1.2 h2.2))
  have e1 : (fs.toList.map a.eval).toArray = fs.map a.eval := by apply Array.ext'; simp
  have e2 : (cs.toList.map a.eval).toArray = cs.map a.eval := by apply Array.ext'; simp
  rw [e1, e2]
  simp [execOp, ho, Instr.makeFunc]

theorem add_add (ad : Addr) (m n : Nat) : (ad.add m).add n = ad.add (m + n) := by
  unfold Addr.add
  by_cases h1 : m = 0
  · subst h1; simp
  · by_cases h2 : n = 0
    · subst h2; simp [h1]
    · simp [h1, h2, Nat.add_assoc]
theorem szOk_size (c : CxOk g.P C) {e : TypeId} {T : ETy} (h : szOk C e T = true) : (sizeOf e).run g.P w = .ok T.size w := by
  unfold szOk at h
  split at h
  · rename_i f hf
    rw [run_size (c.tab e f hf), Nat.eq_of_beq_eq_true h]
  · simp at h

theorem OpOk.slice (c : CxOk g.P C) (m : MInv g H w γ) {t e : TypeId} {x lo : Operand} (ho : o.op = .slice t x (some lo) none none) {ti : TI} (ht : C.tab t = some ti) (hk : ti.k = .slice e) {T : ETy} (hsz : szOk C e T = true) {xs : List T.den}
    (hx : Rep w (okOf g w γ) γ (.sl T xs) (a.eval x)) {k : IntKind} {n : Int} (hlo : Rep w (okOf g w γ) γ (.i k n) (a.eval lo)) (h0 : 0 ≤ n) (h1 : n ≤ (xs.length : Int)) : OpOk g o a H w γ { p := .sl T (xs.drop n.toNat) } := by
  generalize hvl : a.eval lo = vl at hlo
  cases hlo
  have hu := und_slice (c.tab t ti ht) hk
  generalize hvx : a.eval x = vx at hx
  cases hx with
  | sl T xs A cp f hc hn hA h1' hf =>
    have hrun : (Instr.sliceAt t (.slice A xs.length cp) (some (.int k n)) none none).run g.P w = .ok (.slice (if cp = n.toNat then A else A.map (·.add (n.toNat * T.size))) (xs.length - n.toNat) (cp - n.toNat)) w := by
      simp [Instr.sliceAt, Instr.slice, run_underlying hu, Instr.sliceBounds, Instr.sliceBound, asIntOf, h0, h1, szOk_size c hsz]
    refine OpOk.value (v := .slice (if cp = n.toNat then A else A.map (·.add (n.toNat * T.size))) (xs.length - n.toNat) (cp - n.toNat)) (by simp [execOp, ho, hvx, hvl, hrun]) (Post.same m ?_)
    have hld : (xs.drop n.toNat).length = xs.length - n.toNat := by simp
    rw [← hld]
    refine .sl T (xs.drop n.toNat) _ _ (fun i j => f (n.toNat + i) j) (by rw [hld]; omega) (fun h => ?_) (fun hx => ?_) (fun i j hi hj => ?_) fun i y j p hy hp => ?_
    · by_cases hcn : cp = n.toNat
      · omega
      · rw [if_neg hcn] at h
        cases A with
        | none => have := hn rfl; omega
        | some ad => simp at h
    · have hlt : n.toNat < xs.length := by
        rcases Nat.lt_or_ge n.toNat xs.length with h | h
        · exact h
        · exact absurd (List.drop_of_length_le h) hx
      have hx0 : xs ≠ [] := by intro h; rw [h] at hlt; simp at hlt
      obtain ⟨ad, rfl, hok, hcell⟩ := hA hx0
      refine ⟨ad.add (n.toNat * T.size), by rw [if_neg (by omega)]; rfl, ?_, fun i j hi hj => ?_⟩
      · have : (ad.add (n.toNat * T.size)).block = ad.block := by unfold Addr.add; split <;> rfl
        rw [this]
        exact hok
      · rw [hld] at hi
        rw [add_add, ← Nat.add_assoc, ← Nat.add_mul]
        exact hcell _ j (by omega) hj
    · rw [hld] at hi
      exact h1' _ j (by omega) hj
    · rw [List.getElem?_drop] at hy
      exact hf _ y j p hy hp

theorem OpOk.fieldAddr (c : CxOk g.P C) (m : MInv g H w γ) {t : TypeId} {x : Operand} {fi : Nat} (ho : o.op = .fieldAddr t x fi) {ti : TI} (ht : C.tab t = some ti) {fs : List (Nat × TypeId)} (hk : ti.k = .struct fs) {fo : Nat} {ft : TypeId} (hf : fs[fi]? = some (fo, ft))
    {tf : TI} (hft : C.tab ft = some tf) (hs : 0 < tf.size) {p q : PV} (hp : Rep w (okOf g w γ) γ p (a.eval x))
    (h : (∃ cs off, p = .ptr cs off ∧ q = .ptr cs (off + fo)) ∨ (∃ i off, p = .ref i off ∧ q = .ref i (off + fo)) ∨ (∃ i T ix off, p = .eref i T ix off ∧ q = .eref i T ix (off + fo))) : OpOk g o a H w γ { p := q } := by
  obtain ⟨fa, hu, hfa⟩ := und_struct (c.tab t ti ht) hk
  have hfield : ∃ f : Field, fa[fi]? = some f ∧ f.offset = fo ∧ f.type = ft := by
    rw [← hfa, List.getElem?_map, Option.map_eq_some_iff] at hf
    obtain ⟨f, hf1, hf2⟩ := hf
    simp only [Prod.mk.injEq] at hf2
    exact ⟨f, by simpa using hf1, hf2.1, hf2.2⟩
  obtain ⟨f, hf1, rfl, rfl⟩ := hfield
  have key : ∀ {ad : Addr}, a.eval x = .pointer (some ad) → Rep w (okOf g w γ) γ q (.pointer (some (ad.add f.offset))) → OpOk g o a H w γ { p := q } := by
    intro ad he hrep
    refine OpOk.value (v := .pointer (some (ad.add f.offset))) ?_ (Post.same m hrep)
    simp [execOp, ho, he, Instr.fieldAt, run_underlying hu, hf1, Instr.sureAddr, fieldPlace, run_size (c.tab _ tf hft), Nat.ne_of_gt hs]
  rcases h with ⟨cs, off, rfl, rfl⟩ | ⟨i, off, rfl, rfl⟩ | ⟨i, T, ix, off, rfl, rfl⟩ <;> generalize hv : a.eval x = v at hp
  · cases hp with
    | ptr cs off β base fn ho hc hf => exact key hv (by rw [Addr.add_lit, Nat.add_assoc]; exact .ptr cs _ β base fn ho hc hf)
  · cases hp with
    | ref i off β h => exact key hv (by rw [Addr.add_lit]; exact .ref i _ β h)
  · cases hp with
    | eref i T ix off β n cp h => exact key hv (by rw [Addr.add_lit, Nat.add_assoc]; exact .eref i T ix _ β n cp h)

theorem OpOk.field (c : CxOk g.P C) (m : MInv g H w γ) {t : TypeId} {x : Operand} {fi : Nat} (ho : o.op = .field t x fi) {ti : TI} (ht : C.tab t = some ti) {fs : List (Nat × TypeId)} (hk : ti.k = .struct fs) {fo : Nat} {ft : TypeId} (hf : fs[fi]? = some (fo, ft))
    {tf : TI} (hft : C.tab ft = some tf) {cs : List PV} (hp : Rep w (okOf g w γ) γ (.agg cs) (a.eval x)) {q : PV} (hq : Ev.part tf cs fo = some q) : OpOk g o a H w γ { p := q } := by
  obtain ⟨fa, hu, hfa⟩ := und_struct (c.tab t ti ht) hk
  have hfield : ∃ f : Field, fa[fi]? = some f ∧ f.offset = fo ∧ f.type = ft := by
    rw [← hfa, List.getElem?_map, Option.map_eq_some_iff] at hf
    obtain ⟨f, hf1, hf2⟩ := hf
    simp only [Prod.mk.injEq] at hf2
    exact ⟨f, by simpa using hf1, hf2.1, hf2.2⟩
  obtain ⟨f, hf1, rfl, rfl⟩ := hfield
  generalize hv : a.eval x = v at hp
  obtain ⟨vs, rfl, hr, _⟩ := hp.agg_inv
  obtain ⟨u, hu1, hu2⟩ := run_part (c.tab _ tf hft) hr hq
  exact OpOk.value (v := u) (by simp [execOp, ho, hv, Instr.field, run_underlying hu, hf1, asAgg, hu1]) (Post.same m hu2)

theorem ixl_some {α : Type} {xs : List α} {n : Int} {y : α} (h : ixl xs n = some y) : 0 ≤ n ∧ n < (xs.length : Int) ∧ xs[n.toNat]? = some y := by
  unfold ixl at h
  split at h
  · rename_i h0
    have := (List.getElem?_eq_some_iff.1 h).1
    exact ⟨h0, by omega, h⟩
  · simp at h
theorem not_arr_tiny {e : TypeId} {l : Nat} : (decide (l ≤ 1) && (match (TypeDesc.slice e) with | .array .. => true | _ => false)) = false := by simp

theorem OpOk.indexSl (c : CxOk g.P C) (m : MInv g H w γ) {t e : TypeId} {x i : Operand} (ho : o.op = .indexAddr t x i) {ti : TI} (ht : C.tab t = some ti) (hk : ti.k = .slice e) {T : ETy} (hsz : szOk C e T = true) {xs : List T.den} {k : IntKind} {n : Int} (hi : Rep w (okOf g w γ) γ (.i k n) (a.eval i)) {y : T.den}
    (hy : ixl xs n = some y) {q : PV} {fp : List Nat}
    (h : (Rep w (okOf g w γ) γ (.sl T xs) (a.eval x) ∧ q = .ptr (T.cells y) 0) ∨ (∃ j e', Rep w (okOf g w γ) γ (.own j) (a.eval x) ∧ look H j = some (.row T e' xs) ∧ q = .eref j T n.toNat 0)) : OpOk g o a H w γ { p := q, fp } := by
  obtain ⟨h0, h1, hyn⟩ := ixl_some hy
  generalize hvi : a.eval i = vi at hi
  cases hi
  have hu := und_slice (c.tab t ti ht) hk
  have hrun : ∀ (ad : Addr) (cp : Nat), (Instr.indexAt t (.slice (some ad) xs.length cp) (.int k n)).run g.P w = .ok (.pointer (some (ad.add (n.toNat * T.size)))) w := by
    intro ad cp
    simp [Instr.indexAt, asIntOf, run_underlying hu, h0, h1, szOk_size c hsz]
  have hlt : n.toNat < xs.length := (List.getElem?_eq_some_iff.1 hyn).1
  rcases h with ⟨hx, rfl⟩ | ⟨j, e', hx, hl, rfl⟩
  · generalize hvx : a.eval x = vx at hx
    cases hx with
    | sl T xs A cp f hc hn hA h1' hf =>
      have hx0 : xs ≠ [] := by intro h; rw [h] at hlt; simp at hlt
      obtain ⟨ad, rfl, hok, hcell⟩ := hA hx0
      refine OpOk.value (v := .pointer (some (ad.add (n.toNat * T.size)))) (by simp [execOp, ho, hvx, hvi, hrun]) (Post.same m ?_)
      have hsp : ad.spot = none := by
        have := hcell 0 0 (by omega) (size_pos T)
        simp only [Nat.zero_mul, Nat.add_zero, Addr.add_zero'] at this
        simp only [World.cell?] at this
        split at this
        · split at this
          · simp at this
          · rename_i hs; simpa using hs
        · simp at this
      have had : ad = ⟨ad.block, ad.off, none⟩ := by rw [← hsp]
      have e1 : ad.add (n.toNat * T.size) = ⟨ad.block, (ad.off + n.toNat * T.size) + 0, none⟩ := by rw [had, Addr.add_lit]; rfl
      rw [e1]
      refine .ptr (T.cells y) 0 ad.block (ad.off + n.toNat * T.size) (f n.toNat) hok (fun j hj => ?_) fun j p hp => hf _ y j p hyn hp
      rw [cells_len] at hj
      have := hcell n.toNat j hlt hj
      rw [had, Addr.add_lit] at this
      rw [Nat.add_assoc]
      exact this
  · obtain ⟨v, hv, ys, h2, h3, h4, h5⟩ := m.blks j _ hl
    generalize hvx : a.eval x = vx at hx
    cases hx with
    | own j _ h =>
      rw [hv] at h
      obtain rfl := Option.some.inj h
      rcases h2.2 with ⟨rfl, hn⟩ | ⟨gb, cap, cur, rfl, _⟩
      · rw [hn] at hlt; simp at hlt
      · refine OpOk.value (v := .pointer (some ((⟨gb, 0, none⟩ : Addr).add (n.toNat * T.size)))) (by simp [execOp, ho, hvx, hvi, hrun]) (Post.same m ?_)
        rw [Addr.add_lit, Nat.zero_add]
        exact .eref j T n.toNat 0 gb _ _ hv

theorem OpOk.indexArr (c : CxOk g.P C) (m : MInv g H w γ) {t e : TypeId} {x i : Operand} {len : Nat} (ho : o.op = .indexAddr t x i) {ti te : TI} (ht : C.tab t = some ti) (hk : ti.k = .arr len e) (he : C.tab e = some te) {k : IntKind} {n : Int} (hi : Rep w (okOf g w γ) γ (.i k n) (a.eval i))
    (h0 : 0 ≤ n) (h1 : n < (len : Int)) {p q : PV} (hp : Rep w (okOf g w γ) γ p (a.eval x)) (h : (∃ cs off, p = .ptr cs off ∧ q = .ptr cs (off + n.toNat * te.size)) ∨ (∃ j off, p = .ref j off ∧ q = .ref j (off + n.toNat * te.size))) : OpOk g o a H w γ { p := q } := by
  generalize hvi : a.eval i = vi at hi
  cases hi
  have hu := und_arr (c.tab t ti ht) hk
  have key : ∀ {ad : Addr}, a.eval x = .pointer (some ad) → Rep w (okOf g w γ) γ q (.pointer (some (ad.add (n.toNat * te.size)))) → OpOk g o a H w γ { p := q } := by
    intro ad hex hrep
    refine OpOk.value (v := .pointer (some (ad.add (n.toNat * te.size)))) ?_ (Post.same m hrep)
    simp [execOp, ho, hex, hvi, Instr.indexAt, asIntOf, run_underlying hu, h0, h1, run_size (c.tab e te he), Instr.sureAddr]
  rcases h with ⟨cs, off, rfl, rfl⟩ | ⟨j, off, rfl, rfl⟩ <;> generalize hv : a.eval x = v at hp
  · cases hp with
    | ptr cs off β base fn ho hc hf => exact key hv (by rw [Addr.add_lit, Nat.add_assoc]; exact .ptr cs _ β base fn ho hc hf)
  · cases hp with
    | ref j off β h => exact key hv (by rw [Addr.add_lit]; exact .ref j _ β h)

theorem OpOk.indexAgg (c : CxOk g.P C) (m : MInv g H w γ) {t e : TypeId} {x i : Operand} {len : Nat} (ho : o.op = .index t x i) {ti te : TI} (ht : C.tab t = some ti) (hk : ti.k = .arr len e) (he : C.tab e = some te) {k : IntKind} {n : Int} (hi : Rep w (okOf g w γ) γ (.i k n) (a.eval i))
    (h0 : 0 ≤ n) (h1 : n < (len : Int)) {cs : List PV} (hx : Rep w (okOf g w γ) γ (.agg cs) (a.eval x)) {q : PV} (hq : Ev.part te cs (n.toNat * te.size) = some q) : OpOk g o a H w γ { p := q } := by
  generalize hvi : a.eval i = vi at hi
  cases hi
  generalize hvx : a.eval x = vx at hx
  obtain ⟨vs, rfl, hr, _⟩ := hx.agg_inv
  obtain ⟨u, hu1, hu2⟩ := run_part (c.tab e te he) hr hq
  refine OpOk.value (v := u) ?_ (Post.same m hu2)
  simp [execOp, ho, hvi, hvx, Instr.index, asIntOf, run_underlying (und_arr (c.tab t ti ht) hk), h0, h1, run_size (c.tab e te he), hu1]
theorem OpOk.indexStr (c : CxOk g.P C) (m : MInv g H w γ) {t : TypeId} {x i : Operand} (ho : o.op = .index t x i) {ti : TI} (ht : C.tab t = some ti) (hk : ti.k = .str) {k : IntKind} {n : Int} (hi : Rep w (okOf g w γ) γ (.i k n) (a.eval i))
    {s : ByteArray} (hx : Rep w (okOf g w γ) γ (.s s) (a.eval x)) {b : UInt8} (hb : ixs s n = some b) : OpOk g o a H w γ { p := .i .u8 b.toNat } := by
  generalize hvi : a.eval i = vi at hi
  cases hi
  generalize hvx : a.eval x = vx at hx
  cases hx
  unfold ixs at hb
  split at hb
  · rename_i h0
    refine OpOk.value (v := .int .u8 b.toNat) ?_ (Post.same m (.i _ _))
    simp [execOp, ho, hvi, hvx, Instr.index, asIntOf, run_underlying (und_str (c.tab t ti ht) hk), h0, hb]
  · simp at hb

theorem OpOk.extract (m : MInv g H w γ) {x : Operand} {n : Nat} (ho : o.op = .extract x n) {ps : List PV} (hx : Rep w (okOf g w γ) γ (.tup ps) (a.eval x)) {p : PV} (hp : ps[n]? = some p) : OpOk g o a H w γ { p } := by
  generalize hvx : a.eval x = vx at hx
  obtain ⟨vs, rfl, hr⟩ := hx.tup_inv
  obtain ⟨v, hv, hrep⟩ := hr.at hp
  exact OpOk.value (v := v) (by simp [execOp, ho, hvx, Instr.extract, hv]) (Post.same m hrep)

theorem OpOk.typeAssert (c : CxOk g.P C) (m : MInv g H w γ) {x : Operand} {s t : TypeId} (ho : o.op = .typeAssert x s t true) {ti : TI} (ht : C.tab t = some ti) (hk : ti.k ≠ .iface) {u : TypeId} {q : PV} (hx : Rep w (okOf g w γ) γ (.iface u q) (a.eval x)) {r : PV}
    (h : (u = t ∧ r = .tup [q, .b true]) ∨ (u ≠ t ∧ ∃ z, Ev.part ti ti.zp 0 = some z ∧ r = .tup [z, .b false])) : OpOk g o a H w γ { p := r } := by
  generalize hvx : a.eval x = vx at hx
  cases hx with
  | iface u q v hq =>
    obtain ⟨d, hd, hs⟩ := (c.tab t ti ht).und
    obtain ⟨i, z, e1, e2, e3, e4⟩ := (c.tab t ti ht).info
    rcases h with ⟨rfl, rfl⟩ | ⟨hne, zq, hz, rfl⟩
    · have hrun : (Instr.typeAssert (.iface u v) s u true).run g.P w = .ok (.tuple #[v, .bool true]) w := by
        unfold Instr.typeAssert
        simp only [Sem.run_bind, run_underlying hd, Result.andThen_ok]
        cases d <;> first | (simp; done) | (rw [← hs] at hk; exact absurd rfl hk)
      exact OpOk.value (v := .tuple #[v, .bool true]) (by simp [execOp, ho, hvx, hrun]) (Post.same m (Rep.tup' (vs := [v, .bool true]) (.cons hq (.cons (.b _) .nil))))
    · have hrun : (Instr.typeAssert (.iface u v) s t true).run g.P w = .ok (.tuple #[z, .bool false]) w := by
        unfold Instr.typeAssert
        simp only [Sem.run_bind, run_underlying hd, Result.andThen_ok]
        cases d <;> first | (simp [hne, zeroValue, typeInfo, e1, e3]; done) | (rw [← hs] at hk; exact absurd rfl hk)
      refine OpOk.value (v := .tuple #[z, .bool false]) (by simp [execOp, ho, hvx, hrun]) (Post.same m (Rep.tup' (vs := [z, .bool false]) (.cons ?_ (.cons (.b _) .nil))))
      obtain ⟨i', f1, f2, f3⟩ := (c.tab t ti ht).zero
      rw [e1] at f1
      obtain rfl := Option.some.inj f1
      rw [e3] at f3
      obtain rfl := Option.some.inj f3
      obtain ⟨hrz, _, _⟩ := zp_rep w (okOf g w γ) γ (c.tab t ti ht).zp
      obtain ⟨hl, hp⟩ := part_rep (c.tab t ti ht) hrz hz
      simp only [List.drop_zero] at hp
      rw [List.take_of_length_le (by rw [List.length_map, (c.tab t ti ht).len]; exact Nat.le_refl _)] at hp
      unfold zval
      rcases hp with ⟨hg, hp⟩ | ⟨hg, u', hu', hp⟩
      · rw [hg]; exact hp
      · rw [hg]
        rcases (c.tab t ti ht).one with ha | ⟨p, hp1⟩
        · rw [ha] at hg; simp at hg
        · rw [hp1] at hu'
          simp at hu'
          rw [hp1]
          subst hu'
          exact hp
end

end Go.Proofs.Ytklgaodfakdjpaa.Ev
