/- Summaries of functions: what is shown of each, and how they are put together. -/
import Derived.Test.YtklgaodfakdjpaaKt
import Derived.Test.YtklgaodfakdjpaaKf
set_option linter.unusedVariables false
set_option linter.unusedSimpArgs false
set_option maxRecDepth 100000
namespace Go.Proofs.Ytklgaodfakdjpaa.Ev
open Go Go.RowKit Go.Proofs

noncomputable def bodyOf (fn : Func) : Code := fn.body.getD .skip
structure FnOk (f : FuncId) (fn : Func) : Prop where
  at_ : Try.prog.funcs[f]? = some fn
  body : fn.body = some (bodyOf fn)
  ok : (okCode (bodyOf fn) && (rfsOf (bodyOf fn)).isEmpty) = true
  name : (fn.name == "runtime.NumGoroutine") = false
/-- Of the package-level variables, what is there at each call. -/
abbrev Gl := Nat → PV
/-- There is such a function. -/
def IsFn (f : FuncId) : Prop := ∃ fn, Try.prog.funcs[f]? = some fn ∧ fn.body.isSome = true ∧ fn.name ≠ "runtime.NumGoroutine"
/-- What a function's summary says: where its arguments have the form, and the condition holds, that is the value. -/
def Sum (gl : Gl) (f : FuncId) (F : List PV → Option (Bool × PV)) : Prop := ∀ ps r, F ps = some (true, r) → CallOk Try.prog gl f ps r ∧ IsFn f
/-- The same of a function that is handed objects, or makes some. -/
def OSum (gl : Gl) (f : FuncId) (F : ObjF) : Prop := ∀ ps os r os', F ps os = some (true, r, os') → ObjOk Try.prog gl f ps os r os' ∧ IsFn f
/-- The same of one that is handed a loop's yield. -/
def TSum (gl : Gl) (ties : List (Nat × Nat)) (rl : Loop → Prop) (f : FuncId) (F : ObjF) : Prop := ∀ ps os r os', F ps os = some (true, r, os') → ObjOkT Try.prog gl ties rl f ps os r os' ∧ IsFn f
def YSum (gl : Gl) (ties : List (Nat × Nat)) (rl : Loop → Prop) (F : ObjF) : Prop := ∀ l ps os r os', F ps os = some (true, r, os') → RoundOk Try.prog gl ties rl l ps os r os'
def GOk (gl : Gl) (G : Gam) : Prop := ∀ f, Sum gl f (G f)
def OOk (gl : Gl) (O : FuncId → Option (Nat × ObjF)) : Prop := ∀ f mode F, O f = some (mode, F) → OSum gl f F
def YOk (gl : Gl) (ties : List (Nat × Nat)) (rl : Loop → Prop) (Y : Option ObjF) : Prop := ∀ F, Y = some F → YSum gl ties rl F
theorem mixed : Try.prog.follows .mixedOrders = true := Checked.mixed Try.checked
theorem GOk.no {gl : Gl} : GOk gl noG := fun f ps r h => by simp [noG] at h
theorem GOk.cons {gl : Gl} {f : FuncId} {F : List PV → Option (Bool × PV)} {l : List (Nat × (List PV → Option (Bool × PV)))} (h : Sum gl f F) (hl : GOk gl (mkG l)) : GOk gl (mkG ((f, F) :: l)) := by
  intro g ps r hh
  simp only [mkG] at hh
  split at hh
  · rename_i hb
    obtain rfl := Nat.eq_of_beq_eq_true hb
    exact h ps r hh
  · exact hl g ps r hh
theorem GOk.nil {gl : Gl} : GOk gl (mkG []) := fun f ps r h => by simp [mkG] at h
theorem OOk.nil {gl : Gl} : OOk gl (mkO []) := fun f m F h => by simp [mkO] at h
theorem OOk.cons {gl : Gl} {f : FuncId} {m : Nat} {F : ObjF} {l : List (Nat × Nat × ObjF)} (h : OSum gl f F) (hl : OOk gl (mkO l)) : OOk gl (mkO ((f, m, F) :: l)) := by
  intro g m' F' hh
  simp only [mkO] at hh
  split at hh
  · rename_i hb
    obtain rfl := Nat.eq_of_beq_eq_true hb
    obtain ⟨_, rfl⟩ := Prod.mk.inj (Option.some.inj hh)
    exact h
  · exact hl g m' F' hh
theorem YOk.no {gl : Gl} {rl : Loop → Prop} : YOk gl [] rl none := fun F h => by simp at h
theorem YOk.of {gl : Gl} {ties : List (Nat × Nat)} {rl : Loop → Prop} {F : ObjF} (h : YSum gl ties rl F) : YOk gl ties rl (some F) := fun F' hh => by
  obtain rfl := Option.some.inj hh
  exact h
def rlT (_ : Loop) : Prop := True
/-- What the interpreter is told of this program: beside the summaries, where boxes and slices are to be mutable. -/
def cxo (gl : Gl) (G : Gam) (O : FuncId → Option (Nat × ObjF)) (Y : Option ObjF) (ties : List (Nat × Nat)) (rl : Loop → Prop) (bxs ows : List Nat) : Cx := ⟨tab, ety, G, gl, bxs, ows, eqs, meths, O, Y, ties, rl, false⟩
def cx (gl : Gl) (G : Gam) (bxs ows : List Nat) : Cx := ⟨tab, ety, G, gl, bxs, ows, eqs, meths, noO, none, [], rlT, bxs == [999]⟩
theorem cxoOk {gl : Gl} {G : Gam} {O : FuncId → Option (Nat × ObjF)} {Y : Option ObjF} {ties : List (Nat × Nat)} {rl : Loop → Prop} (h : GOk gl G) (hO : OOk gl O) (hY : YOk gl ties rl Y) (bxs ows : List Nat) : CxOk Try.prog (cxo gl G O Y ties rl bxs ows) :=
  ⟨tabOk, etyOk, fun f ps r hh => h f ps r hh, eqsOk, methsOk, methsOk0, fun f m F hh ps os r os' hF => hO f m F hh ps os r os' hF, fun F hh l ps os r os' hF => hY F hh l ps os r os' hF⟩
theorem cxOk {gl : Gl} {G : Gam} (h : GOk gl G) (bxs ows : List Nat) : CxOk Try.prog (cx gl G bxs ows) :=
  ⟨tabOk, etyOk, fun f ps r hh => h f ps r hh, eqsOk, methsOk, methsOk0, fun f m F hh => by simp [cx, noO] at hh, fun F hh => by simp [cx] at hh⟩
theorem FnOk.isFn {f : FuncId} {fn : Func} (hf : FnOk f fn) : IsFn f := ⟨fn, hf.at_, by rw [hf.body]; rfl, fun hh => by have := hf.name; rw [hh] at this; simp at this⟩
theorem FnOk.code {f : FuncId} {fn : Func} (hf : FnOk f fn) : okCode (bodyOf fn) = true := by have := hf.ok; rw [Bool.and_eq_true] at this; exact this.1
theorem FnOk.norf {f : FuncId} {fn : Func} (hf : FnOk f fn) {g : GI} {L : Lam} {rr : Option Nat} {nn n m : Nat} : RFOk g L rr nn n m (rfsOf (bodyOf fn)) := by
  have := hf.ok
  rw [Bool.and_eq_true, List.isEmpty_iff] at this
  rw [this.2]
  exact fun rc h => by simp at h
theorem call_by {gl : Gl} {G : Gam} {bxs ows : List Nat} {K : Keep} {L : Lam} {f : FuncId} {fn : Func} (h : GOk gl G) (hf : FnOk f fn) (hl : LoopsOk (cx gl G bxs ows) K L fn.ntmps (fn.ntmps + 16) (loopsOf (bodyOf fn))) {ps : List PV} {r : PV}
    (hlen : Nat.ble ps.length fn.ntmps = true) (he : evF (cx gl G bxs ows) K L fn ps = some r) : CallOk Try.prog gl f ps r ∧ IsFn f :=
  ⟨call_of_ev (cxOk h bxs ows) rfl (fun _ => trivial) mixed hf.at_ hf.body hf.code hl (fun _ _ _ => hf.norf) hlen he, hf.isFn⟩
theorem call_byO {gl : Gl} {G : Gam} {O : FuncId → Option (Nat × ObjF)} {bxs ows : List Nat} {K : Keep} {L : Lam} {f : FuncId} {fn : Func} (h : GOk gl G) (hO : OOk gl O) (hf : FnOk f fn) (hl : LoopsOk (cxo gl G O none [] rlT bxs ows) K L fn.ntmps (fn.ntmps + 16) (loopsOf (bodyOf fn))) {ps : List PV} {r : PV}
    (hlen : Nat.ble ps.length fn.ntmps = true) (he : evF (cxo gl G O none [] rlT bxs ows) K L fn ps = some r) : CallOk Try.prog gl f ps r ∧ IsFn f :=
  ⟨call_of_ev (cxoOk h hO YOk.no bxs ows) rfl (fun _ => trivial) mixed hf.at_ hf.body hf.code hl (fun _ _ _ => hf.norf) hlen he, hf.isFn⟩
theorem obj_by {gl : Gl} {G : Gam} {O : FuncId → Option (Nat × ObjF)} {bxs ows : List Nat} {K : Keep} {L : Lam} {n0 : Nat} {f : FuncId} {fn : Func} (h : GOk gl G) (hO : OOk gl O) (hf : FnOk f fn) (hl : LoopsOk (cxo gl G O none [] rlT bxs ows) K L fn.ntmps (fn.ntmps + 16) (loopsOf (bodyOf fn))) {ps : List PV} {os : Heap} {r : PV} {os' : Heap}
    (hlen : Nat.ble ps.length fn.ntmps = true) (he : evO (cxo gl G O none [] rlT bxs ows) K L n0 fn ps os = some (r, os')) : ObjOk Try.prog gl f ps os r os' ∧ IsFn f :=
  ⟨(obj_of_ev (cxoOk h hO YOk.no bxs ows) mixed hf.at_ hf.body hf.code hl (fun _ _ _ => hf.norf) hlen he).ok (fun _ => trivial), hf.isFn⟩
theorem objT_by {gl : Gl} {G : Gam} {O : FuncId → Option (Nat × ObjF)} {Y : Option ObjF} {ties : List (Nat × Nat)} {rl : Loop → Prop} {bxs ows : List Nat} {K : Keep} {L : Lam} {n0 : Nat} {f : FuncId} {fn : Func} (h : GOk gl G) (hO : OOk gl O) (hY : YOk gl ties rl Y) (hf : FnOk f fn) (hl : LoopsOk (cxo gl G O Y ties rl bxs ows) K L fn.ntmps (fn.ntmps + 16) (loopsOf (bodyOf fn))) {ps : List PV} {os : Heap} {r : PV} {os' : Heap}
    (hlen : Nat.ble ps.length fn.ntmps = true) (he : evO (cxo gl G O Y ties rl bxs ows) K L n0 fn ps os = some (r, os')) : ObjOkT Try.prog gl ties rl f ps os r os' ∧ IsFn f :=
  ⟨obj_of_ev (cxoOk h hO hY bxs ows) mixed hf.at_ hf.body hf.code hl (fun _ _ _ => hf.norf) hlen he, hf.isFn⟩
theorem noLoops {C : Cx} {K : Keep} {L : Lam} {n m : Nat} {l : List Code} (h : l = []) : LoopsOk C K L n m l := fun b hb => by rw [h] at hb; simp at hb
theorem evF_some {C : Cx} {K : Keep} {L : Lam} {fn : Func} {ps : List PV} {r : PV} (h : evFn C K L fn ps noObjs = some (r, [])) : evF C K L fn ps = some r := by
  unfold evF
  rw [h]
/-- The answer of a function without objects; of one with objects. -/
def an (r : PV) : Option R := some (r, [])
def ao (r : PV) (os : Heap) : Option R := some (r, os)
/-! Loops: rounds of a step on pure data. -/
def iter {S O ρ : Type} (step : S → (S → Option ρ) → (O → Option ρ) → Option ρ) : Nat → S → (O → Option ρ) → Option ρ
  | 0, _, _ => none
  | n + 1, s, out => step s (fun s' => iter step n s' out) out
theorem unroll_iter {S O : Type} {C : Cx} {K : Keep} {L : Lam} {n m : Nat} {b : Code} {step : S → (S → Option R) → (O → Option R) → Option R} {enc : S → List PV} {encH : S → Heap} {out : (Ex → List PV → Heap → Option R) → O → Option R}
    (h : ∀ j s k, unroll C K L n m b (j + 1) (enc s) (encH s) k = step s (fun s' => unroll C K L n m b j (enc s') (encH s') k) (out k)) : ∀ j s k, unroll C K L n m b j (enc s) (encH s) k = iter step j s (out k)
  | 0, s, k => rfl
  | j + 1, s, k => by
    rw [h j s k]
    unfold iter
    congr 1
    funext s'
    exact unroll_iter h j s' k
def loopL {S O : Type} (dec : List PV → Heap → Option S) (step : S → (S → Option R) → (O → Option R) → Option R) (fuel : S → Nat) (out : (Ex → List PV → Heap → Option R) → O → Option R) : Lam :=
  fun b vs hs k => match dec vs hs with
    | some s => iter step (fuel s) s (out k)
    | none => none
def LoopOk1 (C : Cx) (K : Keep) (L : Lam) (n m : Nat) (b : Code) : Prop := ∀ vs hs k r, L b vs hs k = some r → ∃ j, unroll C K L n m b j vs hs k = some r
theorem loopsOk_list {C : Cx} {K : Keep} {L : Lam} {n m : Nat} {l l' : List Code} (hl : l' = l) (h : ∀ b ∈ l, LoopOk1 C K L n m b) : LoopsOk C K L n m l' := by
  subst hl
  exact fun b hb vs hs k r hh => h b hb vs hs k r hh
theorem loopOk1 {S O : Type} {C : Cx} {K : Keep} {L : Lam} {n m : Nat} {b : Code} {dec : List PV → Heap → Option S} {step : S → (S → Option R) → (O → Option R) → Option R} {fuel : S → Nat} {enc : S → List PV} {encH : S → Heap} {out : (Ex → List PV → Heap → Option R) → O → Option R}
    (hL : ∀ vs hs k, L b vs hs k = loopL dec step fuel out b vs hs k) (hdec : ∀ vs hs s, dec vs hs = some s → vs = enc s ∧ hs = encH s)
    (h : ∀ j s k, unroll C K L n m b (j + 1) (enc s) (encH s) k = step s (fun s' => unroll C K L n m b j (enc s') (encH s') k) (out k)) : LoopOk1 C K L n m b := by
  intro vs hs k r hh
  rw [hL] at hh
  unfold loopL at hh
  split at hh
  · rename_i s hs'
    obtain ⟨rfl, rfl⟩ := hdec _ _ _ hs'
    exact ⟨fuel s, by rw [unroll_iter h (fuel s) s k]; exact hh⟩
  · simp at hh
/-! Loops that are unrolled. -/
theorem ev_noL {C : Cx} {K : Keep} {L L' : Lam} : ∀ (c : Code), loopsOf c = [] → rfsOf c = [] → ∀ (σ : St) (k : Ex → St → Option R), ev C K L c σ k = ev C K L' c σ k
  | .seq a b, h, h2, σ, k => by
    simp only [loopsOf, rfsOf, List.append_eq_nil_iff] at h h2
    unfold ev
    rw [ev_noL a h.1 h2.1]
    congr 1
    funext ex σ'
    cases ex with
    | normal => exact ev_noL b h.2 h2.2 σ' k
    | _ => rfl
  | .cond x a b, h, h2, σ, k => by
    simp only [loopsOf, rfsOf, List.append_eq_nil_iff] at h h2
    unfold ev
    rw [ev_noL a h.1 h2.1 σ k, ev_noL b h.2 h2.2 σ k]
  | .block i a, h, h2, σ, k => by
    simp only [loopsOf, rfsOf] at h h2
    unfold ev
    rw [ev_noL a h h2]
  | .loop a, h, h2, σ, k => by simp [loopsOf] at h
  | .rangeFunc g ps a b, h, h2, σ, k => by simp [rfsOf] at h2
  | .skip, _, _, σ, k => by unfold ev; rfl
  | .label _, _, _, σ, k => by unfold ev; rfl
  | .region _ _ _, _, _, σ, k => by unfold ev; rfl
  | .exit _, _, _, σ, k => by unfold ev; rfl
  | .ret, _, _, σ, k => by unfold ev; rfl
  | .goto _, _, _, σ, k => by unfold ev; rfl
  | .scope a, h, h2, σ, k => by
    simp only [loopsOf, rfsOf] at h h2
    unfold ev
    rw [ev_noL a h h2]
  | .refuse _, _, _, σ, k => by unfold ev; rfl
theorem unroll_noL {C : Cx} {K : Keep} {L L' : Lam} {n m : Nat} {b : Code} (h : loopsOf b = []) (h2 : rfsOf b = []) : ∀ (j : Nat) (vs : List PV) (hs : Heap) (k : Ex → List PV → Heap → Option R), unroll C K L n m b j vs hs k = unroll C K L' n m b j vs hs k
  | 0, _, _, _ => rfl
  | j + 1, vs, hs, k => by
    unfold unroll
    rw [ev_noL b h h2 (L' := L')]
    congr 1
    funext ex σ
    cases ex with
    | normal => exact unroll_noL h h2 j _ _ k
    | _ => rfl
/-- A loop of so many rounds, one by one. -/
def unrollL (C : Cx) (K : Keep) (n m j : Nat) : Lam := fun b vs hs k => unroll C K noL n m b j vs hs k
theorem loopOk_unroll {C : Cx} {K : Keep} {n m j : Nat} {b : Code} (h : loopsOf b = []) (h2 : rfsOf b = []) : LoopOk1 C K (unrollL C K n m j) n m b :=
  fun vs hs k r hh => ⟨j, by rw [unroll_noL h h2 (L' := noL)]; exact hh⟩
end Go.Proofs.Ytklgaodfakdjpaa.Ev
/- Loops that go along a list. -/
namespace Go.Proofs.Ytklgaodfakdjpaa.Ev
open Go Go.RowKit Go.Proofs
abbrev wr (x : Int) : Int := IntKind.i64.wrap x
/-- Two summaries of a function as one. -/
def orF (F G : List PV → Option (Bool × PV)) : List PV → Option (Bool × PV) := fun ps => match F ps with
  | some r => some r
  | none => G ps
theorem Sum.or {gl : Gl} {f : FuncId} {F G : List PV → Option (Bool × PV)} (h1 : Sum gl f F) (h2 : Sum gl f G) : Sum gl f (orF F G) := fun ps r h => by
  unfold orF at h
  split at h
  · rename_i x hx
    rw [← hx] at h
    exact h1 ps r h
  · exact h2 ps r h
theorem wr_id {x : Int} (h1 : -9223372036854775808 ≤ x) (h2 : x ≤ 9223372036854775807) : wr x = x := by
  have : IntKind.i64.wrap x = x := by
    simp only [IntKind.wrap, IntKind.bits, IntKind.signed]
    simp
    omega
  exact this
/-- So many rounds, from the k-th on: the first that stops, or the last. -/
def runTo {O : Type} (stop : Nat → Option O) (last : O) : Nat → Nat → O
  | 0, _ => last
  | d + 1, k => match stop k with
    | some o => o
    | none => runTo stop last d (k + 1)
theorem iter_to {S O ρ : Type} {step : S → (S → Option ρ) → (O → Option ρ) → Option ρ} (F : Nat → S) (stop : Nat → Option O) (last : O) (n : Nat) (out : O → Option ρ)
    (h : ∀ k next, k < n → step (F k) next out = match stop k with | some o => out o | none => next (F (k + 1))) (hn : ∀ next, step (F n) next out = out last) (e : Nat) : ∀ d k, k + d = n → iter step (d + 1 + e) (F k) out = out (runTo stop last d k)
  | 0, k, hk => by
    have : k = n := by omega
    subst this
    show iter step (0 + 1 + e) (F k) out = _
    rw [show 0 + 1 + e = e + 1 by omega]
    exact hn _
  | d + 1, k, hk => by
    rw [show d + 1 + 1 + e = (d + 1 + e) + 1 by omega]
    show step (F k) (fun s' => iter step (d + 1 + e) s' out) out = _
    rw [h k _ (by omega)]
    unfold runTo
    cases stop k with
    | some o => rfl
    | none => exact iter_to F stop last n out h hn e d (k + 1) (by omega)
theorem iter_all {S O ρ : Type} {step : S → (S → Option ρ) → (O → Option ρ) → Option ρ} (F : Nat → S) (stop : Nat → Option O) (last : O) (n : Nat) (out : O → Option ρ)
    (h : ∀ k next, k < n → step (F k) next out = match stop k with | some o => out o | none => next (F (k + 1))) (hn : ∀ next, step (F n) next out = out last) (fuel : Nat) (hf : n + 1 ≤ fuel) (s : S) (hs : s = F 0) : iter step fuel s out = out (runTo stop last n 0) := by
  obtain ⟨e, rfl⟩ : ∃ e, fuel = n + 1 + e := ⟨fuel - (n + 1), by omega⟩
  rw [hs]
  exact iter_to F stop last n out h hn e n 0 (by omega)
theorem iter_each {S O ρ : Type} {step : S → (S → Option ρ) → (O → Option ρ) → Option ρ} (F : Nat → S) (last : O) (n : Nat) (out : O → Option ρ)
    (h : ∀ k next, k < n → step (F k) next out = next (F (k + 1))) (hn : ∀ next, step (F n) next out = out last) (fuel : Nat) (hf : n + 1 ≤ fuel) (s : S) (hs : s = F 0) : iter step fuel s out = out last := by
  have hr : ∀ d k, runTo (fun _ => none) last d k = last := by
    intro d
    induction d with
    | zero => intro k; rfl
    | succ d ih => intro k; exact ih (k + 1)
  rw [iter_all F (fun _ => none) last n out h hn fuel hf s hs, hr]
theorem runTo_find {α O : Type} (p : α → Bool) (mk : Nat → O) (stop : Nat → Option O) (last : O) (xs : List α) (h : ∀ k (hk : k < xs.length), stop k = bif p xs[k] then some (mk k) else none) :
    ∀ d k, k + d = xs.length → runTo stop last d k = match (xs.drop k).findIdx? p with | some j => mk (k + j) | none => last
  | 0, k, hk => by
    rw [List.drop_of_length_le (by omega)]
    rfl
  | d + 1, k, hk => by
    have hlt : k < xs.length := by omega
    unfold runTo
    rw [h k hlt, List.drop_eq_getElem_cons hlt, List.findIdx?_cons]
    cases hp : p xs[k] with
    | true => rfl
    | false =>
      simp only [cond]
      rw [runTo_find p mk stop last xs h d (k + 1) (by omega)]
      cases (xs.drop (k + 1)).findIdx? p with
      | none => rfl
      | some j =>
        show mk (k + 1 + j) = mk (k + (j + 1))
        congr 1
        omega
theorem runTo_none {O : Type} {stop : Nat → Option O} {last : O} : ∀ d k, (∀ j, k ≤ j → j < k + d → stop j = none) → runTo stop last d k = last
  | 0, _, _ => rfl
  | d + 1, k, h => by
    unfold runTo
    rw [h k (by omega) (by omega)]
    exact runTo_none d (k + 1) fun j h1 h2 => h j (by omega) (by omega)
theorem decLt_nat {k n : Nat} (h : k < n) : decide ((k : Int) < (n : Int)) = true := decide_eq_true (by omega)
theorem decLt_self (n : Nat) : decide ((n : Int) < (n : Int)) = false := decide_eq_false (by omega)
theorem inB_nat {k n : Nat} (h : k < n) : inB (k : Int) n = true := by
  unfold inB
  rw [decide_eq_true (by omega), decide_eq_true (by omega)]
  rfl
theorem inN_nat {k n : Nat} (h : k < n) : inN k n = true := Nat.ble_eq_true_of_le h
theorem atN_nat {T : ETy} {xs : List T.den} {k : Nat} (h : k < xs.length) : atN T xs k = xs[k] := by
  unfold atN
  rw [List.getD, List.getElem?_eq_getElem h]
  rfl
theorem atD_nat {T : ETy} {xs : List T.den} {k : Nat} (h : k < xs.length) : atD T xs (k : Int) = xs[k] := by
  unfold atD
  rw [Int.toNat_natCast]
  exact atN_nat h
theorem wr_succ {k : Nat} (h : k ≤ 1000000) : wr ((k : Int) + 1) = ((k + 1 : Nat) : Int) := by
  rw [wr_id (by omega) (by omega)]
  rfl
/-- Where the first lies for which something holds; -1: nowhere. -/
def idxI {α : Type} (p : α → Bool) (xs : List α) : Int := match xs.findIdx? p with
  | some k => (k : Int)
  | none => -1
theorem idxI_any {α : Type} (p : α → Bool) (xs : List α) : decide (idxI p xs ≥ 0) = xs.any p := by
  unfold idxI
  cases h : xs.findIdx? p with
  | none =>
    rw [List.findIdx?_eq_none_iff] at h
    have : xs.any p = false := by
      rw [List.any_eq_false]
      intro x hx
      simp [h x hx]
    rw [this]
    rfl
  | some k =>
    rw [List.findIdx?_eq_some_iff_getElem] at h
    obtain ⟨hk, hp, _⟩ := h
    have : xs.any p = true := List.any_eq_true.2 ⟨xs[k], List.getElem_mem hk, hp⟩
    rw [this]
    show decide ((k : Int) ≥ 0) = true
    exact decide_eq_true (by omega)
theorem find_any {α β : Type} (p : α → Bool) (xs : List α) (a b : β) : (match xs.findIdx? p with | some _ => a | none => b) = bif xs.any p then a else b := by
  cases h : xs.findIdx? p with
  | none =>
    rw [List.findIdx?_eq_none_iff] at h
    have : xs.any p = false := by
      rw [List.any_eq_false]
      intro x hx
      simp [h x hx]
    rw [this]
    rfl
  | some k =>
    rw [List.findIdx?_eq_some_iff_getElem] at h
    obtain ⟨hk, hp, _⟩ := h
    have : xs.any p = true := List.any_eq_true.2 ⟨xs[k], List.getElem_mem hk, hp⟩
    rw [this]
    rfl
theorem all_not_any {α : Type} (p : α → Bool) (l : List α) : (!(l.any fun x => !(p x))) = l.all p := by
  induction l with
  | nil => rfl
  | cons x l ih =>
    simp only [List.any_cons, List.all_cons, ← ih]
    cases p x <;> simp
theorem bif_f (a b : Bool) : (bif a then b else false) = (a && b) := by cases a <;> rfl
theorem bif_t (a b : Bool) : (bif a then true else b) = (a || b) := by cases a <;> rfl
theorem runTo_any {O β : Type} {stop : Nat → Option O} {last : O} (f : O → β) (b : Nat → Bool) (mk : Nat → O) (A : β) (hA : ∀ j, f (mk j) = A) : ∀ d k, (∀ j, k ≤ j → j < k + d → stop j = bif b j then some (mk j) else none) → f (runTo stop last d k) = bif (List.range' k d).any b then A else f last
  | 0, k, _ => rfl
  | d + 1, k, h => by
    unfold runTo
    rw [h k (by omega) (by omega), List.range'_succ, List.any_cons]
    cases b k with
    | true => exact hA k
    | false => exact runTo_any f b mk A hA d (k + 1) fun j h1 h2 => h j (by omega) (by omega)
theorem runTo_some {α β γ O : Type} (q : α → Option β) (mk : Nat → β → O) (f : O → γ) (A : β → γ) (hA : ∀ k b, f (mk k b) = A b) {stop : Nat → Option O} {last : O} (xs : List α) (h : ∀ k (hk : k < xs.length), stop k = (q xs[k]).map (mk k)) :
    ∀ d k, k + d = xs.length → f (runTo stop last d k) = match (xs.drop k).findSome? q with | some b => A b | none => f last
  | 0, k, hk => by
    rw [List.drop_of_length_le (by omega)]
    rfl
  | d + 1, k, hk => by
    have hlt : k < xs.length := by omega
    unfold runTo
    rw [h k hlt, List.drop_eq_getElem_cons hlt, List.findSome?_cons]
    cases q xs[k] with
    | some b => exact hA k b
    | none => exact runTo_some q mk f A hA xs h d (k + 1) (by omega)
theorem wr_pred {k : Nat} (h : k ≤ 1000000) : wr (((k + 1 : Nat) : Int) - 1) = (k : Int) := by
  rw [wr_id (by omega) (by omega)]
  omega
theorem decPos (k : Nat) : decide (((k + 1 : Nat) : Int) > 0) = true := decide_eq_true (by omega)
/-- The same, one by one? -/
def sameS {α : Type} (e : α → α → Bool) (a b : List α) : Bool := bif ((a.length : Int) != (b.length : Int)) then false else (a.zip b).all fun x => e x.1 x.2
theorem dec_is {T : ETy} (hT : T ≠ .proved) {l : List PV} {x : T.den} (h : T.dec l = some x) : l = T.cells x := by
  unfold ETy.dec at h
  split at h <;> first | (simp at h; done) | exact absurd rfl hT | (obtain rfl := Option.some.inj h; rfl)
theorem runTo_first {O : Type} {stop : Nat → Option O} {last : O} (b : Nat → Bool) (mk : Nat → O) : ∀ d k, (∀ j, k ≤ j → j < k + d → stop j = bif b j then some (mk j) else none) → runTo stop last d k = match (List.range' k d).find? b with
    | some j => mk j
    | none => last
  | 0, k, _ => rfl
  | d + 1, k, h => by
    unfold runTo
    rw [h k (Nat.le_refl _) (by omega), List.range'_succ, List.find?_cons]
    cases b k with
    | true => rfl
    | false => exact runTo_first b mk d (k + 1) fun j h1 h2 => h j (by omega) (by omega)
end Go.Proofs.Ytklgaodfakdjpaa.Ev
/- Functions that hold a range over a function; yields. -/
namespace Go.Proofs.Ytklgaodfakdjpaa.Ev
open Go Go.RowKit Go.Proofs

structure FnOkR (f : FuncId) (fn : Func) : Prop where
  at_ : Try.prog.funcs[f]? = some fn
  body : fn.body = some (bodyOf fn)
  ok : okCode (bodyOf fn) = true
  name : (fn.name == "runtime.NumGoroutine") = false
theorem FnOkR.isFn {f : FuncId} {fn : Func} (hf : FnOkR f fn) : IsFn f := ⟨fn, hf.at_, by rw [hf.body]; rfl, fun hh => by have := hf.name; rw [hh] at this; simp at this⟩
noncomputable def rcOf (fn : Func) : Code := (rfsOf (bodyOf fn)).getD 0 .skip
noncomputable def rcA (fn : Func) : Code := match rcOf fn with
  | .rangeFunc _ _ a _ => a
  | _ => .skip
noncomputable def rcB (fn : Func) : Code := match rcOf fn with
  | .rangeFunc _ _ _ b => b
  | _ => .skip
theorem obj_byR {gl : Gl} {G : Gam} {O : FuncId → Option (Nat × ObjF)} {bxs ows : List Nat} {K : Keep} {L : Lam} {n0 : Nat} {f : FuncId} {fn : Func} (h : GOk gl G) (hO : OOk gl O) (hf : FnOkR f fn) (hl : LoopsOk (cxo gl G O none [] rlT bxs ows) K L fn.ntmps (fn.ntmps + 16) (loopsOf (bodyOf fn)))
    (hr : ∀ g : GI, g.P = Try.prog → g.gl = gl → RFOk g L none 0 fn.ntmps (fn.ntmps + 16) (rfsOf (bodyOf fn))) {ps : List PV} {os : Heap} {r : PV} {os' : Heap}
    (hlen : Nat.ble ps.length fn.ntmps = true) (he : evO (cxo gl G O none [] rlT bxs ows) K L n0 fn ps os = some (r, os')) : ObjOk Try.prog gl f ps os r os' ∧ IsFn f :=
  ⟨(obj_of_ev (cxoOk h hO YOk.no bxs ows) mixed hf.at_ hf.body hf.ok hl (fun g h1 h2 => hr g h1 h2) hlen he).ok (fun _ => trivial), hf.isFn⟩
/-- A range over a function, told by rangeL. -/
theorem rf_by {gl : Gl} {G : Gam} {O : FuncId → Option (Nat × ObjF)} {bxs ows : List Nat} {L : Lam} {fn : Func} {F : ObjF} {ties : List (Nat × Nat)} {params : List Nat} {lp f x : Nat} {ab : List (Nat × Nat)} {ms : List Nat} (h : GOk gl G) (hO : OOk gl O)
    (hF : TSum gl ties (rlOf params (rcA fn) (rcB fn) fn.ntmps) f F) (hrc : rfsOf (bodyOf fn) = [.rangeFunc (.tmp x) params.toArray (rcA fn) (rcB fn)])
    (hL : ∀ T H k, L (.rangeFunc (.tmp x) params.toArray (rcA fn) (rcB fn)) T H k = rangeL (cxo gl G O none [] rlT bxs ows) F ties ab lp f ms (T.getD x .junk) T H k) :
    ∀ g : GI, g.P = Try.prog → g.gl = gl → RFOk g L none 0 fn.ntmps (fn.ntmps + 16) (rfsOf (bodyOf fn)) := by
  intro g hP hgl rc hrc' σ a w k r Q he hi hk
  rw [hrc] at hrc'
  obtain rfl := List.mem_singleton.1 hrc'
  rw [hL] at he
  refine range_ok (C := cxo gl G O none [] rlT bxs ows) (hP ▸ cxoOk h hO YOk.no bxs ows) hgl (F := F) (ties := ties) (params := params) (lp := lp) (f := f) (ab := ab) (ms := ms) (fun ps os r os' hh => ?_) he hi hk
  rw [hP]
  exact hF ps os r os' hh
theorem yld_by {gl : Gl} {G : Gam} {O : FuncId → Option (Nat × ObjF)} {bxs ows : List Nat} {fn : Func} {ties : List (Nat × Nat)} {params : List Nat} {lp n0 : Nat} (h : GOk gl G) (hO : OOk gl O)
    (ok1 : okCode (rcA fn) = true) (ok2 : okCode (rcB fn) = true) (l1 : loopsOf (rcA fn) = []) (l2 : loopsOf (rcB fn) = []) (r1 : rfsOf (rcA fn) = []) (r2 : rfsOf (rcB fn) = [])
    {ps : List PV} {os : Heap} {r : PV} {os' : Heap} (hgd : ∀ p ∈ ps, ∀ c q, p ≠ .gd c q) (he : evY (cxo gl G O none [] rlT bxs ows) lp fn.ntmps n0 params ties (rcA fn) (rcB fn) ps os = some (r, os')) (l : Nat) :
    RoundOk Try.prog gl ties (rlOf params (rcA fn) (rcB fn) fn.ntmps) l ps os r os' :=
  round_ok (cxoOk h hO YOk.no bxs ows) rfl (fun _ => trivial) mixed ok1 ok2 l1 l2 r1 r2 hgd he l
def LB.rdy : LB → Bool
  | .ready => true
  | _ => false
end Go.Proofs.Ytklgaodfakdjpaa.Ev
