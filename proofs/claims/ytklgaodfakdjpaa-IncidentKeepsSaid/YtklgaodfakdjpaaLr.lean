/- What all rows of this seat use. -/
import Derived.Test.YtklgaodfakdjpaaRows
import Derived.Test.YtklgaodfakdjpaaKq
import Derived.WalkKit
import Derived.ProofKit
import Derived.SizedLaws
import Derived.OpenShut
import Derived.Carry
import Derived.Stop.Joined
set_option linter.unusedVariables false
set_option linter.unusedSimpArgs false
set_option maxRecDepth 100000
namespace Go.Proofs.Ytklgaodfakdjpaa.Ev
open Go Go.RowKit Go.Proofs Go.ChangeShapes Go.WideShapes Go.ChangeAt Go.WideMaps Go.WideElems

theorem own : ownKnob Try.prog.godebug = none := by kernel_rfl
theorem laidOut : laidOutB Try.prog = true := by kernel_rfl
theorem u3 : Try.prog.underlying 3 = some (.int .i64) := by kernel_rfl
def glI : Gl := fun _ => .junk
theorem u4 : Try.prog.underlying 4 = some .bool := by kernel_rfl
theorem back_all {H : Type} {enc : TypeId × Value → H} {W W' : World} (bel : Below W.heap.size W W') {ts : List TypeId} {vs : List Value} {ds : List (DataW H)} {p : List MemPlace} (h : DataW.TrodAll enc Try.prog W 0 (fun _ => true) true ts vs ds p)
    (ht : (ts.all fun t => Try.prog.readableRec t && decide (t < Try.prog.types.size)) = true) : DataW.TrodAll enc Try.prog W' 0 (fun b => decide (b < W.heap.size)) true ts vs ds p := by
  induction ts generalizing vs ds p with
  | nil =>
    obtain ⟨rfl, rfl, rfl⟩ := trodAll_nil h
    exact h
  | cons t ts ih =>
    obtain ⟨v, vs', d, ds', p1, p2, rfl, rfl, rfl, h1, h2⟩ := trodAll_cons h
    rw [List.all_cons, Bool.and_eq_true, Bool.and_eq_true] at ht
    exact trodAll_cons_mk (Below.trod laidOut ht.1.1 (of_decide_eq_true ht.1.2) h1 bel (fun x hx => by obtain ⟨m, hm⟩ := h1; exact DataW.trod_lt m _ _ _ hm x hx)) (ih h2 ht.2)
theorem LfP.one {l : Lf} {p : PV} (h : LfP l p) : p.one = true := by
  cases l with
  | i k => obtain ⟨_, rfl, _⟩ := h; rfl
  | b => obtain ⟨_, rfl⟩ := h; rfl
  | s => obtain ⟨_, rfl⟩ := h; rfl
  | sl T => obtain ⟨_, rfl⟩ := h; rfl
theorem lfps_one {ls : List Lf} {ps : List PV} (h : LfPs ls ps) : ps.all PV.one = true := by
  induction ls generalizing ps with
  | nil => rw [lfp_nil h]; rfl
  | cons l ls ih =>
    obtain ⟨p, ps', rfl, h1, h2⟩ := lfp_cons h
    rw [List.all_cons, ih h2, h1.one]
    rfl
def C0 : Cx := cx glI (mkG []) [] []
theorem c0 : CxOk Try.prog C0 := cxOk GOk.nil [] []
section
variable {H : Type} {enc : TypeId × Value → H} {W : World} {base : Nat} {sp : Nat → Bool} {held : Bool} {v : Value} {d : DataW H} {p : List MemPlace} {t : TypeId} {n : Nat}
theorem arg_agg {ls : List Lf} (hf : flatT C0 n t = some ls) (h2 : Nat.ble 2 ls.length = true) (h : DataW.Trod enc Try.prog W base sp held t v d p) : ∃ ps, LfPs ls ps ∧ Rep W (okW W) γn (.agg ps) v := by
  obtain ⟨fuel, hx⟩ := h
  have hl := read_ok c0 n t ls hf fuel _ _ hx
  have h2 := Nat.le_of_ble_eq_true h2
  obtain ⟨ps, h3, h4⟩ := hl.pvs
  refine ⟨ps, h3, ?_⟩
  have hlen := hl.1
  cases v with
  | agg vs => exact Rep.agg' (lfps_one h3) h4
  | _ => simp [Value.cells] at hlen; omega
theorem arg_sl {T : ETy} {a : Option Addr} {len cap : Nat} (hv : v = .slice a len cap) (hf : flatT C0 n t = some [.sl T]) (h : DataW.Trod enc Try.prog W base sp held t v d p) : ∃ xs, Rep W (okW W) γn (.sl T xs) v := by
  subst hv
  obtain ⟨fuel, hx⟩ := h
  have hl := read_ok c0 n t _ hf fuel _ _ hx
  obtain ⟨xs, h⟩ := hl.2 0 _ rfl
  exact ⟨xs, h⟩
end
end Go.Proofs.Ytklgaodfakdjpaa.Ev
