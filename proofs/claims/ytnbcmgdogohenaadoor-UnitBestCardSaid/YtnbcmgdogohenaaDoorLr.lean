/- What all rows of this seat use: the package-level variable as the condition lays it. -/
import Derived.Test.YtnbcmgdogohenaaDoorRows
import Derived.Test.YtnbcmgdogohenaaDoorKq
import Derived.Test.YtnbcmgdogohenaaDoorLe
import Derived.WalkKit
import Derived.ProofKit
import Derived.LaidMore
import Derived.OpenShut
import Derived.Carry
import Derived.Stop.Joined
set_option linter.unusedVariables false
set_option linter.unusedSimpArgs false
set_option maxRecDepth 100000
namespace Go.Proofs.YtnbcmgdogohenaaDoor.Ev
open Go Go.RowKit Go.Proofs Go.ChangeShapes Go.WideShapes Go.ChangeAt Go.WideMaps Go.WideElems

theorem own : ownKnob Tryd.prog.godebug = none := by kernel_rfl
theorem laidOut : laidOutB Tryd.prog = true := by kernel_rfl
def laid1 {H : Type} : List (String × DataW H) := [("cresset/unit.reasons", Rows.laid_cresset_unit_reasons)]
theorem door_met (os : Os) (args : Array Value) : laidMetH Tryd.prog laid1 ((World.doorLaid Tryd.prog 400 os).forCall (fun _ _ => 0) ⟨#[], args, []⟩).memory :=
  laidMetH_of_parts3 (fuel := 8) (laidMet_of_run' 8 (by kernel_rfl) (by kernel_rfl)) (by kernel_rfl) (by kernel_rfl)
theorem gRe : Tryd.prog.globalNamed "cresset/unit.reasons" = some 0 := by kernel_rfl
theorem tRe : (Tryd.prog.globals[0]?).map (·.type) = some 143 := by kernel_rfl
theorem u143 : Tryd.prog.underlying 143 = some (.array 4 3) := by kernel_rfl
theorem u3 : Tryd.prog.underlying 3 = some (.int .i64) := by kernel_rfl
theorem of_laid {W : World} (h : laidMetH Tryd.prog laid1 W) : Rep W (okW W) γn (glU 0) (.pointer (some ⟨0, 0, none⟩)) := by
  rw [MakeChecks.laidMetH_plain _ _ _ (by kernel_rfl)] at h
  obtain ⟨ps, ⟨g0, t0, cs0, f0, p0, q0, hg0, ht0, hv0, hd0, _, _⟩, _, _⟩ := h
  obtain rfl := Option.some.inj (gRe.symm.trans hg0)
  obtain rfl := Option.some.inj (tRe.symm.trans ht0)
  obtain ⟨xs, m1, rfl, hx1, hlen, hn3, hel⟩ := DataW.trod_array u143 hd0
  have c3 : Tryd.prog.cellsOf 3 = 1 := by kernel_rfl
  have hx2 : xs.map (·.1) = [.lit (.int .i64 4), .lit (.int .i64 1), .lit (.int .i64 2), .lit (.int .i64 3)] := by
    have := (Prod.mk.inj hx1).1
    injection this with this
    exact this.symm
  have key : ∀ (i : Nat) (d : Int), i < 4 → ([4, 1, 2, 3] : List Int)[i]? = some d → W.cell? ⟨0, i, none⟩ = some (.int .i64 d) := by
    intro i d hi hd
    have h := hel i hi
    rw [c3, Nat.mul_one] at h
    have hlt : i < xs.length := by omega
    rw [List.getElem?_eq_getElem hlt] at h
    obtain ⟨n, e1, e2, _⟩ := DataW.trod_int u3 h
    have h3 : (xs.map (·.1))[i]? = some (.lit (.int .i64 n)) := by rw [List.getElem?_map, List.getElem?_eq_getElem hlt, e2]; rfl
    have h4 : ([.lit (.int .i64 4), .lit (.int .i64 1), .lit (.int .i64 2), .lit (.int .i64 3)] : List (DataW Unit))[i]? = some (.lit (.int .i64 d)) := by
      have : ([.lit (.int .i64 4), .lit (.int .i64 1), .lit (.int .i64 2), .lit (.int .i64 3)] : List (DataW Unit)) = ([4, 1, 2, 3] : List Int).map fun z => .lit (.int .i64 z) := rfl
      rw [this, List.getElem?_map, hd]
      rfl
    rw [hx2] at h3
    have hn : n = d := by
      have := h3.symm.trans h4
      injection this with this
      injection this with this
      injection this with _ this
    subst hn
    rw [World.var?_cell hg0 hv0 i, ← Array.getElem?_toList]
    have := congrArg (fun l => l[0]?) e1
    simpa using this
  refine .ptr [.i .i64 4, .i .i64 1, .i .i64 2, .i .i64 3] 0 0 0 (fun j => .int .i64 (([4, 1, 2, 3] : List Int).getD j 0)) ?_ (fun j hj => ?_) (fun j p hp => ?_)
  · have := key 0 4 (by omega) rfl
    unfold okW
    unfold World.cell? at this
    cases hb : W.heap[0]? with
    | none => rw [hb] at this; simp at this
    | some o => exact (Array.getElem?_eq_some_iff.1 hb).1
  · rw [Nat.zero_add]
    have hj : j < 4 := hj
    match j, hj with
    | 0, _ => exact key 0 4 (by omega) rfl
    | 1, _ => exact key 1 1 (by omega) rfl
    | 2, _ => exact key 2 2 (by omega) rfl
    | 3, _ => exact key 3 3 (by omega) rfl
  · match j, hp with
    | 0, hp => obtain rfl := Option.some.inj hp; exact .i _ _
    | 1, hp => obtain rfl := Option.some.inj hp; exact .i _ _
    | 2, hp => obtain rfl := Option.some.inj hp; exact .i _ _
    | 3, hp => obtain rfl := Option.some.inj hp; exact .i _ _
    | j + 4, hp => simp at hp
theorem gl_laid {W : World} (h : laidMetH Tryd.prog laid1 W) : ∀ n, glU n ≠ .junk → Rep W (okW W) γn (glU n) (.pointer (some ⟨n, 0, none⟩)) := by
  intro n hn
  match n, hn with
  | 0, _ => exact of_laid h
  | n + 1, hn => exact absurd rfl hn
theorem u4 : Tryd.prog.underlying 4 = some .bool := by kernel_rfl
theorem back_all {H : Type} {enc : TypeId × Value → H} {W W' : World} (bel : Below W.heap.size W W') {ts : List TypeId} {vs : List Value} {ds : List (DataW H)} {p : List MemPlace} (h : DataW.TrodAll enc Tryd.prog W 0 (fun _ => true) true ts vs ds p)
    (ht : (ts.all fun t => Tryd.prog.readableRec t && decide (t < Tryd.prog.types.size)) = true) : DataW.TrodAll enc Tryd.prog W' 0 (fun b => decide (b < W.heap.size)) true ts vs ds p := by
  induction ts generalizing vs ds p with
  | nil =>
    obtain ⟨rfl, rfl, rfl⟩ := trodAll_nil h
    exact h
  | cons t ts ih =>
    obtain ⟨v, vs', d, ds', p1, p2, rfl, rfl, rfl, h1, h2⟩ := trodAll_cons h
    rw [List.all_cons, Bool.and_eq_true, Bool.and_eq_true] at ht
    exact trodAll_cons_mk (Below.trod laidOut ht.1.1 (of_decide_eq_true ht.1.2) h1 bel (fun x hx => by obtain ⟨m, hm⟩ := h1; exact DataW.trod_lt m _ _ _ hm x hx)) (ih h2 ht.2)
theorem LfP.one {l : Lf} {p : PV} (h : LfP l p) : p.one = true := by
  cases l with
  | i k => obtain ⟨_, rfl, _⟩ := h; rfl
  | b => obtain ⟨_, rfl⟩ := h; rfl
  | s => obtain ⟨_, rfl⟩ := h; rfl
  | sl T => obtain ⟨_, rfl⟩ := h; rfl
theorem lfps_one {ls : List Lf} {ps : List PV} (h : LfPs ls ps) : ps.all PV.one = true := by
  induction ls generalizing ps with
  | nil => rw [lfp_nil h]; rfl
  | cons l ls ih =>
    obtain ⟨p, ps', rfl, h1, h2⟩ := lfp_cons h
    rw [List.all_cons, ih h2, h1.one]
    rfl
def C0 : Cx := cx glU (mkG []) [] []
theorem c0 : CxOk Tryd.prog C0 := cxOk GOk.nil [] []
section
variable {H : Type} {enc : TypeId × Value → H} {W : World} {base : Nat} {sp : Nat → Bool} {held : Bool} {v : Value} {d : DataW H} {p : List MemPlace} {t : TypeId} {n : Nat}
theorem arg_agg {ls : List Lf} (hf : flatT C0 n t = some ls) (h2 : Nat.ble 2 ls.length = true) (h : DataW.Trod enc Tryd.prog W base sp held t v d p) : ∃ ps, LfPs ls ps ∧ Rep W (okW W) γn (.agg ps) v := by
  obtain ⟨fuel, hx⟩ := h
  have hl := read_ok c0 n t ls hf fuel _ _ hx
  have h2 := Nat.le_of_ble_eq_true h2
  obtain ⟨ps, h3, h4⟩ := hl.pvs
  refine ⟨ps, h3, ?_⟩
  have hlen := hl.1
  cases v with
  | agg vs => exact Rep.agg' (lfps_one h3) h4
  | _ => simp [Value.cells] at hlen; omega
theorem arg_sl {T : ETy} {a : Option Addr} {len cap : Nat} (hv : v = .slice a len cap) (hf : flatT C0 n t = some [.sl T]) (h : DataW.Trod enc Tryd.prog W base sp held t v d p) : ∃ xs, Rep W (okW W) γn (.sl T xs) v := by
  subst hv
  obtain ⟨fuel, hx⟩ := h
  have hl := read_ok c0 n t _ hf fuel _ _ hx
  obtain ⟨xs, h⟩ := hl.2 0 _ rfl
  exact ⟨xs, h⟩
end
end Go.Proofs.YtnbcmgdogohenaaDoor.Ev
