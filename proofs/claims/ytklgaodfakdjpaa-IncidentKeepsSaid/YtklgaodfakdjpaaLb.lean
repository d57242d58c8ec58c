/- What two valid reports are to each other: the code's answer is the document's, and the order makes no difference. -/
import Derived.Test.YtklgaodfakdjpaaLa
set_option linter.unusedVariables false
set_option linter.unusedSimpArgs false
namespace Go.Proofs.Ytklgaodfakdjpaa.Ev
open Go Go.RowKit Go.Proofs

theorem within_iff (n a b : Int) : within n a b = true ↔ a ≤ n ∧ n ≤ b := by
  unfold within
  rw [bif_f, Bool.and_eq_true, decide_eq_true_eq, decide_eq_true_eq]
theorem bif_no {a b : Bool} (h : (bif a then true else b) = false) : a = false ∧ b = false := by cases a <;> simp_all
/-- A valid area. -/
structure AreaP (l : List Spot) : Prop where
  n1 : 1 ≤ l.length
  n12 : l.length ≤ 12
  placed : ∀ p ∈ l, placed p = true
theorem areaP {l : List Spot} (h : areaS l = true) : AreaP l := by
  unfold areaS at h
  cases h1 : (bif (!(within (l.length : Int) 1 12)) then true else (List.any l (fun x => !(placed x)))) with
  | true => rw [h1] at h; exact Bool.noConfusion (show false = true from h)
  | false =>
    obtain ⟨a, b⟩ := bif_no h1
    have a' : within (l.length : Int) 1 12 = true := by simpa using a
    obtain ⟨c1, c2⟩ := len_ok a'
    refine ⟨c1, c2, fun p hp => ?_⟩
    have := List.any_eq_false.1 b p hp
    simpa using this
structure RepP (r : Report) : Prop where
  area : AreaP r.wher
  t0 : 0 ≤ r.time
  t1 : r.time ≤ 1073741824
  name : nameS r.source = true
  kind : 1 ≤ r.kind ∧ r.kind ≤ 4
  souls : -1 ≤ r.souls ∧ r.souls ≤ 10000
theorem repP {r : Report} (h : repOk r = true) : RepP r := by
  unfold repOk at h
  simp only [bif_f, Bool.and_eq_true, In_eq, Time_eq, within_iff] at h
  obtain ⟨⟨⟨⟨⟨⟨hk, ht⟩, hn⟩, _⟩, ha⟩, hs⟩, _⟩ := h
  exact ⟨areaP ha, ht.1, ht.2, hn, hk, hs⟩
theorem box_bd {l : List Spot} (h : AreaP l) : ∀ k : Nat, k ≤ l.length → (-16777216 ≤ (lowB l k).x ∧ (lowB l k).x ≤ (highB l k).x ∧ (highB l k).x ≤ 16777216) ∧ -16777216 ≤ (lowB l k).y ∧ (lowB l k).y ≤ (highB l k).y ∧ (highB l k).y ≤ 16777216
  | 0, _ => by
    have hn := h.n1
    have hp := (placed_iff _).1 (h.placed _ (List.getElem_mem (show 0 < l.length by omega)))
    show (-16777216 ≤ (atN .spot l 0).x ∧ (atN .spot l 0).x ≤ (atN .spot l 0).x ∧ (atN .spot l 0).x ≤ 16777216) ∧ -16777216 ≤ (atN .spot l 0).y ∧ (atN .spot l 0).y ≤ (atN .spot l 0).y ∧ (atN .spot l 0).y ≤ 16777216
    rw [atN_nat (T := .spot) (show 0 < l.length by omega)]
    omega
  | k + 1, hk => by
    have ih := box_bd h k (by omega)
    have hp := (placed_iff _).1 (h.placed _ (List.getElem_mem (show k < l.length by omega)))
    show (-16777216 ≤ imin (lowB l k).x (atN .spot l k).x ∧ imin (lowB l k).x (atN .spot l k).x ≤ imax (highB l k).x (atN .spot l k).x ∧ imax (highB l k).x (atN .spot l k).x ≤ 16777216) ∧ -16777216 ≤ imin (lowB l k).y (atN .spot l k).y ∧ imin (lowB l k).y (atN .spot l k).y ≤ imax (highB l k).y (atN .spot l k).y ∧ imax (highB l k).y (atN .spot l k).y ≤ 16777216
    rw [atN_nat (T := .spot) (show k < l.length by omega)]
    unfold imin imax
    split <;> split <;> split <;> split <;> omega
theorem imax_le {a b c : Int} : imax a b ≤ c ↔ a ≤ c ∧ b ≤ c := by unfold imax; split <;> omega
theorem le_imin {a b c : Int} : c ≤ imin a b ↔ c ≤ a ∧ c ≤ b := by unfold imin; split <;> omega
theorem imax_comm (a b : Int) : imax a b = imax b a := by unfold imax; split <;> split <;> omega
theorem close_iff {a b : List Spot} (ha : AreaP a) (hb : AreaP b) {n : Int} (hn : 0 ≤ n ∧ n ≤ 1000000000000) : closeR a b n = true ↔ (lowA a).x - n ≤ (highA b).x ∧ (lowA b).x ≤ (highA a).x + n ∧ (lowA a).y - n ≤ (highA b).y ∧ (lowA b).y ≤ (highA a).y + n := by
  have h1 := box_bd ha a.length (Nat.le_refl _)
  have h2 := box_bd hb b.length (Nat.le_refl _)
  change (-16777216 ≤ (lowA a).x ∧ (lowA a).x ≤ (highA a).x ∧ (highA a).x ≤ 16777216) ∧ -16777216 ≤ (lowA a).y ∧ (lowA a).y ≤ (highA a).y ∧ (highA a).y ≤ 16777216 at h1
  change (-16777216 ≤ (lowA b).x ∧ (lowA b).x ≤ (highA b).x ∧ (highA b).x ≤ 16777216) ∧ -16777216 ≤ (lowA b).y ∧ (lowA b).y ≤ (highA b).y ∧ (highA b).y ≤ 16777216 at h2
  unfold closeR
  rw [wr_small (x := (lowA a).x - n) (by omega) (by omega), wr_small (x := (highA a).x + n) (by omega) (by omega), wr_small (x := (lowA a).y - n) (by omega) (by omega), wr_small (x := (highA a).y + n) (by omega) (by omega)]
  simp only [bif_f, Bool.and_eq_true, decide_eq_true_eq, imax_le, le_imin]
  omega
theorem meet_close {a b : List Spot} (ha : AreaP a) (hb : AreaP b) {n : Int} (hn : 0 ≤ n ∧ n ≤ 1000000000000) : meetV a b n = closeR a b n := by
  have h1 := box_bd ha a.length (Nat.le_refl _)
  have h2 := box_bd hb b.length (Nat.le_refl _)
  change (-16777216 ≤ (lowA a).x ∧ (lowA a).x ≤ (highA a).x ∧ (highA a).x ≤ 16777216) ∧ -16777216 ≤ (lowA a).y ∧ (lowA a).y ≤ (highA a).y ∧ (highA a).y ≤ 16777216 at h1
  have hm : meetV a b n = true ↔ (lowA a).x - n ≤ (highA b).x ∧ (lowA b).x ≤ (highA a).x + n ∧ (lowA a).y - n ≤ (highA b).y ∧ (lowA b).y ≤ (highA a).y + n := by
    unfold meetV
    rw [wr_small (x := (lowA a).x - n) (by omega) (by omega), wr_small (x := (highA a).x + n) (by omega) (by omega), wr_small (x := (lowA a).y - n) (by omega) (by omega), wr_small (x := (highA a).y + n) (by omega) (by omega)]
    simp only [bif_f, Bool.and_eq_true, decide_eq_true_eq]
    omega
  rw [Bool.eq_iff_iff, hm, close_iff ha hb hn]
theorem close_comm {a b : List Spot} (ha : AreaP a) (hb : AreaP b) {n : Int} (hn : 0 ≤ n ∧ n ≤ 1000000000000) : closeR a b n = closeR b a n := by
  rw [Bool.eq_iff_iff, close_iff ha hb hn, close_iff hb ha hn]
  omega
theorem apart_comm (s t : Int) : apartR s t = apartR t s := by unfold apartR; exact imax_comm _ _
theorem apart_bd {s t : Int} (hs : 0 ≤ s ∧ s ≤ 1073741824) (ht : 0 ≤ t ∧ t ≤ 1073741824) : 0 ≤ apartR s t ∧ apartR s t ≤ 1073741824 := by
  unfold apartR
  rw [wr_small (x := s - t) (by omega) (by omega), wr_small (x := t - s) (by omega) (by omega)]
  unfold imax
  split <;> omega
/-- How far one may have gone. -/
theorem drift_eq {d t : Int} (hd : 0 ≤ d ∧ d ≤ 100000) (ht : 0 ≤ t ∧ t ≤ 1073741824) : wr (Int.tdiv (wr ((wr (d * t)) + 3599)) 3600) = (d * t + 3599) / 3600 ∧ wr (Int.tdiv (wr ((wr ((wr (d * t)) + 3600)) - 1)) 3600) = (d * t + 3599) / 3600 ∧ 0 ≤ (d * t + 3599) / 3600 ∧ (d * t + 3599) / 3600 ≤ 1000000000000 := by
  have h0 := Int.mul_nonneg hd.1 ht.1
  have h1 := mul_bound2 (a := d) (b := t) (A := 100000) (B := 1073741824) (by omega) (by omega)
  have e : wr (d * t) = d * t := wr_small (by omega) (by omega)
  have h2 : 0 ≤ (d * t + 3599) / 3600 ∧ (d * t + 3599) / 3600 ≤ 1000000000000 := by omega
  rw [e, wr_small (x := d * t + 3599) (by omega) (by omega), wr_small (x := d * t + 3600) (by omega) (by omega), show d * t + 3600 - 1 = d * t + 3599 by omega, wr_small (x := d * t + 3599) (by omega) (by omega), Int.tdiv_eq_ediv_of_nonneg (by omega), wr_small (by omega) (by omega)]
  exact ⟨rfl, rfl, h2.1, h2.2⟩
theorem rules_P {w d : Int} (h : rulesR w d = true) : (0 ≤ w ∧ w ≤ 604800) ∧ 0 ≤ d ∧ d ≤ 100000 := by
  unfold rulesR at h
  simp only [bif_f, Bool.and_eq_true, In_eq, within_iff] at h
  exact h
theorem c73_ok {a b : List Spot} (ha : AreaP a) (hb : AreaP b) : c73 a b = true := by
  have := ha.n1
  have := ha.n12
  have := hb.n1
  have := hb.n12
  unfold c73
  rw [decide_eq_true (show 1 ≤ a.length by omega), decide_eq_true (show a.length ≤ 1000000 by omega), decide_eq_true (show 1 ≤ b.length by omega), decide_eq_true (show b.length ≤ 1000000 by omega)]
  rfl
theorem c50_ok {a b : Report} (ha : repOk a = true) (hb : repOk b = true) (w : Int) : c50 a b w = true := by
  unfold c50
  rw [c73_ok (repP ha).area (repP hb).area]
  simp
/-- The code's line of the comparison is the document's. -/
theorem line94 {d : Int} {a b : Report} (ha : repOk a = true) (hb : repOk b = true) (hd : 0 ≤ d ∧ d ≤ 100000) : v94 d a b = !(closeR a.wher b.wher (wr (Int.tdiv (wr ((wr (d * (apartR a.time b.time))) + 3599)) 3600))) := by
  have pa := repP ha
  have pb := repP hb
  have ht := apart_bd (s := a.time) (t := b.time) ⟨pa.t0, pa.t1⟩ ⟨pb.t0, pb.t1⟩
  obtain ⟨e1, e2, h0, h1⟩ := drift_eq hd ht
  unfold v94
  rw [show distV a.time b.time = apartR a.time b.time from rfl, e1, e2, meet_close pa.area pb.area ⟨h0, h1⟩]
theorem cmp_comm {w d : Int} {a b : Report} (ha : repOk a = true) (hb : repOk b = true) (hr : rulesR w d = true) : cmpR a b w d = cmpR b a w d := by
  have pa := repP ha
  have pb := repP hb
  obtain ⟨_, hd⟩ := rules_P hr
  have ht := apart_bd (s := a.time) (t := b.time) ⟨pa.t0, pa.t1⟩ ⟨pb.t0, pb.t1⟩
  obtain ⟨e1, _, h0, h1⟩ := drift_eq hd ht
  unfold cmpR
  rw [apart_comm b.time a.time, e1, close_comm pb.area pa.area ⟨h0, h1⟩]
  have e : (b.about.toList == a.about.toList) = (a.about.toList == b.about.toList) := by rw [Bool.eq_iff_iff, beq_iff_eq, beq_iff_eq]; exact eq_comm
  rw [e]
  cases (a.about.toList == (⟨#[]⟩ : ByteArray).toList) <;> cases (b.about.toList == (⟨#[]⟩ : ByteArray).toList) <;> rfl
end Go.Proofs.Ytklgaodfakdjpaa.Ev
/- Summaries of functions, printed by a program out of a list, and what is made of them. -/
set_option maxRecDepth 100000
namespace Go.Proofs.Ytklgaodfakdjpaa.Ev
open Go Go.RowKit Go.Proofs
/-- Two reports may be compared. -/
def cmpOk (a b : Report) (w d : Int) : Bool := rulesR w d && (repOk a && repOk b)
theorem cmpOk_P {a b : Report} {w d : Int} (h : cmpOk a b w d = true) : rulesR w d = true ∧ repOk a = true ∧ repOk b = true := by
  unfold cmpOk at h
  simpa using h
def cmpE (a b : Report) (w d : Int) : Int := bif (bif (!(repOk a)) then true else (!(repOk b))) then 2 else bif !(rulesR w d) then 4 else 0
def cmpN (a b : Report) (w d : Int) : Int := bif (bif (!(repOk a)) then true else (!(repOk b))) then 0 else bif !(rulesR w d) then 0 else cmpR a b w d
theorem rules_eq (w d : Int) : rulesV w d = rulesR w d := rfl
theorem fn48 : FnOk 48 Try.f48 := ⟨by kernel_rfl, by kernel_rfl, by kernel_rfl, by kernel_rfl⟩
theorem e48 (gl : Gl) (w : Int) (d : Int) (a : Report) (b : Report) : evFn (cx gl (mkG [(71, F71), (89, F89), (91, F91), (92, F92), (94, F94), (96, F96)]) [] []) K48 (L48 gl) Try.f48 [.agg [.i .i64 w, .i .i64 d], .agg [.i .i64 a.kind, .i .i64 a.time, .s a.source, .s a.about, .sl .spot a.wher, .i .i64 a.souls, .i .i64 a.trust], .agg [.i .i64 b.kind, .i .i64 b.time, .s b.source, .s b.about, .sl .spot b.wher, .i .i64 b.souls, .i .i64 b.trust]] noObjs = (match (v89 a b) with | true => an (.i .i64 1) | false => (match (namedB a b) with | true => an (.i .i64 2) | false => (match (v92 w a b) with | true => an (.i .i64 3) | false => (match (c94 a b) with | true => (match (v94 d a b) with | true => an (.i .i64 4) | false => an (.i .i64 5)) | false => none)))) := by kernel_rfl
def F48 : List PV → Option (Bool × PV)
  | [.agg [.i .i64 w, .i .i64 d], .agg aL, .agg bL] => (ETy.dec .report aL).bind fun a => (ETy.dec .report bL).bind fun b => some ((cmpOk a b w d), .i .i64 (cmpR a b w d))
  | _ => none
theorem s48 {gl : Gl} : Sum gl 48 F48 := by
  intro ps r h
  unfold F48 at h
  split at h
  · rename_i w d aL bL
    obtain ⟨a, ha, h_a⟩ := Option.bind_eq_some_iff.1 h
    obtain rfl := dec_is (by simp) ha
    obtain ⟨b, hb, h_b⟩ := Option.bind_eq_some_iff.1 h_a
    obtain rfl := dec_is (by simp) hb
    obtain ⟨hc, rfl⟩ := Prod.mk.inj (Option.some.inj h_b)
    refine call_by (K := K48) (L := (L48 gl)) (bxs := []) (ows := []) (GOk.cons s71 (GOk.cons s89 (GOk.cons s91 (GOk.cons s92 (GOk.cons s94 (GOk.cons s96 (GOk.nil))))))) fn48 (l48 gl) (by kernel_rfl) (evF_some ((e48 gl w d a b).trans ?_))
    obtain ⟨hr, ha, hb⟩ := cmpOk_P hc
    have hc94 : c94 a b = true := c73_ok (repP ha).area (repP hb).area
    rw [hc94, line94 ha hb (rules_P hr).2]
    unfold cmpR
    show (match (bif (namedB a b) then (a.about.toList == b.about.toList) else false) with | true => _ | false => (match (namedB a b) with | true => _ | false => (match (decide ((apartR a.time b.time) > w)) with | true => _ | false => _))) = an (.i .i64 (bif namedB a b then _ else _))
    cases namedB a b with
    | true => cases (a.about.toList == b.about.toList) <;> rfl
    | false =>
      cases (decide ((apartR a.time b.time) > w)) with
      | true => rfl
      | false => cases (!(closeR a.wher b.wher (wr (Int.tdiv (wr ((wr (d * (apartR a.time b.time))) + 3599)) 3600)))) <;> rfl
  · simp at h
theorem fn22 : FnOk 22 Try.f22 := ⟨by kernel_rfl, by kernel_rfl, by kernel_rfl, by kernel_rfl⟩
theorem e22 (gl : Gl) (a : Report) (b : Report) (w : Int) (d : Int) : evFn (cx gl (mkG [(47, F47), (29, F29), (48, F48)]) [] []) noK noL Try.f22 [.agg [.i .i64 a.kind, .i .i64 a.time, .s a.source, .s a.about, .sl .spot a.wher, .i .i64 a.souls, .i .i64 a.trust], .agg [.i .i64 b.kind, .i .i64 b.time, .s b.source, .s b.about, .sl .spot b.wher, .i .i64 b.souls, .i .i64 b.trust], .i .i64 w, .i .i64 d] noObjs = (match (bif (!(repOk a)) then true else (!(repOk b))) with | true => an (.tup [.i .i64 0, .i .i64 2]) | false => (match (!(rulesV w d)) with | true => an (.tup [.i .i64 0, .i .i64 4]) | false => (match (cmpOk a b w d) with | true => an (.tup [.i .i64 (cmpR a b w d), .i .i64 0]) | false => none))) := by kernel_rfl
def F22 : List PV → Option (Bool × PV)
  | [.agg aL, .agg bL, .i .i64 w, .i .i64 d] => (ETy.dec .report aL).bind fun a => (ETy.dec .report bL).bind fun b => some (true, .tup [.i .i64 (cmpN a b w d), .i .i64 (cmpE a b w d)])
  | _ => none
theorem s22 {gl : Gl} : Sum gl 22 F22 := by
  intro ps r h
  unfold F22 at h
  split at h
  · rename_i aL bL w d
    obtain ⟨a, ha, h_a⟩ := Option.bind_eq_some_iff.1 h
    obtain rfl := dec_is (by simp) ha
    obtain ⟨b, hb, h_b⟩ := Option.bind_eq_some_iff.1 h_a
    obtain rfl := dec_is (by simp) hb
    obtain ⟨hc, rfl⟩ := Prod.mk.inj (Option.some.inj h_b)
    refine call_by (K := noK) (L := noL) (bxs := []) (ows := []) (GOk.cons s47 (GOk.cons s29 (GOk.cons s48 (GOk.nil)))) fn22 (noLoops (by kernel_rfl)) (by kernel_rfl) (evF_some ((e22 gl a b w d).trans ?_))
    unfold cmpN cmpE
    show (match (bif (!(repOk a)) then true else (!(repOk b))) with | true => _ | false => (match !(rulesR w d) with | true => _ | false => _)) = _
    cases h1 : (bif (!(repOk a)) then true else (!(repOk b))) with
    | true => rfl
    | false =>
      cases h2 : (!(rulesR w d)) with
      | true => rfl
      | false =>
        obtain ⟨ha, hb⟩ := bif_no h1
        have ha : repOk a = true := by simpa using ha
        have hb : repOk b = true := by simpa using hb
        have hr : rulesR w d = true := by simpa using h2
        have hc : cmpOk a b w d = true := by unfold cmpOk; rw [hr, ha, hb]; rfl
        try rw [hc]
        try rw [c50_ok ha hb w]
        rfl
  · simp at h
theorem fn23 : FnOk 23 Try.f23 := ⟨by kernel_rfl, by kernel_rfl, by kernel_rfl, by kernel_rfl⟩
theorem e23 (gl : Gl) (a : Report) (b : Report) (w : Int) (d : Int) : evFn (cx gl (mkG [(49, F49), (12, F12), (50, F50)]) [] []) noK noL Try.f23 [.agg [.i .i64 a.kind, .i .i64 a.time, .s a.source, .s a.about, .sl .spot a.wher, .i .i64 a.souls, .i .i64 a.trust], .agg [.i .i64 b.kind, .i .i64 b.time, .s b.source, .s b.about, .sl .spot b.wher, .i .i64 b.souls, .i .i64 b.trust], .i .i64 w, .i .i64 d] noObjs = (match (bif (!(repOk a)) then true else (!(repOk b))) with | true => an (.tup [.i .i64 0, .i .i64 2]) | false => (match (!(rulesR w d)) with | true => an (.tup [.i .i64 0, .i .i64 4]) | false => (match (c50 a b w) with | true => an (.tup [.i .i64 (cmpR a b w d), .i .i64 0]) | false => none))) := by kernel_rfl
def F23 : List PV → Option (Bool × PV)
  | [.agg aL, .agg bL, .i .i64 w, .i .i64 d] => (ETy.dec .report aL).bind fun a => (ETy.dec .report bL).bind fun b => some (true, .tup [.i .i64 (cmpN a b w d), .i .i64 (cmpE a b w d)])
  | _ => none
theorem s23 {gl : Gl} : Sum gl 23 F23 := by
  intro ps r h
  unfold F23 at h
  split at h
  · rename_i aL bL w d
    obtain ⟨a, ha, h_a⟩ := Option.bind_eq_some_iff.1 h
    obtain rfl := dec_is (by simp) ha
    obtain ⟨b, hb, h_b⟩ := Option.bind_eq_some_iff.1 h_a
    obtain rfl := dec_is (by simp) hb
    obtain ⟨hc, rfl⟩ := Prod.mk.inj (Option.some.inj h_b)
    refine call_by (K := noK) (L := noL) (bxs := []) (ows := []) (GOk.cons s49 (GOk.cons s12 (GOk.cons s50 (GOk.nil)))) fn23 (noLoops (by kernel_rfl)) (by kernel_rfl) (evF_some ((e23 gl a b w d).trans ?_))
    unfold cmpN cmpE
    show (match (bif (!(repOk a)) then true else (!(repOk b))) with | true => _ | false => (match !(rulesR w d) with | true => _ | false => _)) = _
    cases h1 : (bif (!(repOk a)) then true else (!(repOk b))) with
    | true => rfl
    | false =>
      cases h2 : (!(rulesR w d)) with
      | true => rfl
      | false =>
        obtain ⟨ha, hb⟩ := bif_no h1
        have ha : repOk a = true := by simpa using ha
        have hb : repOk b = true := by simpa using hb
        have hr : rulesR w d = true := by simpa using h2
        have hc : cmpOk a b w d = true := by unfold cmpOk; rw [hr, ha, hb]; rfl
        try rw [hc]
        try rw [c50_ok ha hb w]
        rfl
  · simp at h
theorem cmpN_comm (a b : Report) (w d : Int) : cmpN a b w d = cmpN b a w d ∧ cmpE a b w d = cmpE b a w d := by
  unfold cmpN cmpE
  cases ha : repOk a <;> cases hb : repOk b <;> cases hr : rulesR w d <;> first | exact ⟨rfl, rfl⟩ | skip
  refine ⟨?_, rfl⟩
  show cmpR a b w d = cmpR b a w d
  exact cmp_comm ha hb hr
end Go.Proofs.Ytklgaodfakdjpaa.Ev
/- Summaries of functions, printed by a program out of a list, and what is made of them. -/
namespace Go.Proofs.Ytklgaodfakdjpaa.Ev
open Go Go.RowKit Go.Proofs
theorem callOk_sl {P : Program} {gl : Nat → PV} {f : FuncId} {T : ETy} {e : TypeId} {xs : List T.den} {ps : List PV} {r : PV} (hz : CallOk P gl f (.slz T xs :: ps) r) (hn : xs = [] → CallOk P gl f (.nsl e T :: ps) r) : CallOk P gl f (.sl T xs :: ps) r := by
  intro w ok args h1 h2 hr
  obtain ⟨v, us, rfl, hv, hrest⟩ := hr.cons_inv
  cases hv with
  | sl T xs A c f hc hn' hA h1' hf =>
    cases A with
    | none =>
      have hc0 := hn' rfl
      have hx : xs = [] := List.eq_nil_of_length_eq_zero (by omega)
      subst hx
      subst hc0
      exact hn rfl w ok _ h1 h2 (.cons (.nsl e T) hrest)
    | some ad => exact hz w ok _ h1 h2 (.cons (.slz T xs ad c (.sl T xs (some ad) c f hc hn' hA h1' hf)) hrest)
theorem fn65 : FnOk 65 Try.f65 := ⟨by kernel_rfl, by kernel_rfl, by kernel_rfl, by kernel_rfl⟩
theorem e65z (gl : Gl) (xs : List Spot) : evFn (cx gl (mkG []) [] [13]) noK noL Try.f65 [.slz .spot xs] noObjs = (match decide ((0 + xs.length) * 16 ≤ 140737488355328) with | true => an (.sl .spot ([] ++ xs)) | false => none) := by kernel_rfl
theorem e65n (gl : Gl) : evFn (cx gl (mkG []) [] [13]) noK noL Try.f65 [.nsl 71 .spot] noObjs = an (.sl .spot []) := by kernel_rfl
def F65 : List PV → Option (Bool × PV)
  | [.sl .spot xs] => some (decide (xs.length ≤ 1000000), .sl .spot xs)
  | _ => none
theorem s65 {gl : Gl} : Sum gl 65 F65 := by
  intro ps r h
  unfold F65 at h
  split at h
  · rename_i xs
    obtain ⟨hc, rfl⟩ := Prod.mk.inj (Option.some.inj h)
    have hx := of_decide_eq_true hc
    have hz := call_by (K := noK) (L := noL) (bxs := []) (ows := [13]) (gl := gl) GOk.nil fn65 (noLoops (by kernel_rfl)) (ps := [.slz .spot xs]) (r := .sl .spot xs) (by kernel_rfl) (evF_some (by
      rw [e65z, decide_eq_true (show (0 + xs.length) * 16 ≤ 140737488355328 by omega), List.nil_append]
      rfl))
    refine ⟨callOk_sl (e := 71) hz.1 fun hxs => ?_, hz.2⟩
    subst hxs
    exact (call_by (K := noK) (L := noL) (bxs := []) (ows := [13]) (gl := gl) GOk.nil fn65 (noLoops (by kernel_rfl)) (by kernel_rfl) (evF_some (e65n gl))).1
  · simp at h
theorem fn45 : FnOk 45 Try.f45 := ⟨by kernel_rfl, by kernel_rfl, by kernel_rfl, by kernel_rfl⟩
theorem e45 (gl : Gl) (r : Report) : evFn (cx gl (mkG [(65, F65)]) [9] []) noK noL Try.f45 [.agg [.i .i64 r.kind, .i .i64 r.time, .s r.source, .s r.about, .sl .spot r.wher, .i .i64 r.souls, .i .i64 r.trust]] noObjs = (match (decide (r.wher.length ≤ 1000000)) with | true => an (.agg [.i .i64 r.kind, .i .i64 r.time, .s r.source, .s r.about, .sl .spot r.wher, .i .i64 r.souls, .i .i64 r.trust]) | false => none) := by kernel_rfl
def F45 : List PV → Option (Bool × PV)
  | [.agg rL] => (ETy.dec .report rL).bind fun r => some ((decide (r.wher.length ≤ 1000000)), .agg [.i .i64 r.kind, .i .i64 r.time, .s r.source, .s r.about, .sl .spot r.wher, .i .i64 r.souls, .i .i64 r.trust])
  | _ => none
theorem s45 {gl : Gl} : Sum gl 45 F45 := by
  intro ps r h
  unfold F45 at h
  split at h
  · rename_i rL
    obtain ⟨r, hr, h_r⟩ := Option.bind_eq_some_iff.1 h
    obtain rfl := dec_is (by simp) hr
    obtain ⟨hc, rfl⟩ := Prod.mk.inj (Option.some.inj h_r)
    refine call_by (K := noK) (L := noL) (bxs := [9]) (ows := []) (GOk.cons s65 (GOk.nil)) fn45 (noLoops (by kernel_rfl)) (by kernel_rfl) (evF_some ((e45 gl r).trans ?_))
    rw [hc]
    rfl
  · simp at h
theorem fn41 : FnOk 41 Try.f41 := ⟨by kernel_rfl, by kernel_rfl, by kernel_rfl, by kernel_rfl⟩
theorem e41n (gl : Gl)  : evFn (cx gl (mkG []) [] []) noK noL Try.f41 [.nilp] noObjs = an (.b false) := by kernel_rfl
def F41n : List PV → Option (Bool × PV)
  | [.nilp] => some (true, .b false)
  | _ => none
theorem s41n {gl : Gl} : Sum gl 41 F41n := by
  intro ps r h
  unfold F41n at h
  split at h
  · skip
    obtain ⟨hc, rfl⟩ := Prod.mk.inj (Option.some.inj h)
    refine call_by (K := noK) (L := noL) (bxs := []) (ows := []) (GOk.nil) fn41 (noLoops (by kernel_rfl)) (by kernel_rfl) (evF_some ((e41n gl ).trans ?_))
    rfl
  · simp at h
theorem e41p (gl : Gl) (w : Int) (d : Int) (m : Bool) (es : List Entry) (op : List Bool) (pr : List Proved) : evFn (cx gl (mkG []) [] []) noK noL Try.f41 [.ptr [.i .i64 w, .i .i64 d, .b m, .sl .entry es, .sl .bool op, .sl .proved pr] 0] noObjs = an (.b m) := by kernel_rfl
def F41p : List PV → Option (Bool × PV)
  | [.ptr [.i .i64 w, .i .i64 d, .b m, .sl .entry es, .sl .bool op, .sl .proved pr] 0] => some (true, .b m)
  | _ => none
theorem s41p {gl : Gl} : Sum gl 41 F41p := by
  intro ps r h
  unfold F41p at h
  split at h
  · rename_i w d m es op pr
    obtain ⟨hc, rfl⟩ := Prod.mk.inj (Option.some.inj h)
    refine call_by (K := noK) (L := noL) (bxs := []) (ows := []) (GOk.nil) fn41 (noLoops (by kernel_rfl)) (by kernel_rfl) (evF_some ((e41p gl w d m es op pr).trans ?_))
    rfl
  · simp at h
def F41J : List PV → Option (Bool × PV) := orF F41n (F41p)
theorem s41J {gl : Gl} : Sum gl 41 F41J := Sum.or s41n (s41p)
theorem fn42 : FnOk 42 Try.f42 := ⟨by kernel_rfl, by kernel_rfl, by kernel_rfl, by kernel_rfl⟩
theorem e42 (gl : Gl) (w : Int) (d : Int) (m : Bool) (es : List Entry) (op : List Bool) (pr : List Proved) (inc : Int) : evFn (cx gl (mkG [(44, F44)]) [] []) noK noL Try.f42 [.ptr [.i .i64 w, .i .i64 d, .b m, .sl .entry es, .sl .bool op, .sl .proved pr] 0, .i .i64 inc] noObjs = an (.b (within inc 0 (wr ((op.length : Int) - 1)))) := by kernel_rfl
def F42 : List PV → Option (Bool × PV)
  | [.ptr [.i .i64 w, .i .i64 d, .b m, .sl .entry es, .sl .bool op, .sl .proved pr] 0, .i .i64 inc] => some (true, .b (within inc 0 (wr ((op.length : Int) - 1))))
  | _ => none
theorem s42 {gl : Gl} : Sum gl 42 F42 := by
  intro ps r h
  unfold F42 at h
  split at h
  · rename_i w d m es op pr inc
    obtain ⟨hc, rfl⟩ := Prod.mk.inj (Option.some.inj h)
    refine call_by (K := noK) (L := noL) (bxs := []) (ows := []) (GOk.cons s44 (GOk.nil)) fn42 (noLoops (by kernel_rfl)) (by kernel_rfl) (evF_some ((e42 gl w d m es op pr inc).trans ?_))
    rfl
  · simp at h
def hasX (inc : Int) (r : Report) (is_ w d : Int) (x : Entry) : Bool := bif (x.of_ == inc) then ((cmpR x.r r w d) == is_) else false
theorem fn75 : FnOk 75 Try.f75 := ⟨by kernel_rfl, by kernel_rfl, by kernel_rfl, by kernel_rfl⟩
theorem e75 (gl : Gl) (x : Entry) (inc : Int) (w : Int) (d : Int) (m : Bool) (es : List Entry) (op : List Bool) (pr : List Proved) (r : Report) (is_ : Int) : evFn (cx gl (mkG [(48, F48)]) [] []) noK noL Try.f75 [.agg [.i .i64 x.r.kind, .i .i64 x.r.time, .s x.r.source, .s x.r.about, .sl .spot x.r.wher, .i .i64 x.r.souls, .i .i64 x.r.trust, .i .i64 x.of_], .ptr [.i .i64 inc] 0, .ptr [.ptr [.i .i64 w, .i .i64 d, .b m, .sl .entry es, .sl .bool op, .sl .proved pr] 0] 0, .ptr [.i .i64 r.kind, .i .i64 r.time, .s r.source, .s r.about, .sl .spot r.wher, .i .i64 r.souls, .i .i64 r.trust] 0, .ptr [.i .i64 is_] 0] noObjs = (match ((cmpOk x.r r w d) || ((!(x.of_ == inc)) || false)) with | true => an (.b (bif (x.of_ == inc) then ((cmpR x.r r w d) == is_) else false)) | false => none) := by kernel_rfl
def F75 : List PV → Option (Bool × PV)
  | [.agg xL, .ptr [.i .i64 inc] 0, .ptr [.ptr [.i .i64 w, .i .i64 d, .b m, .sl .entry es, .sl .bool op, .sl .proved pr] 0] 0, .ptr rL 0, .ptr [.i .i64 is_] 0] => (ETy.dec .entry xL).bind fun x => (ETy.dec .report rL).bind fun r => some ((cmpOk x.r r w d), .b (hasX inc r is_ w d x))
  | _ => none
theorem s75 {gl : Gl} : Sum gl 75 F75 := by
  intro ps r h
  unfold F75 at h
  split at h
  · rename_i xL inc w d m es op pr rL is_
    obtain ⟨x, hx, h_x⟩ := Option.bind_eq_some_iff.1 h
    obtain rfl := dec_is (by simp) hx
    obtain ⟨r, hr, h_r⟩ := Option.bind_eq_some_iff.1 h_x
    obtain rfl := dec_is (by simp) hr
    obtain ⟨hc, rfl⟩ := Prod.mk.inj (Option.some.inj h_r)
    refine call_by (K := noK) (L := noL) (bxs := []) (ows := []) (GOk.cons s48 (GOk.nil)) fn75 (noLoops (by kernel_rfl)) (by kernel_rfl) (evF_some ((e75 gl x inc w d m es op pr r is_).trans ?_))
    rw [hc]
    rfl
  · simp at h
structure S98_2 where
  xs : List Entry
  f : Int
  f2 : Int
  f3 : Int
  f4 : Bool
  f5 : List Entry
  f6 : List Bool
  f7 : List Proved
  r : Report
  f8 : Int
  r2 : Int
  n : Int
  i : Int
def S98_2.enc (s : S98_2) : List PV := [.sl .entry s.xs, .fn (.func 75) [] [.ptr [.i .i64 s.f] 0, .ptr [.ptr [.i .i64 s.f2, .i .i64 s.f3, .b s.f4, .sl .entry s.f5, .sl .bool s.f6, .sl .proved s.f7] 0] 0, .ptr [.i .i64 s.r.kind, .i .i64 s.r.time, .s s.r.source, .s s.r.about, .sl .spot s.r.wher, .i .i64 s.r.souls, .i .i64 s.r.trust] 0, .ptr [.i .i64 s.f8] 0], .i .i64 s.r2, .i .i64 s.n, .i .i64 s.i]
def S98_2.encH (s : S98_2) : Heap := []
def dec98_2 : List PV → Heap → Option S98_2
  | [.sl .entry xs_, .fn (.func 75) [] [.ptr [.i .i64 f_] 0, .ptr [.ptr [.i .i64 f2_, .i .i64 f3_, .b f4_, .sl .entry f5_, .sl .bool f6_, .sl .proved f7_] 0] 0, .ptr rL 0, .ptr [.i .i64 f8_] 0], .i .i64 r2_, .i .i64 n_, .i .i64 i_], [] => (ETy.dec .report rL).bind fun r_ => some ⟨xs_, f_, f2_, f3_, f4_, f5_, f6_, f7_, r_, f8_, r2_, n_, i_⟩
  | _, _ => none
theorem dec_enc98_2 (vs : List PV) (hs : Heap) (s : S98_2) (h : dec98_2 vs hs = some s) : vs = s.enc ∧ hs = s.encH := by
  unfold dec98_2 at h
  split at h
  · obtain ⟨r_, hr, h_r⟩ := Option.bind_eq_some_iff.1 h
    obtain rfl := dec_is (by simp) hr
    obtain rfl := Option.some.inj h_r
    exact ⟨rfl, rfl⟩
  · simp at h
def st98_2 {ρ : Type} (s : S98_2) (next : S98_2 → Option ρ) (out : S98_2 × Bool → Option ρ) : Option ρ := (match (decide (s.i < s.n)) with | true => (match (inB s.i s.xs.length) with | true => (match (cmpOk (atD .entry s.xs s.i).r s.r s.f2 s.f3) with | true => (match (hasX s.f s.r s.f8 s.f2 s.f3 (atD .entry s.xs s.i)) with | true => out (⟨s.xs, s.f, s.f2, s.f3, s.f4, s.f5, s.f6, s.f7, s.r, s.f8, s.i, s.n, s.i⟩, true) | false => next ⟨s.xs, s.f, s.f2, s.f3, s.f4, s.f5, s.f6, s.f7, s.r, s.f8, s.r2, s.n, (wr (s.i + 1))⟩) | false => none) | false => none) | false => out (s, false))
def out98_2 (k : Ex → List PV → Heap → Option R) (o : S98_2 × Bool) : Option R := match o.2 with
  | true => k .ret o.1.enc o.1.encH
  | false => k (.exit 0) o.1.enc o.1.encH
def fuel98_2 (s : S98_2) : Nat := s.xs.length + 1
def K98 : Keep := fun _ => ([0, 1, 4, 7, 8], [])
def L98 : Lam := loopL dec98_2 st98_2 fuel98_2 out98_2
noncomputable def b98_2 : Code := (loopsOf (bodyOf Try.f98)).getD 0 .skip
theorem step98_2 (gl : Gl) (j : Nat) (s : S98_2) (k : Ex → List PV → Heap → Option R) : unroll (cx gl (mkG [(75, F75)]) [] []) K98 L98 Try.f98.ntmps (Try.f98.ntmps + 16) b98_2 (j + 1) s.enc s.encH k = st98_2 s (fun s' => unroll (cx gl (mkG [(75, F75)]) [] []) K98 L98 Try.f98.ntmps (Try.f98.ntmps + 16) b98_2 j s'.enc s'.encH k) (out98_2 k) := by kernel_rfl
theorem l98 (gl : Gl) : LoopsOk (cx gl (mkG [(75, F75)]) [] []) K98 L98 Try.f98.ntmps (Try.f98.ntmps + 16) (loopsOf (bodyOf Try.f98)) := by
  refine loopsOk_list (l := [b98_2]) (by kernel_rfl) ?_
  exact List.forall_mem_cons.2 ⟨loopOk1 (fuel := fuel98_2) (enc := S98_2.enc) (encH := S98_2.encH) (fun vs hs k => by kernel_rfl) dec_enc98_2 (step98_2 gl ), (fun _ h => by simp at h)⟩
theorem fn98 : FnOk 98 Try.f98 := ⟨by kernel_rfl, by kernel_rfl, by kernel_rfl, by kernel_rfl⟩
theorem e98 (gl : Gl) (xs : List Entry) (inc : Int) (w : Int) (d : Int) (m : Bool) (es : List Entry) (op : List Bool) (pr : List Proved) (r : Report) (is_ : Int) : evFn (cx gl (mkG [(75, F75)]) [] []) K98 L98 Try.f98 [.sl .entry xs, .fn (.func 75) [] [.ptr [.i .i64 inc] 0, .ptr [.ptr [.i .i64 w, .i .i64 d, .b m, .sl .entry es, .sl .bool op, .sl .proved pr] 0] 0, .ptr [.i .i64 r.kind, .i .i64 r.time, .s r.source, .s r.about, .sl .spot r.wher, .i .i64 r.souls, .i .i64 r.trust] 0, .ptr [.i .i64 is_] 0]] noObjs = (iter st98_2 (fuel98_2 (⟨xs, inc, w, d, m, es, op, pr, r, is_, 0, (xs.length : Int), 0⟩ : S98_2)) (⟨xs, inc, w, d, m, es, op, pr, r, is_, 0, (xs.length : Int), 0⟩ : S98_2) fun o2 => (match o2.2 with | true => an (.i .i64 o2.1.r2) | false => an (.i .i64 (-1)))) := by kernel_rfl
def F98 : List PV → Option (Bool × PV)
  | [.sl .entry xs, .fn (.func 75) [] [.ptr [.i .i64 inc] 0, .ptr [.ptr [.i .i64 w, .i .i64 d, .b m, .sl .entry es, .sl .bool op, .sl .proved pr] 0] 0, .ptr rL 0, .ptr [.i .i64 is_] 0]] => (ETy.dec .report rL).bind fun r => some ((decide (xs.length ≤ 1000000) && List.all xs (fun x => cmpOk x.r r w d)), .i .i64 (idxI (fun x => hasX inc r is_ w d x) xs))
  | _ => none
theorem s98 {gl : Gl} : Sum gl 98 F98 := by
  intro ps r h
  unfold F98 at h
  split at h
  · rename_i xs inc w d m es op pr rL is_
    obtain ⟨r, hr, h_r⟩ := Option.bind_eq_some_iff.1 h
    obtain rfl := dec_is (by simp) hr
    obtain ⟨hc, rfl⟩ := Prod.mk.inj (Option.some.inj h_r)
    refine call_by (K := K98) (L := L98) (bxs := []) (ows := []) (GOk.cons s75 (GOk.nil)) fn98 (l98 gl) (by kernel_rfl) (evF_some ((e98 gl xs inc w d m es op pr r is_).trans ?_))
    rw [Bool.and_eq_true] at hc
    have hx := of_decide_eq_true hc.1
    have hall := List.all_eq_true.1 hc.2
    refine (iter_all (step := st98_2) (F := fun k => ⟨xs, inc, w, d, m, es, op, pr, r, is_, 0, xs.length, (k : Int)⟩) (stop := fun k => bif hasX inc r is_ w d (atN .entry xs k) then some (⟨xs, inc, w, d, m, es, op, pr, r, is_, (k : Int), xs.length, (k : Int)⟩, true) else none) (last := (⟨xs, inc, w, d, m, es, op, pr, r, is_, 0, xs.length, (xs.length : Int)⟩, false)) xs.length _ (fun k next hk => ?_) (fun next => ?_) _ (Nat.le_refl _) _ rfl).trans ?_
    · have he : (cmpOk (atN .entry xs k).r r w d) = true := hall _ (atN_nat (T := .entry) hk ▸ List.getElem_mem hk)
      simp only [st98_2, decLt_nat hk, inB_nat hk, wr_succ (show k ≤ 1000000 by omega), atD, Int.toNat_natCast, he]
      generalize (hasX inc r is_ w d (atN .entry xs k)) = b_
      cases b_ <;> rfl
    · simp only [st98_2, decLt_self]
    · rw [runTo_find (fun x => hasX inc r is_ w d x) (fun k => (⟨xs, inc, w, d, m, es, op, pr, r, is_, (k : Int), xs.length, (k : Int)⟩, true)) _ _ xs (fun k hk => by rw [atN_nat hk]) xs.length 0 (by omega), List.drop_zero]
      unfold idxI
      cases xs.findIdx? (fun x => hasX inc r is_ w d x) with
      | none => rfl
      | some k => simp only [Nat.zero_add]; rfl
  · simp at h
theorem fn74 : FnOk 74 Try.f74 := ⟨by kernel_rfl, by kernel_rfl, by kernel_rfl, by kernel_rfl⟩
theorem e74 (gl : Gl) (xs : List Entry) (inc : Int) (w : Int) (d : Int) (m : Bool) (es : List Entry) (op : List Bool) (pr : List Proved) (r : Report) (is_ : Int) : evFn (cx gl (mkG [(98, F98)]) [] []) noK noL Try.f74 [.sl .entry xs, .fn (.func 75) [] [.ptr [.i .i64 inc] 0, .ptr [.ptr [.i .i64 w, .i .i64 d, .b m, .sl .entry es, .sl .bool op, .sl .proved pr] 0] 0, .ptr [.i .i64 r.kind, .i .i64 r.time, .s r.source, .s r.about, .sl .spot r.wher, .i .i64 r.souls, .i .i64 r.trust] 0, .ptr [.i .i64 is_] 0]] noObjs = (match (decide (xs.length ≤ 1000000) && List.all xs (fun x => cmpOk x.r r w d)) with | true => an (.b (decide ((idxI (fun x => hasX inc r is_ w d x) xs) ≥ 0))) | false => none) := by kernel_rfl
def F74 : List PV → Option (Bool × PV)
  | [.sl .entry xs, .fn (.func 75) [] [.ptr [.i .i64 inc] 0, .ptr [.ptr [.i .i64 w, .i .i64 d, .b m, .sl .entry es, .sl .bool op, .sl .proved pr] 0] 0, .ptr rL 0, .ptr [.i .i64 is_] 0]] => (ETy.dec .report rL).bind fun r => some ((decide (xs.length ≤ 1000000) && List.all xs (fun x => cmpOk x.r r w d)), .b (List.any xs (fun x => hasX inc r is_ w d x)))
  | _ => none
theorem s74 {gl : Gl} : Sum gl 74 F74 := by
  intro ps r h
  unfold F74 at h
  split at h
  · rename_i xs inc w d m es op pr rL is_
    obtain ⟨r, hr, h_r⟩ := Option.bind_eq_some_iff.1 h
    obtain rfl := dec_is (by simp) hr
    obtain ⟨hc, rfl⟩ := Prod.mk.inj (Option.some.inj h_r)
    refine call_by (K := noK) (L := noL) (bxs := []) (ows := []) (GOk.cons s98 (GOk.nil)) fn74 (noLoops (by kernel_rfl)) (by kernel_rfl) (evF_some ((e74 gl xs inc w d m es op pr r is_).trans ?_))
    rw [hc]
    show an (.b (decide (idxI _ xs ≥ 0))) = _
    rw [idxI_any]
    rfl
  · simp at h
/-- Has an incident a report to which another one is so? -/
def hasE (es : List Entry) (inc : Int) (r : Report) (is_ w d : Int) : Bool := List.any es (fun x => hasX inc r is_ w d x)
theorem fn54 : FnOk 54 Try.f54 := ⟨by kernel_rfl, by kernel_rfl, by kernel_rfl, by kernel_rfl⟩
theorem e54 (gl : Gl) (w : Int) (d : Int) (m : Bool) (es : List Entry) (op : List Bool) (pr : List Proved) (inc : Int) (r : Report) (is_ : Int) : evFn (cx gl (mkG [(74, F74)]) [] []) noK noL Try.f54 [.ptr [.i .i64 w, .i .i64 d, .b m, .sl .entry es, .sl .bool op, .sl .proved pr] 0, .i .i64 inc, .agg [.i .i64 r.kind, .i .i64 r.time, .s r.source, .s r.about, .sl .spot r.wher, .i .i64 r.souls, .i .i64 r.trust], .i .i64 is_] noObjs = (match (decide (es.length ≤ 1000000) && List.all es (fun x => cmpOk x.r r w d)) with | true => an (.b (List.any es (fun x => hasX inc r is_ w d x))) | false => none) := by kernel_rfl
def F54 : List PV → Option (Bool × PV)
  | [.ptr [.i .i64 w, .i .i64 d, .b m, .sl .entry es, .sl .bool op, .sl .proved pr] 0, .i .i64 inc, .agg rL, .i .i64 is_] => (ETy.dec .report rL).bind fun r => some ((decide (es.length ≤ 1000000) && List.all es (fun x => cmpOk x.r r w d)), .b (hasE es inc r is_ w d))
  | _ => none
theorem s54 {gl : Gl} : Sum gl 54 F54 := by
  intro ps r h
  unfold F54 at h
  split at h
  · rename_i w d m es op pr inc rL is_
    obtain ⟨r, hr, h_r⟩ := Option.bind_eq_some_iff.1 h
    obtain rfl := dec_is (by simp) hr
    obtain ⟨hc, rfl⟩ := Prod.mk.inj (Option.some.inj h_r)
    refine call_by (K := noK) (L := noL) (bxs := []) (ows := []) (GOk.cons s74 (GOk.nil)) fn54 (noLoops (by kernel_rfl)) (by kernel_rfl) (evF_some ((e54 gl w d m es op pr inc r is_).trans ?_))
    rw [hc]
    rfl
  · simp at h
structure S51_3 where
  k : Int
  k2 : Int
  k3 : Bool
  k4 : List Entry
  k5 : List Bool
  k6 : List Proved
  r : Report
  incident : Int
  reason : Int
  op2 : List Bool
  n : Int
  i : Int
  i2 : List Int
def S51_3.enc (s : S51_3) : List PV := [.ptr [.i .i64 s.k, .i .i64 s.k2, .b s.k3, .sl .entry s.k4, .sl .bool s.k5, .sl .proved s.k6] 0, .ptr [.i .i64 s.r.kind, .i .i64 s.r.time, .s s.r.source, .s s.r.about, .sl .spot s.r.wher, .i .i64 s.r.souls, .i .i64 s.r.trust] 0, .i .i64 s.incident, .i .i64 s.reason, .own 14, .sl .bool s.op2, .i .i64 s.n, .i .i64 s.i]
def S51_3.encH (s : S51_3) : Heap := [some (.row .int 3 s.i2)]
def dec51_3 : List PV → Heap → Option S51_3
  | [.ptr [.i .i64 k_, .i .i64 k2_, .b k3_, .sl .entry k4_, .sl .bool k5_, .sl .proved k6_] 0, .ptr rL 0, .i .i64 incident_, .i .i64 reason_, .own 14, .sl .bool op2_, .i .i64 n_, .i .i64 i_], [some (.row .int 3 i2_)] => (ETy.dec .report rL).bind fun r_ => some ⟨k_, k2_, k3_, k4_, k5_, k6_, r_, incident_, reason_, op2_, n_, i_, i2_⟩
  | _, _ => none
theorem dec_enc51_3 (vs : List PV) (hs : Heap) (s : S51_3) (h : dec51_3 vs hs = some s) : vs = s.enc ∧ hs = s.encH := by
  unfold dec51_3 at h
  split at h
  · obtain ⟨r_, hr, h_r⟩ := Option.bind_eq_some_iff.1 h
    obtain rfl := dec_is (by simp) hr
    obtain rfl := Option.some.inj h_r
    exact ⟨rfl, rfl⟩
  · simp at h
def st51_3 {ρ : Type} (s : S51_3) (next : S51_3 → Option ρ) (out : S51_3 × Bool → Option ρ) : Option ρ := (match (decide (s.i < s.n)) with | true => (match (inB s.i s.op2.length) with | true => (match (decide (s.k4.length ≤ 1000000) && List.all s.k4 (fun x => cmpOk x.r s.r s.k s.k2)) with | true => (match (hasE s.k4 s.i s.r 1 s.k s.k2) with | true => out (⟨s.k, s.k2, s.k3, s.k4, s.k5, s.k6, s.r, s.i, 1, s.op2, s.n, s.i, s.i2⟩, true) | false => (match ((decide (s.k4.length ≤ 1000000) && List.all s.k4 (fun x => cmpOk x.r s.r s.k s.k2)) || ((!(atD .bool s.op2 s.i)) || false)) with | true => (match ((decide (s.k4.length ≤ 1000000) && List.all s.k4 (fun x => cmpOk x.r s.r s.k s.k2)) || ((!(bif (atD .bool s.op2 s.i) then (hasE s.k4 s.i s.r 5 s.k s.k2) else false)) || false)) with | true => (match (bif (bif (atD .bool s.op2 s.i) then (hasE s.k4 s.i s.r 5 s.k s.k2) else false) then (!(hasE s.k4 s.i s.r 2 s.k s.k2)) else false) with | true => (match (decide ((s.i2.length + 1) * 8 ≤ 140737488355328)) with | true => next ⟨s.k, s.k2, s.k3, s.k4, s.k5, s.k6, s.r, s.incident, s.reason, s.op2, s.n, (wr (s.i + 1)), (s.i2 ++ ([s.i] : List Int))⟩ | false => none) | false => next ⟨s.k, s.k2, s.k3, s.k4, s.k5, s.k6, s.r, s.incident, s.reason, s.op2, s.n, (wr (s.i + 1)), s.i2⟩) | false => none) | false => none)) | false => none) | false => none) | false => out (s, false))
def out51_3 (k : Ex → List PV → Heap → Option R) (o : S51_3 × Bool) : Option R := match o.2 with
  | true => k .ret o.1.enc o.1.encH
  | false => k (.exit 0) o.1.enc o.1.encH
def fuel51_3 (s : S51_3) : Nat := s.op2.length + 1
def K51 : Keep := fun _ => ([0, 3, 4, 5, 6, 12, 13, 14], [14])
def L51 : Lam := loopL dec51_3 st51_3 fuel51_3 out51_3
noncomputable def b51_3 : Code := (loopsOf (bodyOf Try.f51)).getD 0 .skip
theorem step51_3 (gl : Gl) (j : Nat) (s : S51_3) (k : Ex → List PV → Heap → Option R) : unroll (cx gl (mkG [(54, F54)]) [] [14]) K51 L51 Try.f51.ntmps (Try.f51.ntmps + 16) b51_3 (j + 1) s.enc s.encH k = st51_3 s (fun s' => unroll (cx gl (mkG [(54, F54)]) [] [14]) K51 L51 Try.f51.ntmps (Try.f51.ntmps + 16) b51_3 j s'.enc s'.encH k) (out51_3 k) := by kernel_rfl
theorem l51 (gl : Gl) : LoopsOk (cx gl (mkG [(54, F54)]) [] [14]) K51 L51 Try.f51.ntmps (Try.f51.ntmps + 16) (loopsOf (bodyOf Try.f51)) := by
  refine loopsOk_list (l := [b51_3]) (by kernel_rfl) ?_
  exact List.forall_mem_cons.2 ⟨loopOk1 (fuel := fuel51_3) (enc := S51_3.enc) (encH := S51_3.encH) (fun vs hs k => by kernel_rfl) dec_enc51_3 (step51_3 gl ), (fun _ h => by simp at h)⟩
/-- Where a report may belong, among the first k incidents. -/
def mayB (es : List Entry) (op : List Bool) (r : Report) (w d : Int) (i : Nat) : Bool := bif (bif atN .bool op i then hasE es i r 5 w d else false) then !(hasE es i r 2 w d) else false
def mayL (es : List Entry) (op : List Bool) (r : Report) (w d : Int) : Nat → List Int
  | 0 => []
  | k + 1 => bif mayB es op r w d k then mayL es op r w d k ++ [(k : Int)] else mayL es op r w d k
def sameI (es : List Entry) (op : List Bool) (r : Report) (w d : Int) : Option Nat := (List.range' 0 op.length).find? (fun i : Nat => hasE es (i : Int) r 1 w d)
/-- Where a report is put. -/
def placeI (es : List Entry) (op : List Bool) (r : Report) (w d : Int) : Int := match sameI es op r w d with
  | some i => i
  | none => match mayL es op r w d op.length with
    | [i] => i
    | _ => op.length
/-- Why there. -/
def placeY (es : List Entry) (op : List Bool) (r : Report) (w d : Int) : Int := match sameI es op r w d with
  | some _ => 1
  | none => match mayL es op r w d op.length with
    | [_] => 2
    | [] => 4
    | _ => 3
theorem mayL_len (es : List Entry) (op : List Bool) (r : Report) (w d : Int) : ∀ k, (mayL es op r w d k).length ≤ k
  | 0 => Nat.le_refl _
  | k + 1 => by
    have := mayL_len es op r w d k
    unfold mayL
    cases mayB es op r w d k with
    | true =>
      show (mayL es op r w d k ++ [(k : Int)]).length ≤ k + 1
      rw [List.length_append]
      simp
      omega
    | false =>
      show (mayL es op r w d k).length ≤ k + 1
      omega
theorem loop51 (w d : Int) (m : Bool) (es : List Entry) (op : List Bool) (pr : List Proved) (r : Report) (hc : (decide (es.length ≤ 1000000) && List.all es (fun x => cmpOk x.r r w d)) = true) (hn : op.length ≤ 1000000) :
    (iter st51_3 (fuel51_3 (⟨w, d, m, es, op, pr, r, 0, 0, op, (op.length : Int), 0, ([])⟩ : S51_3)) (⟨w, d, m, es, op, pr, r, 0, 0, op, (op.length : Int), 0, ([])⟩ : S51_3) fun o3 => (match o3.2 with | true => an (.tup [.i .i64 o3.1.incident, .i .i64 o3.1.reason]) | false => (match ((o3.1.i2.length : Int) == 0) with | true => an (.tup [.i .i64 (o3.1.k5.length : Int), .i .i64 4]) | false => (match ((o3.1.i2.length : Int) == 1) with | true => (match (inB 0 o3.1.i2.length) with | true => (match (inN 0 o3.1.i2.length) with | true => an (.tup [.i .i64 (atN .int o3.1.i2 0), .i .i64 2]) | false => none) | false => none) | false => an (.tup [.i .i64 (o3.1.k5.length : Int), .i .i64 3]))))) = an (.tup [.i .i64 (placeI es op r w d), .i .i64 (placeY es op r w d)]) := by
  refine (iter_all (step := st51_3) (F := fun k => (⟨w, d, m, es, op, pr, r, 0, 0, op, (op.length : Int), (k : Int), mayL es op r w d k⟩ : S51_3)) (stop := fun k => bif hasE es k r 1 w d then some ((⟨w, d, m, es, op, pr, r, (k : Int), 1, op, (op.length : Int), (k : Int), mayL es op r w d k⟩ : S51_3), true) else none) (last := ((⟨w, d, m, es, op, pr, r, 0, 0, op, (op.length : Int), (op.length : Int), mayL es op r w d op.length⟩ : S51_3), false)) op.length _ (fun k next hk => ?_) (fun next => ?_) _ (Nat.le_refl _) _ rfl).trans ?_
  · have hl := mayL_len es op r w d k
    simp only [st51_3, decLt_nat hk, inB_nat hk, hc, Bool.true_or, atD, Int.toNat_natCast, wr_succ (show k ≤ 1000000 by omega)]
    cases hasE es k r 1 w d with
    | true => rfl
    | false =>
      show (match mayB es op r w d k with | true => _ | false => _) = next (⟨w, d, m, es, op, pr, r, 0, 0, op, (op.length : Int), ((k + 1 : Nat) : Int), (bif mayB es op r w d k then mayL es op r w d k ++ [(k : Int)] else mayL es op r w d k)⟩ : S51_3)
      cases mayB es op r w d k with
      | true =>
        rw [decide_eq_true (show ((mayL es op r w d k).length + 1) * 8 ≤ 140737488355328 by omega)]
        rfl
      | false => rfl
  · simp only [st51_3, decLt_self]
  · rw [runTo_first (fun k => hasE es k r 1 w d) (fun k => ((⟨w, d, m, es, op, pr, r, (k : Int), 1, op, (op.length : Int), (k : Int), mayL es op r w d k⟩ : S51_3), true)) op.length 0 (fun j _ _ => rfl)]
    unfold placeI placeY sameI
    cases (List.range' 0 op.length).find? (fun i : Nat => hasE es (i : Int) r 1 w d) with
    | some i => rfl
    | none =>
      show (match ((mayL es op r w d op.length).length : Int) == 0 with | true => _ | false => _) = _
      cases mayL es op r w d op.length with
      | nil => rfl
      | cons a t =>
        cases t with
        | nil => rfl
        | cons b t =>
          have h0 : ((((a :: b :: t).length : Nat) : Int) == 0) = false := beq_eq_false_iff_ne.2 (by simp; omega)
          have h1 : ((((a :: b :: t).length : Nat) : Int) == 1) = false := beq_eq_false_iff_ne.2 (by simp; omega)
          rw [h0, h1]
theorem fn51 : FnOk 51 Try.f51 := ⟨by kernel_rfl, by kernel_rfl, by kernel_rfl, by kernel_rfl⟩
theorem e51 (gl : Gl) (w : Int) (d : Int) (m : Bool) (es : List Entry) (op : List Bool) (pr : List Proved) (r : Report) : evFn (cx gl (mkG [(54, F54)]) [] [14]) K51 L51 Try.f51 [.ptr [.i .i64 w, .i .i64 d, .b m, .sl .entry es, .sl .bool op, .sl .proved pr] 0, .agg [.i .i64 r.kind, .i .i64 r.time, .s r.source, .s r.about, .sl .spot r.wher, .i .i64 r.souls, .i .i64 r.trust]] noObjs = (iter st51_3 (fuel51_3 (⟨w, d, m, es, op, pr, r, 0, 0, op, (op.length : Int), 0, ([])⟩ : S51_3)) (⟨w, d, m, es, op, pr, r, 0, 0, op, (op.length : Int), 0, ([])⟩ : S51_3) fun o3 => (match o3.2 with | true => an (.tup [.i .i64 o3.1.incident, .i .i64 o3.1.reason]) | false => (match ((o3.1.i2.length : Int) == 0) with | true => an (.tup [.i .i64 (o3.1.k5.length : Int), .i .i64 4]) | false => (match ((o3.1.i2.length : Int) == 1) with | true => (match (inB 0 o3.1.i2.length) with | true => (match (inN 0 o3.1.i2.length) with | true => an (.tup [.i .i64 (atN .int o3.1.i2 0), .i .i64 2]) | false => none) | false => none) | false => an (.tup [.i .i64 (o3.1.k5.length : Int), .i .i64 3]))))) := by kernel_rfl
def F51 : List PV → Option (Bool × PV)
  | [.ptr [.i .i64 w, .i .i64 d, .b m, .sl .entry es, .sl .bool op, .sl .proved pr] 0, .agg rL] => (ETy.dec .report rL).bind fun r => some (((decide (es.length ≤ 1000000) && List.all es (fun x => cmpOk x.r r w d)) && decide (op.length ≤ 1000000)), .tup [.i .i64 (placeI es op r w d), .i .i64 (placeY es op r w d)])
  | _ => none
theorem s51 {gl : Gl} : Sum gl 51 F51 := by
  intro ps r h
  unfold F51 at h
  split at h
  · rename_i w d m es op pr rL
    obtain ⟨r, hr, h_r⟩ := Option.bind_eq_some_iff.1 h
    obtain rfl := dec_is (by simp) hr
    obtain ⟨hc, rfl⟩ := Prod.mk.inj (Option.some.inj h_r)
    refine call_by (K := K51) (L := L51) (bxs := []) (ows := [14]) (GOk.cons s54 (GOk.nil)) fn51 (l51 gl) (by kernel_rfl) (evF_some ((e51 gl w d m es op pr r).trans ?_))
    rw [Bool.and_eq_true, decide_eq_true_eq] at hc
    exact loop51 w d m es op pr r hc.1 hc.2
  · simp at h
end Go.Proofs.Ytklgaodfakdjpaa.Ev
/- Summaries of functions, printed by a program out of a list, and what is made of them. -/
namespace Go.Proofs.Ytklgaodfakdjpaa.Ev
open Go Go.RowKit Go.Proofs
theorem fn81 : FnOk 81 Try.f81 := ⟨by kernel_rfl, by kernel_rfl, by kernel_rfl, by kernel_rfl⟩
def enoughR (c : Int) (r : Report) : Bool := bif (bif (decide (r.souls ≤ 0)) then (decide (c ≥ (wr (0 - r.souls)))) else false) then true else (bif (decide (r.souls > 0)) then (decide (c ≥ r.souls)) else false)
theorem e81 (gl : Gl) (c : Int) (r : Report) : evFn (cx gl (mkG []) [] []) noK noL Try.f81 [.agg [.i .i64 c], .agg [.i .i64 r.kind, .i .i64 r.time, .s r.source, .s r.about, .sl .spot r.wher, .i .i64 r.souls, .i .i64 r.trust]] noObjs = an (.b (bif (bif (decide (r.souls ≤ 0)) then (decide (c ≥ (wr (0 - r.souls)))) else false) then true else (bif (decide (r.souls > 0)) then (decide (c ≥ r.souls)) else false))) := by kernel_rfl
def F81 : List PV → Option (Bool × PV)
  | [.agg [.i .i64 c], .agg rL] => (ETy.dec .report rL).bind fun r => some (true, .b (enoughR c r))
  | _ => none
theorem s81 {gl : Gl} : Sum gl 81 F81 := by
  intro ps r h
  unfold F81 at h
  split at h
  · rename_i c rL
    obtain ⟨r, hr, h_r⟩ := Option.bind_eq_some_iff.1 h
    obtain rfl := dec_is (by simp) hr
    obtain ⟨hc, rfl⟩ := Prod.mk.inj (Option.some.inj h_r)
    refine call_by (K := noK) (L := noL) (bxs := []) (ows := []) (GOk.nil) fn81 (noLoops (by kernel_rfl)) (by kernel_rfl) (evF_some ((e81 gl c r).trans ?_))
    try unfold enoughR
    rfl
  · simp at h
/-- Does a found proof settle a report (of the same incident)? -/
def foundE (es : List Entry) (x : Entry) (rep t c : Int) : Bool := bif (bif (((atD .entry es rep).of_) == x.of_) then (decide (t ≥ x.r.time)) else false) then (enoughR c x.r) else false
/-- Does a proof settle the n-th report, x? -/
def setR (es : List Entry) (x : Entry) (n : Int) (q : Proved) : Bool := bif q.report == n then true else match q.proof with
  | .found c => foundE es x q.report q.time c
  | _ => false
def setC (es : List Entry) (n rep : Int) : Bool := (rep == n) || inB rep es.length
def decS : PV → Option PrV
  | .iface 99 (.agg [.i .i64 n]) => some (.found n)
  | .iface 122 (.agg [.s x]) => some (.owner x)
  | .iface 123 (.agg [.s x]) => some (.arrived x)
  | .iface 124 (.agg [.s x]) => some (.withdrawn x)
  | .iface 126 .junk => some .exercise
  | _ => none
theorem decS_pv {p : PV} {q : PrV} (h : decS p = some q) : p = q.pv := by
  unfold decS at h
  split at h <;> first | (obtain rfl := Option.some.inj h; rfl) | simp at h
def setP (es : List Entry) (x : Entry) (n rep t : Int) (p : PV) : Bool := match decS p with
  | some q => setR es x n ⟨rep, t, q⟩
  | none => false
theorem dec_pv (q : PrV) : decS q.pv = some q := by cases q <;> rfl
theorem setP_pv (es : List Entry) (x : Entry) (n rep t : Int) (q : PrV) : setP es x n rep t q.pv = setR es x n ⟨rep, t, q⟩ := by
  unfold setP
  rw [dec_pv]
theorem fn80 : FnOk 80 Try.f80 := ⟨by kernel_rfl, by kernel_rfl, by kernel_rfl, by kernel_rfl⟩
theorem e80a (gl : Gl) (rep : Int) (t : Int) (c : Int) (n : Int) (w : Int) (d : Int) (m : Bool) (es : List Entry) (op : List Bool) (pr : List Proved) (x : Entry) : evFn (cx gl (mkG [(81, F81)]) [] []) noK noL Try.f80 [.agg [.i .i64 rep, .i .i64 t, .iface 99 (.agg [.i .i64 c])], .ptr [.i .i64 n] 0, .ptr [.ptr [.i .i64 w, .i .i64 d, .b m, .sl .entry es, .sl .bool op, .sl .proved pr] 0] 0, .ptr [.i .i64 x.r.kind, .i .i64 x.r.time, .s x.r.source, .s x.r.about, .sl .spot x.r.wher, .i .i64 x.r.souls, .i .i64 x.r.trust, .i .i64 x.of_] 0] noObjs = (match (rep == n) with | true => an (.b true) | false => (match ((inB rep es.length) || false) with | true => an (.b (bif (bif (((atD .entry es rep).of_) == x.of_) then (decide (t ≥ x.r.time)) else false) then (enoughR c x.r) else false)) | false => none)) := by kernel_rfl
def F80a : List PV → Option (Bool × PV)
  | [.agg [.i .i64 rep, .i .i64 t, .iface 99 (.agg [.i .i64 c])], .ptr [.i .i64 n] 0, .ptr [.ptr [.i .i64 w, .i .i64 d, .b m, .sl .entry es, .sl .bool op, .sl .proved pr] 0] 0, .ptr xL 0] => (ETy.dec .entry xL).bind fun x => some ((setC es n rep), .b (bif (rep == n) then true else foundE es x rep t c))
  | _ => none
theorem s80a {gl : Gl} : Sum gl 80 F80a := by
  intro ps r h
  unfold F80a at h
  split at h
  · rename_i rep t c n w d m es op pr xL
    obtain ⟨x, hx, h_x⟩ := Option.bind_eq_some_iff.1 h
    obtain rfl := dec_is (by simp) hx
    obtain ⟨hc, rfl⟩ := Prod.mk.inj (Option.some.inj h_x)
    refine call_by (K := noK) (L := noL) (bxs := []) (ows := []) (GOk.cons s81 (GOk.nil)) fn80 (noLoops (by kernel_rfl)) (by kernel_rfl) (evF_some ((e80a gl rep t c n w d m es op pr x).trans ?_))
    unfold setC at hc
    cases h : (rep == n) with
    | true => rfl
    | false =>
      have hb : inB rep es.length = true := by rw [h] at hc; simpa using hc
      rw [hb]
      rfl
  · simp at h
theorem e80b (gl : Gl) (rep : Int) (t : Int) (c : ByteArray) (n : Int) (w : Int) (d : Int) (m : Bool) (es : List Entry) (op : List Bool) (pr : List Proved) (x : Entry) : evFn (cx gl (mkG [(81, F81)]) [] []) noK noL Try.f80 [.agg [.i .i64 rep, .i .i64 t, .iface 122 (.agg [.s c])], .ptr [.i .i64 n] 0, .ptr [.ptr [.i .i64 w, .i .i64 d, .b m, .sl .entry es, .sl .bool op, .sl .proved pr] 0] 0, .ptr [.i .i64 x.r.kind, .i .i64 x.r.time, .s x.r.source, .s x.r.about, .sl .spot x.r.wher, .i .i64 x.r.souls, .i .i64 x.r.trust, .i .i64 x.of_] 0] noObjs = (match (rep == n) with | true => an (.b true) | false => (match ((inB rep es.length) || true) with | true => an (.b false) | false => none)) := by kernel_rfl
def F80b : List PV → Option (Bool × PV)
  | [.agg [.i .i64 rep, .i .i64 t, .iface 122 (.agg [.s c])], .ptr [.i .i64 n] 0, .ptr [.ptr [.i .i64 w, .i .i64 d, .b m, .sl .entry es, .sl .bool op, .sl .proved pr] 0] 0, .ptr xL 0] => (ETy.dec .entry xL).bind fun x => some ((setC es n rep), .b (bif (rep == n) then true else false))
  | _ => none
theorem s80b {gl : Gl} : Sum gl 80 F80b := by
  intro ps r h
  unfold F80b at h
  split at h
  · rename_i rep t c n w d m es op pr xL
    obtain ⟨x, hx, h_x⟩ := Option.bind_eq_some_iff.1 h
    obtain rfl := dec_is (by simp) hx
    obtain ⟨hc, rfl⟩ := Prod.mk.inj (Option.some.inj h_x)
    refine call_by (K := noK) (L := noL) (bxs := []) (ows := []) (GOk.cons s81 (GOk.nil)) fn80 (noLoops (by kernel_rfl)) (by kernel_rfl) (evF_some ((e80b gl rep t c n w d m es op pr x).trans ?_))
    unfold setC at hc
    cases h : (rep == n) with
    | true => rfl
    | false =>
      have hb : inB rep es.length = true := by rw [h] at hc; simpa using hc
      rw [hb]
      rfl
  · simp at h
theorem e80c (gl : Gl) (rep : Int) (t : Int) (c : ByteArray) (n : Int) (w : Int) (d : Int) (m : Bool) (es : List Entry) (op : List Bool) (pr : List Proved) (x : Entry) : evFn (cx gl (mkG [(81, F81)]) [] []) noK noL Try.f80 [.agg [.i .i64 rep, .i .i64 t, .iface 123 (.agg [.s c])], .ptr [.i .i64 n] 0, .ptr [.ptr [.i .i64 w, .i .i64 d, .b m, .sl .entry es, .sl .bool op, .sl .proved pr] 0] 0, .ptr [.i .i64 x.r.kind, .i .i64 x.r.time, .s x.r.source, .s x.r.about, .sl .spot x.r.wher, .i .i64 x.r.souls, .i .i64 x.r.trust, .i .i64 x.of_] 0] noObjs = (match (rep == n) with | true => an (.b true) | false => (match ((inB rep es.length) || true) with | true => an (.b false) | false => none)) := by kernel_rfl
def F80c : List PV → Option (Bool × PV)
  | [.agg [.i .i64 rep, .i .i64 t, .iface 123 (.agg [.s c])], .ptr [.i .i64 n] 0, .ptr [.ptr [.i .i64 w, .i .i64 d, .b m, .sl .entry es, .sl .bool op, .sl .proved pr] 0] 0, .ptr xL 0] => (ETy.dec .entry xL).bind fun x => some ((setC es n rep), .b (bif (rep == n) then true else false))
  | _ => none
theorem s80c {gl : Gl} : Sum gl 80 F80c := by
  intro ps r h
  unfold F80c at h
  split at h
  · rename_i rep t c n w d m es op pr xL
    obtain ⟨x, hx, h_x⟩ := Option.bind_eq_some_iff.1 h
    obtain rfl := dec_is (by simp) hx
    obtain ⟨hc, rfl⟩ := Prod.mk.inj (Option.some.inj h_x)
    refine call_by (K := noK) (L := noL) (bxs := []) (ows := []) (GOk.cons s81 (GOk.nil)) fn80 (noLoops (by kernel_rfl)) (by kernel_rfl) (evF_some ((e80c gl rep t c n w d m es op pr x).trans ?_))
    unfold setC at hc
    cases h : (rep == n) with
    | true => rfl
    | false =>
      have hb : inB rep es.length = true := by rw [h] at hc; simpa using hc
      rw [hb]
      rfl
  · simp at h
theorem e80d (gl : Gl) (rep : Int) (t : Int) (c : ByteArray) (n : Int) (w : Int) (d : Int) (m : Bool) (es : List Entry) (op : List Bool) (pr : List Proved) (x : Entry) : evFn (cx gl (mkG [(81, F81)]) [] []) noK noL Try.f80 [.agg [.i .i64 rep, .i .i64 t, .iface 124 (.agg [.s c])], .ptr [.i .i64 n] 0, .ptr [.ptr [.i .i64 w, .i .i64 d, .b m, .sl .entry es, .sl .bool op, .sl .proved pr] 0] 0, .ptr [.i .i64 x.r.kind, .i .i64 x.r.time, .s x.r.source, .s x.r.about, .sl .spot x.r.wher, .i .i64 x.r.souls, .i .i64 x.r.trust, .i .i64 x.of_] 0] noObjs = (match (rep == n) with | true => an (.b true) | false => (match ((inB rep es.length) || true) with | true => an (.b false) | false => none)) := by kernel_rfl
def F80d : List PV → Option (Bool × PV)
  | [.agg [.i .i64 rep, .i .i64 t, .iface 124 (.agg [.s c])], .ptr [.i .i64 n] 0, .ptr [.ptr [.i .i64 w, .i .i64 d, .b m, .sl .entry es, .sl .bool op, .sl .proved pr] 0] 0, .ptr xL 0] => (ETy.dec .entry xL).bind fun x => some ((setC es n rep), .b (bif (rep == n) then true else false))
  | _ => none
theorem s80d {gl : Gl} : Sum gl 80 F80d := by
  intro ps r h
  unfold F80d at h
  split at h
  · rename_i rep t c n w d m es op pr xL
    obtain ⟨x, hx, h_x⟩ := Option.bind_eq_some_iff.1 h
    obtain rfl := dec_is (by simp) hx
    obtain ⟨hc, rfl⟩ := Prod.mk.inj (Option.some.inj h_x)
    refine call_by (K := noK) (L := noL) (bxs := []) (ows := []) (GOk.cons s81 (GOk.nil)) fn80 (noLoops (by kernel_rfl)) (by kernel_rfl) (evF_some ((e80d gl rep t c n w d m es op pr x).trans ?_))
    unfold setC at hc
    cases h : (rep == n) with
    | true => rfl
    | false =>
      have hb : inB rep es.length = true := by rw [h] at hc; simpa using hc
      rw [hb]
      rfl
  · simp at h
theorem e80e (gl : Gl) (rep : Int) (t : Int) (n : Int) (w : Int) (d : Int) (m : Bool) (es : List Entry) (op : List Bool) (pr : List Proved) (x : Entry) : evFn (cx gl (mkG [(81, F81)]) [] []) noK noL Try.f80 [.agg [.i .i64 rep, .i .i64 t, .iface 126 (.junk)], .ptr [.i .i64 n] 0, .ptr [.ptr [.i .i64 w, .i .i64 d, .b m, .sl .entry es, .sl .bool op, .sl .proved pr] 0] 0, .ptr [.i .i64 x.r.kind, .i .i64 x.r.time, .s x.r.source, .s x.r.about, .sl .spot x.r.wher, .i .i64 x.r.souls, .i .i64 x.r.trust, .i .i64 x.of_] 0] noObjs = (match (rep == n) with | true => an (.b true) | false => (match ((inB rep es.length) || true) with | true => an (.b false) | false => none)) := by kernel_rfl
def F80e : List PV → Option (Bool × PV)
  | [.agg [.i .i64 rep, .i .i64 t, .iface 126 (.junk)], .ptr [.i .i64 n] 0, .ptr [.ptr [.i .i64 w, .i .i64 d, .b m, .sl .entry es, .sl .bool op, .sl .proved pr] 0] 0, .ptr xL 0] => (ETy.dec .entry xL).bind fun x => some ((setC es n rep), .b (bif (rep == n) then true else false))
  | _ => none
theorem s80e {gl : Gl} : Sum gl 80 F80e := by
  intro ps r h
  unfold F80e at h
  split at h
  · rename_i rep t n w d m es op pr xL
    obtain ⟨x, hx, h_x⟩ := Option.bind_eq_some_iff.1 h
    obtain rfl := dec_is (by simp) hx
    obtain ⟨hc, rfl⟩ := Prod.mk.inj (Option.some.inj h_x)
    refine call_by (K := noK) (L := noL) (bxs := []) (ows := []) (GOk.cons s81 (GOk.nil)) fn80 (noLoops (by kernel_rfl)) (by kernel_rfl) (evF_some ((e80e gl rep t n w d m es op pr x).trans ?_))
    unfold setC at hc
    cases h : (rep == n) with
    | true => rfl
    | false =>
      have hb : inB rep es.length = true := by rw [h] at hc; simpa using hc
      rw [hb]
      rfl
  · simp at h
def setPC (es : List Entry) (n rep : Int) (p : PV) : Bool := (decS p).isSome && setC es n rep
def F80 : List PV → Option (Bool × PV)
  | [.agg [.i .i64 rep, .i .i64 t, p], .ptr [.i .i64 n] 0, .ptr [.ptr [.i .i64 w, .i .i64 d, .b m, .sl .entry es, .sl .bool op, .sl .proved pr] 0] 0, .ptr xL 0] => (ETy.dec .entry xL).bind fun x => some (setPC es n rep p, .b (setP es x n rep t p))
  | _ => none
theorem s80 {gl : Gl} : Sum gl 80 F80 := by
  intro ps r h
  unfold F80 at h
  split at h
  · rename_i rep t p n w d m es op pr xL
    obtain ⟨x, hx, h_x⟩ := Option.bind_eq_some_iff.1 h
    obtain rfl := dec_is (by simp) hx
    obtain ⟨hc, rfl⟩ := Prod.mk.inj (Option.some.inj h_x)
    unfold setPC at hc
    obtain ⟨h1, h2⟩ := Bool.and_eq_true_iff.1 hc
    unfold setP
    cases hq : decS p with
    | none => rw [hq] at h1; exact absurd h1 (by simp)
    | some q =>
      obtain rfl := decS_pv hq
      cases q with
      | found c => exact s80a _ _ ((show F80a [.agg [.i .i64 rep, .i .i64 t, PrV.pv (.found c)], .ptr [.i .i64 n] 0, .ptr [.ptr [.i .i64 w, .i .i64 d, .b m, .sl .entry es, .sl .bool op, .sl .proved pr] 0] 0, .ptr (ETy.cells .entry x) 0] = some (setC es n rep, .b (bif (rep == n) then true else foundE es x rep t c)) by kernel_rfl).trans (by rw [h2]; rfl))
      | owner c => exact s80b _ _ ((show F80b [.agg [.i .i64 rep, .i .i64 t, PrV.pv (.owner c)], .ptr [.i .i64 n] 0, .ptr [.ptr [.i .i64 w, .i .i64 d, .b m, .sl .entry es, .sl .bool op, .sl .proved pr] 0] 0, .ptr (ETy.cells .entry x) 0] = some (setC es n rep, .b (bif (rep == n) then true else false)) by kernel_rfl).trans (by rw [h2]; rfl))
      | arrived c => exact s80c _ _ ((show F80c [.agg [.i .i64 rep, .i .i64 t, PrV.pv (.arrived c)], .ptr [.i .i64 n] 0, .ptr [.ptr [.i .i64 w, .i .i64 d, .b m, .sl .entry es, .sl .bool op, .sl .proved pr] 0] 0, .ptr (ETy.cells .entry x) 0] = some (setC es n rep, .b (bif (rep == n) then true else false)) by kernel_rfl).trans (by rw [h2]; rfl))
      | withdrawn c => exact s80d _ _ ((show F80d [.agg [.i .i64 rep, .i .i64 t, PrV.pv (.withdrawn c)], .ptr [.i .i64 n] 0, .ptr [.ptr [.i .i64 w, .i .i64 d, .b m, .sl .entry es, .sl .bool op, .sl .proved pr] 0] 0, .ptr (ETy.cells .entry x) 0] = some (setC es n rep, .b (bif (rep == n) then true else false)) by kernel_rfl).trans (by rw [h2]; rfl))
      | exercise => exact s80e _ _ ((show F80e [.agg [.i .i64 rep, .i .i64 t, PrV.pv (.exercise)], .ptr [.i .i64 n] 0, .ptr [.ptr [.i .i64 w, .i .i64 d, .b m, .sl .entry es, .sl .bool op, .sl .proved pr] 0] 0, .ptr (ETy.cells .entry x) 0] = some (setC es n rep, .b (bif (rep == n) then true else false)) by kernel_rfl).trans (by rw [h2]; rfl))
  · simp at h
structure S99_2 where
  xs : List Proved
  f : Int
  f2 : Int
  f3 : Int
  f4 : Bool
  f5 : List Entry
  f6 : List Bool
  f7 : List Proved
  x : Entry
  r : Int
  n : Int
  i : Int
def S99_2.enc (s : S99_2) : List PV := [.sl .proved s.xs, .fn (.func 80) [] [.ptr [.i .i64 s.f] 0, .ptr [.ptr [.i .i64 s.f2, .i .i64 s.f3, .b s.f4, .sl .entry s.f5, .sl .bool s.f6, .sl .proved s.f7] 0] 0, .ptr [.i .i64 s.x.r.kind, .i .i64 s.x.r.time, .s s.x.r.source, .s s.x.r.about, .sl .spot s.x.r.wher, .i .i64 s.x.r.souls, .i .i64 s.x.r.trust, .i .i64 s.x.of_] 0], .i .i64 s.r, .i .i64 s.n, .i .i64 s.i]
def S99_2.encH (s : S99_2) : Heap := []
def dec99_2 : List PV → Heap → Option S99_2
  | [.sl .proved xs_, .fn (.func 80) [] [.ptr [.i .i64 f_] 0, .ptr [.ptr [.i .i64 f2_, .i .i64 f3_, .b f4_, .sl .entry f5_, .sl .bool f6_, .sl .proved f7_] 0] 0, .ptr xL 0], .i .i64 r_, .i .i64 n_, .i .i64 i_], [] => (ETy.dec .entry xL).bind fun x_ => some ⟨xs_, f_, f2_, f3_, f4_, f5_, f6_, f7_, x_, r_, n_, i_⟩
  | _, _ => none
theorem dec_enc99_2 (vs : List PV) (hs : Heap) (s : S99_2) (h : dec99_2 vs hs = some s) : vs = s.enc ∧ hs = s.encH := by
  unfold dec99_2 at h
  split at h
  · obtain ⟨x_, hx, h_x⟩ := Option.bind_eq_some_iff.1 h
    obtain rfl := dec_is (by simp) hx
    obtain rfl := Option.some.inj h_x
    exact ⟨rfl, rfl⟩
  · simp at h
def st99_2 {ρ : Type} (s : S99_2) (next : S99_2 → Option ρ) (out : S99_2 × Bool → Option ρ) : Option ρ := (match (decide (s.i < s.n)) with | true => (match (inB s.i s.xs.length) with | true => (match (setPC s.f5 s.f (⟨((atD .proved s.xs s.i).report), ((atD .proved s.xs s.i).time), (atD .proved s.xs s.i).proof⟩ : Proved).report (⟨((atD .proved s.xs s.i).report), ((atD .proved s.xs s.i).time), (atD .proved s.xs s.i).proof⟩ : Proved).proof.pv) with | true => (match (setP s.f5 s.x s.f (⟨((atD .proved s.xs s.i).report), ((atD .proved s.xs s.i).time), (atD .proved s.xs s.i).proof⟩ : Proved).report (⟨((atD .proved s.xs s.i).report), ((atD .proved s.xs s.i).time), (atD .proved s.xs s.i).proof⟩ : Proved).time (⟨((atD .proved s.xs s.i).report), ((atD .proved s.xs s.i).time), (atD .proved s.xs s.i).proof⟩ : Proved).proof.pv) with | true => out (⟨s.xs, s.f, s.f2, s.f3, s.f4, s.f5, s.f6, s.f7, s.x, s.i, s.n, s.i⟩, true) | false => next ⟨s.xs, s.f, s.f2, s.f3, s.f4, s.f5, s.f6, s.f7, s.x, s.r, s.n, (wr (s.i + 1))⟩) | false => none) | false => none) | false => out (s, false))
def out99_2 (k : Ex → List PV → Heap → Option R) (o : S99_2 × Bool) : Option R := match o.2 with
  | true => k .ret o.1.enc o.1.encH
  | false => k (.exit 0) o.1.enc o.1.encH
def fuel99_2 (s : S99_2) : Nat := s.xs.length + 1
def K99 : Keep := fun _ => ([0, 1, 4, 7, 8], [])
def L99 : Lam := loopL dec99_2 st99_2 fuel99_2 out99_2
noncomputable def b99_2 : Code := (loopsOf (bodyOf Try.f99)).getD 0 .skip
theorem step99_2 (gl : Gl) (j : Nat) (s : S99_2) (k : Ex → List PV → Heap → Option R) : unroll (cx gl (mkG [(80, F80)]) [999] []) K99 L99 Try.f99.ntmps (Try.f99.ntmps + 16) b99_2 (j + 1) s.enc s.encH k = st99_2 s (fun s' => unroll (cx gl (mkG [(80, F80)]) [999] []) K99 L99 Try.f99.ntmps (Try.f99.ntmps + 16) b99_2 j s'.enc s'.encH k) (out99_2 k) := by kernel_rfl
theorem l99 (gl : Gl) : LoopsOk (cx gl (mkG [(80, F80)]) [999] []) K99 L99 Try.f99.ntmps (Try.f99.ntmps + 16) (loopsOf (bodyOf Try.f99)) := by
  refine loopsOk_list (l := [b99_2]) (by kernel_rfl) ?_
  exact List.forall_mem_cons.2 ⟨loopOk1 (fuel := fuel99_2) (enc := S99_2.enc) (encH := S99_2.encH) (fun vs hs k => by kernel_rfl) dec_enc99_2 (step99_2 gl ), (fun _ h => by simp at h)⟩
theorem fn99 : FnOk 99 Try.f99 := ⟨by kernel_rfl, by kernel_rfl, by kernel_rfl, by kernel_rfl⟩
theorem e99 (gl : Gl) (xs : List Proved) (n : Int) (w : Int) (d : Int) (m : Bool) (es : List Entry) (op : List Bool) (pr : List Proved) (x : Entry) : evFn (cx gl (mkG [(80, F80)]) [999] []) K99 L99 Try.f99 [.sl .proved xs, .fn (.func 80) [] [.ptr [.i .i64 n] 0, .ptr [.ptr [.i .i64 w, .i .i64 d, .b m, .sl .entry es, .sl .bool op, .sl .proved pr] 0] 0, .ptr [.i .i64 x.r.kind, .i .i64 x.r.time, .s x.r.source, .s x.r.about, .sl .spot x.r.wher, .i .i64 x.r.souls, .i .i64 x.r.trust, .i .i64 x.of_] 0]] noObjs = (iter st99_2 (fuel99_2 (⟨xs, n, w, d, m, es, op, pr, x, 0, (xs.length : Int), 0⟩ : S99_2)) (⟨xs, n, w, d, m, es, op, pr, x, 0, (xs.length : Int), 0⟩ : S99_2) fun o2 => (match o2.2 with | true => an (.i .i64 o2.1.r) | false => an (.i .i64 (-1)))) := by kernel_rfl
def F99 : List PV → Option (Bool × PV)
  | [.sl .proved xs, .fn (.func 80) [] [.ptr [.i .i64 n] 0, .ptr [.ptr [.i .i64 w, .i .i64 d, .b m, .sl .entry es, .sl .bool op, .sl .proved pr] 0] 0, .ptr xL 0]] => (ETy.dec .entry xL).bind fun x => some ((decide (xs.length ≤ 1000000) && List.all xs (fun q => setPC es n q.report q.proof.pv)), .i .i64 (idxI (fun q => setP es x n q.report q.time q.proof.pv) xs))
  | _ => none
theorem s99 {gl : Gl} : Sum gl 99 F99 := by
  intro ps r h
  unfold F99 at h
  split at h
  · rename_i xs n w d m es op pr xL
    obtain ⟨x, hx, h_x⟩ := Option.bind_eq_some_iff.1 h
    obtain rfl := dec_is (by simp) hx
    obtain ⟨hc, rfl⟩ := Prod.mk.inj (Option.some.inj h_x)
    refine call_by (K := K99) (L := L99) (bxs := [999]) (ows := []) (GOk.cons s80 (GOk.nil)) fn99 (l99 gl) (by kernel_rfl) (evF_some ((e99 gl xs n w d m es op pr x).trans ?_))
    rw [Bool.and_eq_true] at hc
    have hx := of_decide_eq_true hc.1
    have hall := List.all_eq_true.1 hc.2
    refine (iter_all (step := st99_2) (F := fun k => ⟨xs, n, w, d, m, es, op, pr, x, 0, xs.length, (k : Int)⟩) (stop := fun k => bif setP es x n (atN .proved xs k).report (atN .proved xs k).time (atN .proved xs k).proof.pv then some (⟨xs, n, w, d, m, es, op, pr, x, (k : Int), xs.length, (k : Int)⟩, true) else none) (last := (⟨xs, n, w, d, m, es, op, pr, x, 0, xs.length, (xs.length : Int)⟩, false)) xs.length _ (fun k next hk => ?_) (fun next => ?_) _ (Nat.le_refl _) _ rfl).trans ?_
    · have he : (setPC es n (atN .proved xs k).report (atN .proved xs k).proof.pv) = true := hall _ (atN_nat (T := .proved) hk ▸ List.getElem_mem hk)
      simp only [st99_2, decLt_nat hk, inB_nat hk, wr_succ (show k ≤ 1000000 by omega), atD, Int.toNat_natCast, he]
      generalize (setP es x n (atN .proved xs k).report (atN .proved xs k).time (atN .proved xs k).proof.pv) = b_
      cases b_ <;> rfl
    · simp only [st99_2, decLt_self]
    · rw [runTo_find (fun q => setP es x n q.report q.time q.proof.pv) (fun k => (⟨xs, n, w, d, m, es, op, pr, x, (k : Int), xs.length, (k : Int)⟩, true)) _ _ xs (fun k hk => by rw [atN_nat hk]) xs.length 0 (by omega), List.drop_zero]
      unfold idxI
      cases xs.findIdx? (fun q => setP es x n q.report q.time q.proof.pv) with
      | none => rfl
      | some k => simp only [Nat.zero_add]; rfl
  · simp at h
theorem fn79 : FnOk 79 Try.f79 := ⟨by kernel_rfl, by kernel_rfl, by kernel_rfl, by kernel_rfl⟩
theorem e79 (gl : Gl) (xs : List Proved) (n : Int) (w : Int) (d : Int) (m : Bool) (es : List Entry) (op : List Bool) (pr : List Proved) (x : Entry) : evFn (cx gl (mkG [(99, F99)]) [] []) noK noL Try.f79 [.sl .proved xs, .fn (.func 80) [] [.ptr [.i .i64 n] 0, .ptr [.ptr [.i .i64 w, .i .i64 d, .b m, .sl .entry es, .sl .bool op, .sl .proved pr] 0] 0, .ptr [.i .i64 x.r.kind, .i .i64 x.r.time, .s x.r.source, .s x.r.about, .sl .spot x.r.wher, .i .i64 x.r.souls, .i .i64 x.r.trust, .i .i64 x.of_] 0]] noObjs = (match (decide (xs.length ≤ 1000000) && List.all xs (fun q => setPC es n q.report q.proof.pv)) with | true => an (.b (decide ((idxI (fun q => setP es x n q.report q.time q.proof.pv) xs) ≥ 0))) | false => none) := by kernel_rfl
def F79 : List PV → Option (Bool × PV)
  | [.sl .proved xs, .fn (.func 80) [] [.ptr [.i .i64 n] 0, .ptr [.ptr [.i .i64 w, .i .i64 d, .b m, .sl .entry es, .sl .bool op, .sl .proved pr] 0] 0, .ptr xL 0]] => (ETy.dec .entry xL).bind fun x => some ((decide (xs.length ≤ 1000000) && List.all xs (fun q => setPC es n q.report q.proof.pv)), .b (List.any xs (fun q => setP es x n q.report q.time q.proof.pv)))
  | _ => none
theorem s79 {gl : Gl} : Sum gl 79 F79 := by
  intro ps r h
  unfold F79 at h
  split at h
  · rename_i xs n w d m es op pr xL
    obtain ⟨x, hx, h_x⟩ := Option.bind_eq_some_iff.1 h
    obtain rfl := dec_is (by simp) hx
    obtain ⟨hc, rfl⟩ := Prod.mk.inj (Option.some.inj h_x)
    refine call_by (K := noK) (L := noL) (bxs := []) (ows := []) (GOk.cons s99 (GOk.nil)) fn79 (noLoops (by kernel_rfl)) (by kernel_rfl) (evF_some ((e79 gl xs n w d m es op pr x).trans ?_))
    rw [hc]
    show an (.b (decide (idxI _ xs ≥ 0))) = _
    rw [idxI_any]
    rfl
  · simp at h
end Go.Proofs.Ytklgaodfakdjpaa.Ev
