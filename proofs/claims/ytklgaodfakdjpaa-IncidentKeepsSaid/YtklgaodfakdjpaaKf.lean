/- Ranges over functions: the loop's record among the objects; a round; the statement. -/
import Derived.Test.YtklgaodfakdjpaaKe
import Derived.RangeFuncIn
import Derived.RangeFuncRecord
set_option linter.unusedVariables false
set_option linter.unusedSimpArgs false
set_option maxRecDepth 100000
namespace Go.Proofs.Ytklgaodfakdjpaa.Ev
open Go Go.RowKit Go.Proofs

def noLoop (H : Heap) : Bool := H.all fun b => match b with
  | some (.loop _) => false
  | _ => true
theorem noLoop_look {H : Heap} (h : noLoop H = true) {i : Nat} {lb : LB} : look H i ≠ some (.loop lb) := by
  intro hl
  unfold look at hl
  rw [List.getD] at hl
  cases hi : H[i]? with
  | none => rw [hi] at hl; simp at hl
  | some b =>
    rw [hi] at hl
    simp only [Option.getD_some] at hl
    subst hl
    have := List.all_eq_true.1 h _ (List.mem_of_getElem? hi)
    simp at this

section
variable {g : GI} {C : Cx} {H : Heap} {w : World} {γ : Nat → Option Value}
theorem MInv.lrec (m : MInv g H w γ) (h : noLoop H = true) (r : Loop) : MInv { g with lrec := r } H w γ := by
  refine ⟨m.dom, fun i b hb => ?_, m.apart, m.old, ⟨m.fr.os, m.fr.tape, m.fr.output, m.fr.size, m.fr.block⟩, m.glob, m.fx, m.fx8⟩
  obtain ⟨v, hv, hk⟩ := m.blks i b hb
  refine ⟨v, hv, ?_⟩
  cases b with
  | cells t ps => exact hk
  | row T e xs => exact hk
  | loop lb => exact absurd hb (noLoop_look h)
theorem upd_eq {L : Nat} {v : Value} (h : γ L = some v) : upd γ L v = γ := funext fun j => by
  by_cases hj : j = L
  · subst hj; rw [upd_same]; exact h.symm
  · exact upd_ne γ v hj
/-- The loop's record is written. -/
theorem put_loop (m : MInv g H w γ) {L l : Nat} {lb : LB} (hl : look H L = some (.loop lb)) (hγ : γ L = some (.pointer (some ⟨l, 0, none⟩))) (lb' : LB) :
    MInv g (H.set L (some (.loop lb'))) (w.putObj l (.loop { g.lrec with state := lb'.st, pending := lb'.pe })) γ ∧
    (∀ p u, Rep w (okOf g w γ) γ p u → Rep (w.putObj l (.loop { g.lrec with state := lb'.st, pending := lb'.pe })) (okOf g (w.putObj l (.loop { g.lrec with state := lb'.st, pending := lb'.pe })) γ) γ p u) ∧
    Loc w γ (w.putObj l (.loop { g.lrec with state := lb'.st, pending := lb'.pe })) γ := by
  have hlt := look_lt hl
  have hlw : l < w.heap.size := by
    obtain ⟨v, hv, hb⟩ := m.blks L _ hl
    rw [hγ] at hv
    obtain rfl := Option.some.inj hv
    exact hb.lt rfl
  have hh := MInv.put m L (.loop lb') (.pointer (some ⟨l, 0, none⟩)) (w.putObj l (.loop { g.lrec with state := lb'.st, pending := lb'.pe })) (H.set L (some (.loop lb'))) false (by simp) rfl rfl rfl
    (fun k _ hk => World.putObj_heap_other fun e => hk _ hγ (by rw [e]; rfl)) (fun β hβ => .inl ⟨_, hγ, hβ⟩) (.inr (.inr hγ))
    (fun v hv => ⟨rfl, by
      rcases m.fx L v hv with h | ⟨_, h⟩
      · rw [hl] at h; simp at h
      · rw [hγ] at h; exact Option.some.inj h⟩)
    (by rw [look_set hlt]; simp) (fun j hj => by rw [look_set hlt, if_neg hj]; rfl) (fun _ => ⟨l, rfl, World.putObj_heap_same hlw⟩)
  rw [upd_eq hγ] at hh
  exact ⟨hh.1, fun p u h => hh.2.1 p u h (fun e => by simp at e), hh.2.2⟩
/-- The loop's record is laid. -/
theorem add_loop (m : MInv g H w γ) {L l : Nat} (hL : look H L = none) (hlt : L < H.length) (hL8 : 8 ≤ L) {w' : World} (hb : Below w.heap.size w w') (hl : w.heap.size ≤ l)
    (hl2 : w'.heap[l]? = some (.loop { g.lrec with state := LB.ready.st, pending := LB.ready.pe })) :
    MInv g (H.set L (some (.loop .ready))) w' (upd γ L (.pointer (some ⟨l, 0, none⟩))) ∧
    (∀ p u, Rep w (okOf g w γ) γ p u → Rep w' (okOf g w' (upd γ L (.pointer (some ⟨l, 0, none⟩)))) (upd γ L (.pointer (some ⟨l, 0, none⟩))) p u) ∧
    Loc w γ w' (upd γ L (.pointer (some ⟨l, 0, none⟩))) := by
  have hlw : l < w'.heap.size := (Array.getElem?_eq_some_iff.1 hl2).1
  have hh := MInv.put m L (.loop .ready) (.pointer (some ⟨l, 0, none⟩)) w' (H.set L (some (.loop .ready))) false hb.size hb.os hb.tape hb.output
    (fun k hk _ => hb.block k hk) (fun β hβ => .inr (by simp [blk] at hβ; subst hβ; exact ⟨hl, hlw⟩)) (.inr (.inl (m.dom L hL)))
    (fun v hv => by rw [m.fx8 L hL8] at hv; simp at hv)
    (by rw [look_set hlt]; simp) (fun j hj => by rw [look_set hlt, if_neg hj]; rfl) (fun _ => ⟨l, rfl, hl2⟩)
  exact ⟨hh.1, fun p u h => hh.2.1 p u h (fun e => by simp at e), hh.2.2⟩
/-- A nil slice in a cell becomes a slice of one's own. -/
theorem own_nil (c : CxOk g.P C) (m : MInv g H w γ) {k R : Nat} {t e : TypeId} {T T' : ETy} (hk : look H k = some (.cells t [.nsl e T])) (hR : look H R = none) (hRl : R < H.length) (hR8 : 8 ≤ R) (he : C.ety e = some T') :
    ∃ γ', MInv g ((H.set R (some (.row T' e []))).set k (some (.cells t [.own R]))) w γ' ∧ (∀ p u, Rep w (okOf g w γ) γ p u → Rep w (okOf g w γ') γ' p u) ∧ Loc w γ w γ' := by
  have hkR : k ≠ R := fun e => by rw [e, hR] at hk; simp at hk
  obtain ⟨m1, tr1, l1⟩ := MInv.put m R (.row T' e []) (.slice none 0 0) w (H.set R (some (.row T' e []))) false (Nat.le_refl _) rfl rfl rfl
    (fun _ _ _ => rfl) (fun β hβ => by simp [blk] at hβ) (.inr (.inl (m.dom R hR))) (fun v hv => by rw [m.fx8 R hR8] at hv; simp at hv)
    (by rw [look_set hRl]; simp) (fun j hj => by rw [look_set hRl, if_neg hj]; rfl)
    (fun _ => ⟨[], by simpa using World.ownsRow_nil w 0 e T'.size, c.ety e T' he, fun k x j p hx hp => by simp at hx, fun u hu => by simp at hu⟩)
  have hk1 : look (H.set R (some (.row T' e []))) k = some (.cells t [.nsl e T]) := by rw [look_set hRl, if_neg hkR]; exact hk
  obtain ⟨v, hv, β, vs, rfl, h2, h3, h4⟩ := m1.blks k _ hk1
  have hklt := look_lt hk1
  obtain ⟨m2, tr2, l2⟩ := MInv.put m1 k (.cells t [.own R]) (.pointer (some ⟨β, 0, none⟩)) w ((H.set R (some (.row T' e []))).set k (some (.cells t [.own R]))) false (Nat.le_refl _) rfl rfl rfl
    (fun _ _ _ => rfl) (fun β' hβ => .inl ⟨_, hv, hβ⟩) (.inr (.inr hv)) (fun u hu => ⟨rfl, by
      rcases m1.fx k u hu with h | ⟨_, h⟩
      · rw [hk1] at h; simp at h
      · rw [hv] at h; exact Option.some.inj h⟩)
    (by rw [look_set hklt]; simp) (fun j hj => by rw [look_set hklt, if_neg hj]; rfl)
    (fun _ => ⟨β, vs, rfl, h2, ⟨by rw [h3.1]; rfl, fun j p hp => by
      cases j with
      | zero =>
        simp at hp
        subst hp
        have h0 := h3.2 0 _ rfl
        cases hv0 : vs.getD 0 undef with
        | slice a n c' =>
          rw [hv0] at h0
          cases h0
          exact .own R _ (by rw [upd_ne _ _ (Ne.symm hkR), upd_same])
        | _ => rw [hv0] at h0; cases h0
      | succ j => simp at hp⟩, h4⟩)
  rw [upd_eq hv] at m2 tr2 l2
  exact ⟨_, m2, fun p u h => tr2 p u (tr1 p u h (fun e => by simp at e)) (fun e => by simp at e), l1⟩
end
end Go.Proofs.Ytklgaodfakdjpaa.Ev
/- One round of a range over a function, out of what the interpreter says of it. -/
namespace Go.Proofs.Ytklgaodfakdjpaa.Ev
open Go Go.RowKit Go.Proofs

def tiesT : List (Nat × Nat) → List PV → List PV
  | [], T => T
  | x :: l, T => tiesT l (T.set x.1 (.ref x.2 0))
def parT : List Nat → List PV → List PV → List PV
  | t :: ts, p :: ps, T => parT ts ps (T.set t p)
  | _, _, T => T
/-- What of a loop's record is known. -/
def rlOf (params : List Nat) (assign body : Code) (n : Nat) (r : Loop) : Prop := r.params = params.toArray ∧ r.assign = assign ∧ r.body = body ∧ r.tmps.size = n
def kY (C : Cx) (n0 lp : Nat) (ex : Ex) (σ : St) : Option R := match look σ.H lp with
  | some (.loop .busy) => match ex with
    | .normal => packR C n0 [.b true] ⟨σ.T, σ.H.set lp (some (.loop .ready))⟩
    | .ret => packR C n0 [.b false] ⟨σ.T, σ.H.set lp (some (.loop .ret))⟩
    | .exit _ => none
  | _ => none
def okF (n0 : Nat) (os : Heap) : Bool := (List.range 8).all fun i => Nat.ble (i + 1) n0 || (match look os i with
  | none => true
  | some (.row _ _ _) => true
  | _ => false)
def oneLoop (lp : Nat) (os : Heap) : Bool := (List.range 8).all fun i => Nat.beq i lp || (match look os i with
  | some (.loop _) => false
  | _ => true)
def tieRef (os : Heap) (x : Nat × Nat) : Bool := match look os x.2 with
  | some (.cells _ _) => true
  | _ => false
def evY (C : Cx) (lp n n0 : Nat) (params : List Nat) (ties : List (Nat × Nat)) (assign body : Code) (ps : List PV) (os : Heap) : Option R :=
  match Nat.beq os.length 8 && Nat.beq ps.length params.length && okF n0 os && oneLoop lp os && Nat.ble (lp + 1) 8 && ties.all (tieRef os) && Nat.ble (lp + 1) n0 with
  | true => match look os lp with
    | some (.loop .ready) => ev C noK noL assign ⟨parT params ps (tiesT ties (List.replicate n .junk)), memOf n os⟩ fun ex σ => match ex with
      | .normal => match look σ.H lp with
        | some (.loop .ready) => ev C noK noL body ⟨σ.T, σ.H.set lp (some (.loop .busy))⟩ (kY C n0 lp)
        | _ => none
      | _ => none
    | _ => none
  | false => none

section
variable {w : World} {ok : Nat → Prop} {γ : Nat → Option Value}
theorem getD_set {α : Type} (l : List α) (i : Nat) (x d : α) (t : Nat) : (l.set i x).getD t d = if t = i ∧ i < l.length then x else l.getD t d := by
  simp only [List.getD, List.getElem?_set]
  by_cases h : i = t
  · subst h
    by_cases hl : i < l.length
    · simp [hl]
    · simp [hl]
  · simp [h, Ne.symm h]
theorem agetD_set (l : Array Value) (i : Nat) (x : Value) (t : Nat) : (l.setIfInBounds i x).getD t undef = if t = i ∧ i < l.size then x else l.getD t undef := by
  simp only [Array.getD_eq_getD_getElem?, Array.getElem?_setIfInBounds]
  by_cases h : i = t
  · subst h
    by_cases hl : i < l.size
    · simp [hl]
    · simp [hl]
  · simp [h, Ne.symm h]
theorem tiesT_rep {tm : Array Value} : ∀ (l : List (Nat × Nat)) (T : List PV), T.length = tm.size → (∀ t, Rep w ok γ (T.getD t .junk) (tm.getD t undef)) → (∀ x ∈ l, Rep w ok γ (.ref x.2 0) (tm.getD x.1 undef)) →
    (∀ t, Rep w ok γ ((tiesT l T).getD t .junk) (tm.getD t undef)) ∧ (tiesT l T).length = tm.size
  | [], T, hl, h, _ => ⟨h, hl⟩
  | x :: l, T, hl, h, hx => tiesT_rep l (T.set x.1 (.ref x.2 0)) (by simpa using hl) (fun t => by
      rw [getD_set]
      split
      · rename_i hh; rw [hh.1]; exact hx x (by simp)
      · exact h t) fun y hy => hx y (by simp [hy])
theorem parT_rep : ∀ (ts : List Nat) (ps : List PV) (vs : List Value) (T : List PV) (tm : Array Value), T.length = tm.size → (∀ t, Rep w ok γ (T.getD t .junk) (tm.getD t undef)) → RepL w ok γ ps vs → ps.length = ts.length →
    (∀ t, Rep w ok γ ((parT ts ps T).getD t .junk) (((ts.zip vs).foldl (fun tm x => tm.setIfInBounds x.1 x.2) tm).getD t undef)) ∧ (parT ts ps T).length = ((ts.zip vs).foldl (fun tm x => tm.setIfInBounds x.1 x.2) tm).size
  | [], ps, vs, T, tm, hl, h, _, _ => by
    have e1 : parT [] ps T = T := by cases ps <;> rfl
    rw [e1]
    exact ⟨h, hl⟩
  | t :: ts, [], vs, T, tm, hl, h, hr, hn => by simp at hn
  | t :: ts, p :: ps, [], T, tm, hl, h, hr, hn => by have := hr.1; simp at this
  | t :: ts, p :: ps, v :: vs, T, tm, hl, h, hr, hn => by
    simp only [parT, List.zip_cons_cons, List.foldl_cons]
    refine parT_rep ts ps vs (T.set t p) (tm.setIfInBounds t v) (by simpa using hl) (fun u => ?_) ⟨by have := hr.1; simpa using this, fun j q hq => by simpa using hr.2 (j + 1) q (by simpa using hq)⟩ (by simpa using hn)
    rw [getD_set, agetD_set, hl]
    split
    · simpa using hr.2 0 p rfl
    · exact h u
theorem zip_fold (ts : List Nat) (vs : List Value) (tm : Array Value) : (ts.toArray.zip vs.toArray).foldl (fun tmps (x : Nat × Value) => tmps.setIfInBounds x.1 x.2) tm = (ts.zip vs).foldl (fun tm x => tm.setIfInBounds x.1 x.2) tm := by
  simp
end

theorem parT_gd : ∀ (ts : List Nat) (ps T : List PV) (t : Nat) (ch : Chain) (q : PV), (∀ p ∈ ps, ∀ c q, p ≠ .gd c q) → (∀ t c q, T.getD t .junk ≠ .gd c q) → (parT ts ps T).getD t .junk ≠ .gd ch q
  | [], ps, T, t, ch, q, _, h => h t ch q
  | s :: ts, [], T, t, ch, q, _, h => h t ch q
  | s :: ts, p :: ps, T, t, ch, q, hp, h => by
    refine parT_gd ts ps (T.set s p) t ch q (fun x hx => hp x (by simp [hx])) fun u c r => ?_
    rw [getD_set]
    split
    · exact hp p (by simp) c r
    · exact h u c r
theorem tiesT_gd : ∀ (l : List (Nat × Nat)) (T : List PV) (t : Nat) (ch : Chain) (q : PV), (∀ t c q, T.getD t .junk ≠ .gd c q) → (tiesT l T).getD t .junk ≠ .gd ch q
  | [], T, t, ch, q, h => h t ch q
  | x :: l, T, t, ch, q, h => by
    refine tiesT_gd l _ t ch q fun u c r => ?_
    rw [getD_set]
    split
    · intro e; cases e
    · exact h u c r

/-- The state, where only the loop's record has changed. -/
theorem CInv.loop {g : GI} {n m : Nat} {σ : St} {a : Act} {w : World} {L l : Nat} {lb : LB} (h : CInv g n m σ a w) (hl : look σ.H L = some (.loop lb)) (hγ : ∀ γ, MInv g σ.H w γ → γ L = some (.pointer (some ⟨l, 0, none⟩))) (lb' : LB) :
    w.heap[l]? = some (.loop { g.lrec with state := lb.st, pending := lb.pe }) ∧ CInv g n m ⟨σ.T, σ.H.set L (some (.loop lb'))⟩ a (w.putObj l (.loop { g.lrec with state := lb'.st, pending := lb'.pe })) := by
  obtain ⟨⟨γ, t⟩, hc⟩ := h.s
  have hg := hγ γ t.m
  obtain ⟨m1, tr, lc⟩ := put_loop t.m hl hg lb'
  refine ⟨?_, ⟨⟨γ, m1, fun u => ?_, t.sz, t.df.loc lc⟩, hc⟩, h.n, by simpa using h.m⟩
  · obtain ⟨v, hv, β, rfl, hb⟩ := t.m.blks L _ hl
    rw [hg] at hv
    injection hv with hv
    injection hv with hv
    injection hv with hv
    injection hv with hv
    subst hv
    exact hb
  · have := t.t u
    revert this
    show RepG w (okOf g w γ) γ a (σ.T.getD u .junk) _ → RepG _ _ γ a (σ.T.getD u .junk) _
    generalize σ.T.getD u .junk = p
    intro this
    cases p with
    | gd ch q =>
      rcases this with ⟨h3, h4⟩ | h3
      · exact .inl ⟨h3, tr _ _ h4⟩
      · exact .inr h3
    | _ => exact RepG.of (tr _ _ this)
end Go.Proofs.Ytklgaodfakdjpaa.Ev
/- One round of a range over a function, out of what the interpreter says of it. -/
namespace Go.Proofs.Ytklgaodfakdjpaa.Ev
open Go Go.RowKit Go.Proofs

theorem norfs {g : GI} {L : Lam} {rr : Option Nat} {nn n m : Nat} {l : List Code} (h : l = []) : RFOk g L rr nn n m l := fun rc hr => by rw [h] at hr; simp at hr
theorem noloops {C : Cx} {K : Keep} {L : Lam} {n m : Nat} {l : List Code} (h : l = []) : LoopsOk C K L n m l := fun b hb => by rw [h] at hb; simp at hb
theorem fixOf_ref {os : Heap} {γ : Nat → Option Value} {i : Nat} {b : Blk} (h8 : i < 8) (h : look os i = some b) (hr : isRow (some b) = false) : fixOf os γ i = γ i := by
  have hb : Nat.ble 8 i = false := by
    cases hb : Nat.ble 8 i with
    | false => rfl
    | true => have := Nat.le_of_ble_eq_true hb; omega
  unfold fixOf
  rw [h, hb]
  cases b with
  | row T e xs => simp [isRow] at hr
  | cells t ps => rfl
  | loop lb => rfl
theorem round_ok {P : Program} {C : Cx} (c : CxOk P C) (ht : C.ties = []) (hrl : ∀ r, C.rl r) (hm : P.follows .mixedOrders = true) {ties : List (Nat × Nat)} {params : List Nat} {assign body : Code} {n lp n0 : Nat}
    (ok1 : okCode assign = true) (ok2 : okCode body = true) (l1 : loopsOf assign = []) (l2 : loopsOf body = []) (r1 : rfsOf assign = []) (r2 : rfsOf body = [])
    {ps : List PV} {os : Heap} {r : PV} {os' : Heap} (hgd : ∀ p ∈ ps, ∀ c q, p ≠ .gd c q) (he : evY C lp n n0 params ties assign body ps os = some (r, os')) (l : Nat) : RoundOk P C.gl ties (rlOf params assign body n) l ps os r os' := by
  intro g w γ args hP hgl hw hfx hties m hrep hloop
  subst hP
  unfold evY at he
  split at he
  · rename_i hck
    simp only [Bool.and_eq_true] at hck
    obtain ⟨⟨⟨⟨⟨⟨c8, cps⟩, cF⟩, c1⟩, clp⟩, cties⟩, cn0⟩ := hck
    have c8 := Nat.eq_of_beq_eq_true c8
    have cps := Nat.eq_of_beq_eq_true cps
    have clp := Nat.le_of_ble_eq_true clp
    split at he
    · rename_i hlp
      obtain ⟨k, lb, hk, hγk⟩ := hloop
      have hk8 : k < 8 := by have := look_lt hk; omega
      have hkl : k = lp := by
        have := List.all_eq_true.1 c1 k (by simpa using hk8)
        rw [hk] at this
        simp only [Bool.or_false] at this
        exact Nat.eq_of_beq_eq_true this
      subst hkl
      have hγ : γ k = some (.pointer (some ⟨l, 0, none⟩)) := hγk
      have hfxk : g.fx k = some (.pointer (some ⟨l, 0, none⟩)) := by rw [hfx, fixOf_ref hk8 hlp rfl]; exact hγ
      have hgam : ∀ {H : Heap} {w' : World} {lb : LB}, look H k = some (.loop lb) → ∀ γ', MInv g H w' γ' → γ' k = some (.pointer (some ⟨l, 0, none⟩)) := by
        intro H w' lb hl γ' m'
        rcases m'.fx k _ hfxk with h | ⟨_, h⟩
        · rw [hl] at h; simp at h
        · exact h
      obtain ⟨⟨hpar, has, hbo, hsz⟩, htl⟩ := hties
      have hheap : w.heap[l]? = some (.loop { g.lrec with state := LB.ready.st, pending := LB.ready.pe }) := by
        obtain ⟨v, hv, β, rfl, hb⟩ := m.blks k _ hlp
        rw [hγ] at hv
        injection hv with hv
        injection hv with hv
        injection hv with hv
        injection hv with hv
        subst hv
        exact hb
      have hy := run_yield (P := g.P) (args := args.toArray) hheap (by
        show args.toArray.size = g.lrec.params.size
        rw [hpar]
        simp [hrep.1, cps])
      have htm : (g.lrec.params.zip args.toArray).foldl (fun tmps (x : Tmp × Value) => tmps.setIfInBounds x.1 x.2) g.lrec.tmps = (params.zip args).foldl (fun tm x => tm.setIfInBounds x.1 x.2) g.lrec.tmps := by
        rw [hpar]; exact zip_fold params args g.lrec.tmps
      refine ⟨g.lrec.fn, (params.zip args).foldl (fun tm x => tm.setIfInBounds x.1 x.2) g.lrec.tmps, assign, body, ?_, fun rr nn => ?_⟩
      · rw [hy, ← htm, ← has, ← hbo]
      refine roundIn_of_wpIn (F := Fw rr) trivial ?_
      have hsame : Same C g := ⟨hgl.symm, hrl _, by rw [ht]; exact fun x h => by simp at h⟩
      -- the state in which the round begins
      have hT0 : ∀ t, Rep w (okOf g w γ) γ ((List.replicate n PV.junk).getD t .junk) (g.lrec.tmps.getD t undef) := fun t => by rw [getD_rep]; exact .junk _
      obtain ⟨hT1, hl1⟩ := tiesT_rep (w := w) (ok := okOf g w γ) (γ := γ) (tm := g.lrec.tmps) ties (List.replicate n .junk) (by simp [hsz]) hT0 (fun x hx => by
        have h1 := htl x hx
        have h2 := List.all_eq_true.1 cties x hx
        unfold tieRef at h2
        split at h2
        · rename_i t cs hcs
          have h8 : x.2 < 8 := by have := look_lt hcs; omega
          rw [hfx, fixOf_ref h8 hcs rfl] at h1
          obtain ⟨v, hv, β, vs, rfl, _⟩ := m.blks _ _ hcs
          rw [hv] at h1
          rw [← Option.some.inj h1]
          exact .ref _ 0 β hv
        · simp at h2)
      obtain ⟨hT2, hl2⟩ := parT_rep params ps args _ g.lrec.tmps hl1 hT1 hrep cps
      have hci : CInv g n (n + 16) ⟨parT params ps (tiesT ties (List.replicate n .junk)), memOf n os⟩ { tmps := (params.zip args).foldl (fun tm x => tm.setIfInBounds x.1 x.2) g.lrec.tmps, defers := [] } w := by
        have hlen : (parT params ps (tiesT ties (List.replicate n .junk))).length = n := by
          have e1 : ∀ (ts : List Nat) (qs T : List PV), (parT ts qs T).length = T.length := by
            intro ts
            induction ts with
            | nil => intro qs T; cases qs <;> rfl
            | cons t ts ih => intro qs T; cases qs with
              | nil => rfl
              | cons q qs => simp only [parT]; rw [ih]; simp
          rw [e1, hl1, hsz]
        refine ⟨⟨⟨γ, m.congr fun i => memOf_look n os i, fun t => RepG.of (hT2 t), hl2, trivial⟩, fun t ch q hg => ?_⟩, hlen, by simp [memOf, c8]; omega⟩
        exact absurd hg (parT_gd params ps _ t ch q hgd fun u cc qq => tiesT_gd ties _ u cc qq fun u cc qq => by rw [getD_rep]; intro e; cases e)
      refine ev_ok (g := g) (rr := some l) (nn := nn) c hsame hm assign ok1 (noloops l1) (norfs r1) _ _ w _ (r, os') _ he hci fun ex σ1 a1 w1 hs1 hk1 => ?_
      cases ex with
      | normal =>
        simp only [] at hk1
        split at hk1
        · rename_i hl1'
          obtain ⟨hh1, hs2⟩ := hs1.loop hl1' (fun γ' m' => hgam hl1' γ' m') .busy
          refine ⟨_, run_beginRound hh1 rfl, ?_⟩
          refine ev_ok (g := g) (rr := some l) (nn := nn) c hsame hm body ok2 (noloops l2) (norfs r2) _ _ _ _ (r, os') _ hk1 hs2 fun ex σ3 a3 w3 hs3 hk3 => ?_
          unfold kY at hk3
          split at hk3
          · rename_i hl3
            have fin : ∀ (lb' : LB) (jump : Option Code) (b : Bool), jump.isNone = b → lb'.st = (if jump.isNone then .ready else .done) → lb'.pe = jump → packR C n0 [.b b] ⟨σ3.T, σ3.H.set k (some (.loop lb'))⟩ = some (r, os') →
                ∃ v w', (Instr.endRound l jump).run g.P w3 = .ok v w' ∧ (∃ v' γ', Ending.returned v = .returned v' ∧ MInv g os' w' γ' ∧ Rep w' (okOf g w' γ') γ' r v') := by
              intro lb' jump b hb hst hpe hp
              subst hpe
              subst hb
              obtain ⟨hh3, hs4⟩ := hs3.loop hl3 (fun γ' m' => hgam hl3 γ' m') lb'
              obtain ⟨⟨γ4, h4⟩, _⟩ := hs4.s
              have hend := run_endRound (P := g.P) lb'.pe hh3
              obtain ⟨γ', m', hr'⟩ := packR_ok c (n0 := n0) h4.m (fun i v hv => by
                rw [hfx] at hv
                obtain ⟨h1, h2, h3, _⟩ := fixOf_spec hv
                have := List.all_eq_true.1 cF i (by simpa using h1)
                rw [Bool.or_eq_true] at this
                rcases this with h | h
                · exact Nat.le_of_ble_eq_true h
                · cases hlk : look os i with
                  | none => rw [hlk] at h3; simp at h3
                  | some bb =>
                    cases bb with
                    | row T e xs => rw [hlk] at h2; simp [isRow] at h2
                    | cells t cs => rw [hlk] at h; simp at h
                    | loop lb => rw [hlk] at h; simp at h) (rs := [.b lb'.pe.isNone]) (vs := [.bool lb'.pe.isNone]) (.cons (.b _) .nil) hp
              refine ⟨_, _, hend, _, γ', rfl, ?_, ?_⟩
              · rw [← hst]; exact m'
              · rw [← hst]; exact hr'
            cases ex with
            | normal => exact fin .ready none true rfl rfl rfl hk3
            | ret => exact fin .ret (some .ret) false rfl rfl rfl hk3
            | exit i => simp at hk3
          · simp at hk3
        · simp at hk1
      | ret => simp at hk1
      | exit i => simp at hk1
    · simp at he
  · simp at he
end Go.Proofs.Ytklgaodfakdjpaa.Ev
/- A range over a function, out of what is said of the function and of a round. -/
namespace Go.Proofs.Ytklgaodfakdjpaa.Ev
open Go Go.RowKit Go.Proofs

def absH (C : Cx) : List (Nat × Nat) → Heap → Option Heap
  | [], H => some H
  | x :: l, H => match look H x.1, look H x.2, Nat.ble 8 x.2 && Nat.ble (x.2 + 1) H.length with
    | some (.cells t [.nsl e _]), none, true => match C.ety e with
      | some T' => absH C l ((H.set x.2 (some (.row T' e []))).set x.1 (some (.cells t [.own x.2])))
      | none => none
    | _, _, _ => none
def tieOk (ms : List Nat) (T : List PV) (x : Nat × Nat) : Bool := match ms[x.2]?, T.getD x.1 .junk with
  | some i, .ref j 0 => Nat.beq i j && Nat.ble (x.2 + 1) 8
  | _, _ => false
def lbEx (lb : LB) (x y : Option R) : Option R := match lb with
  | .ready => x
  | .ret => y
  | _ => none
/-- What a range over a function comes to: F: what is said of the function. -/
def rangeL (C : Cx) (F : ObjF) (ties : List (Nat × Nat)) (ab : List (Nat × Nat)) (lp : Nat) (f : FuncId) (ms : List Nat) (gv : PV) (T : List PV) (H : Heap) (k : Ex → List PV → Heap → Option R) : Option R :=
  match absH C ab H with
  | some H1 => match noLoop H1 && (look H1 lp).isNone && Nat.ble 8 lp && Nat.ble (lp + 1) H1.length && ties.all (tieOk ms T) with
    | true => match gv with
      | .fn (.func f') [] caps => match Nat.beq f' f with
        | true => match callM (H1.set lp (some (.loop .ready))) none F ms [] [] false ((PV.yld lp :: caps).map (PV.ren (pos ms))) with
          | some (cd, e) => match cd with
            | true => match has e.kl lp, noLoop (((applyH (H1.set lp (some (.loop .ready))) e).map (killB lp)).set lp none), look (applyH (H1.set lp (some (.loop .ready))) e) lp with
              | false, true, some (.loop lb) =>
                lbEx lb (k .normal (killTs (e.kl ++ [lp]) T) (((applyH (H1.set lp (some (.loop .ready))) e).map (killB lp)).set lp none))
                  (k .ret (killTs (e.kl ++ [lp]) T) (((applyH (H1.set lp (some (.loop .ready))) e).map (killB lp)).set lp none))
              | _, _, _ => none
            | false => none
          | none => none
        | false => none
      | _ => none
    | false => none
  | none => none

section
variable {g : GI} {C : Cx} {w : World}
theorem absH_ok (c : CxOk g.P C) : ∀ (l : List (Nat × Nat)) (H : Heap) (γ : Nat → Option Value) (H' : Heap), absH C l H = some H' → MInv g H w γ →
    ∃ γ', MInv g H' w γ' ∧ (∀ p u, Rep w (okOf g w γ) γ p u → Rep w (okOf g w γ') γ' p u) ∧ (∀ b ds, DfOk b w γ ds → DfOk b w γ' ds) ∧ H'.length = H.length
  | [], H, γ, H', h, m => by
    obtain rfl := Option.some.inj h
    exact ⟨γ, m, fun _ _ h => h, fun _ _ h => h, rfl⟩
  | x :: l, H, γ, H', h, m => by
    unfold absH at h
    split at h
    · rename_i t e T0 hk hR hb
      rw [Bool.and_eq_true] at hb
      split at h
      · rename_i T' he
        obtain ⟨γ1, m1, tr1, l1⟩ := own_nil c m hk hR (Nat.le_of_ble_eq_true hb.2) (Nat.le_of_ble_eq_true hb.1) he
        obtain ⟨γ2, m2, tr2, d2, n2⟩ := absH_ok c l _ γ1 H' h m1
        exact ⟨γ2, m2, fun p u hp => tr2 p u (tr1 p u hp), fun b ds hd => d2 b ds (hd.loc l1), by rw [n2]; simp⟩
      · simp at h
    · simp at h
theorem DfOk.lt {b : Nat} {γ : Nat → Option Value} : ∀ {ds : List Deferred}, DfOk b w γ ds → ∀ d ∈ ds, ∃ D, D < w.heap.size ∧ d = { target := .collected D, args := #[] }
  | [], _, d, hd => by simp at hd
  | x :: ds, ⟨⟨D, h0, h1, h2, h3, h4⟩, h⟩, d, hd => by
    rcases List.mem_cons.1 hd with rfl | hd
    · exact ⟨D, (Array.getElem?_eq_some_iff.1 h2).1, h1⟩
    · exact h.lt d hd

theorem range_ok {n m : Nat} (c : CxOk g.P C) (hgl : g.gl = C.gl) {F : ObjF} {ties : List (Nat × Nat)} {params : List Nat} {assign body : Code} {lp f : Nat} {ab : List (Nat × Nat)} {ms : List Nat}
    (hF : ∀ ps os r os', F ps os = some (true, r, os') → ObjOkT g.P C.gl ties (rlOf params assign body n) f ps os r os' ∧ ∃ fn, g.P.funcs[f]? = some fn ∧ fn.body.isSome = true ∧ fn.name ≠ "runtime.NumGoroutine")
    {x : Nat} {σ : St} {a : Act} {k : Ex → St → Option R} {r : R} {Q : Exit → Act → World → Prop} {nn : Nat}
    (he : rangeL C F ties ab lp f ms (σ.T.getD x .junk) σ.T σ.H (fun ex vs hs => k ex ⟨vs, hs⟩) = some r) (hi : CInv g n m σ a w)
    (hk : ∀ ex σ' a' w', CInv g n m σ' a' w' → k ex σ' = some r → Q (toX ex) a' w') : (Code.rangeFunc (.tmp x) params.toArray assign body).wpIn (Fw none) nn g.P Q a w := by
  obtain ⟨⟨γ, t⟩, hc⟩ := hi.s
  unfold rangeL at he
  split at he
  case h_2 => simp at he
  rename_i H1 hab
  split at he
  case h_2 => simp at he
  rename_i hck
  simp only [Bool.and_eq_true] at hck
  obtain ⟨⟨⟨⟨hno, hlpn⟩, h8⟩, hlt⟩, htie⟩ := hck
  have h8 := Nat.le_of_ble_eq_true h8
  have hlt : lp < H1.length := Nat.le_of_ble_eq_true hlt
  have hlpn : look H1 lp = none := by simpa using hlpn
  split at he
  case h_2 => simp at he
  rename_i f' caps hgv
  split at he
  case h_2 => simp at he
  rename_i hf'
  obtain rfl := Nat.eq_of_beq_eq_true hf'
  split at he
  case h_2 => simp at he
  rename_i cd e hcall
  split at he
  case h_2 => simp at he
  split at he
  case h_2 => simp at he
  rename_i lb hkl hno2 hlb
  -- before the call
  obtain ⟨γ1, m1, tr1, df1, len1⟩ := absH_ok c ab σ.H γ H1 hab t.m
  refine wpIn_rangeFunc (F := Fw none) fun fn _ => ?_
  generalize hrec : ({ state := .ready, pending := none, fn := fn, tmps := a.tmps, params := params.toArray, assign := assign, body := body, defers := w.heap.size } : Loop) = rec
  generalize hW1 : (w.alloc (.deferred (some []))).alloc (.loop rec) = W1
  have hrec2 : rec = { rec with state := LB.ready.st, pending := LB.ready.pe } := by rw [← hrec]; rfl
  have hL1 : W1.heap[w.heap.size + 1]? = some (.loop rec) := by
    rw [← hW1]; have := World.alloc_heap_new (w.alloc (.deferred (some []))) (.loop rec); rwa [World.size_alloc] at this
  have hK1 : W1.heap[w.heap.size]? = some (.deferred (some [])) := by
    rw [← hW1]; exact (Below.heap_alloc _ _ _ (by simp)).trans (World.alloc_heap_new w _)
  have hb1 : Below w.heap.size w W1 := by
    rw [← hW1]; exact ((Below.refl _ w).alloc (Nat.le_refl _) _).alloc (by simp) _
  have m2 := m1.lrec hno rec
  obtain ⟨m3, tr3, lc3⟩ := add_loop (g := { g with lrec := rec }) (l := w.heap.size + 1) m2 hlpn hlt h8 hb1 (Nat.le_succ _) (by rw [hL1]; exact congrArg (fun r => some (Obj.loop r)) hrec2)
  have hγlp : upd γ1 lp (.pointer (some ⟨w.heap.size + 1, 0, none⟩)) lp = some (.pointer (some ⟨w.heap.size + 1, 0, none⟩)) := upd_same _ _ _
  generalize hγ2 : upd γ1 lp (.pointer (some ⟨w.heap.size + 1, 0, none⟩)) = γ2 at m3 tr3 lc3 hγlp
  have tr03 : ∀ p u, Rep w (okOf g w γ) γ p u → Rep W1 (okOf { g with lrec := rec } W1 γ2) γ2 p u := fun p u h => tr3 p u (tr1 p u h)
  -- the closure
  have hgr := t.t x
  rw [hgv] at hgr
  have hgr : Rep w (okOf g w γ) γ (.fn (.func f') [] caps) (a.tmps.getD x undef) := hgr
  generalize hv : a.tmps.getD x undef = v at hgr
  cases hgr with
  | fn _ _ _ fs cs ha h0 h1 h2 =>
  have hfs : fs = [] := by simpa using ha
  subst hfs
  have hr : ∀ hid : IdsOk (H1.set lp (some (.loop .ready))) ms, RepL W1 (okOf (subG { g with lrec := rec } W1 γ2 ms (osOf (H1.set lp (some (.loop .ready))) ms) false) W1 (subγ γ2 ms)) (subγ γ2 ms) ((PV.yld lp :: caps).map (PV.ren (pos ms))) (.func (.yield (w.heap.size + 1)) #[] #[] :: cs) := fun hid =>
    map_repL (ok := okOf { g with lrec := rec } W1 γ2) (γ := γ2) (.cons (.yld lp _ hγlp) ⟨h0, fun j p hp => tr03 _ _ (h2 j p hp)⟩) fun p v _ h => roots_rep hid _ false h
  obtain ⟨hid, r0, os', e0, hFr, he0, hpost⟩ := callM_prep (vs := .func (.yield (w.heap.size + 1)) #[] #[] :: cs) m3 hcall hr
  obtain ⟨hobj, fn', hfn, hfb, hfnm⟩ := hF _ _ _ _ hFr
  have hties : TiesOk ties (rlOf params assign body n) (subG { g with lrec := rec } W1 γ2 ms (osOf (H1.set lp (some (.loop .ready))) ms) false) := by
    refine ⟨by show rlOf params assign body n rec; rw [← hrec]; exact ⟨rfl, rfl, rfl, by rw [← hi.n]; exact t.sz.symm⟩, fun y hy => ?_⟩
    have hh := List.all_eq_true.1 htie y hy
    unfold tieOk at hh
    split at hh
    · rename_i i j hms hT
      rw [Bool.and_eq_true] at hh
      obtain rfl := Nat.eq_of_beq_eq_true hh.1
      have hy8 : y.2 < 8 := Nat.le_of_ble_eq_true hh.2
      have hty := t.t y.1
      rw [hT] at hty
      have hty : Rep w (okOf g w γ) γ (.ref i 0) (a.tmps.getD y.1 undef) := hty
      have hty := tr03 _ _ hty
      show fixOf (osOf (H1.set lp (some (.loop .ready))) ms) (subγ γ2 ms) y.2 = some (rec.tmps.getD y.1 undef)
      have hrt : rec.tmps = a.tmps := by rw [← hrec]
      rw [hrt]
      generalize a.tmps.getD y.1 undef = u at hty
      cases hty with
      | ref _ _ β hγi =>
        have hs : subγ γ2 ms y.2 = some (.pointer (some ⟨β, 0, none⟩)) := by unfold subγ; rw [hms]; exact hγi
        have hlk : look (osOf (H1.set lp (some (.loop .ready))) ms) y.2 = renB (pos ms) (look (H1.set lp (some (.loop .ready))) i) := by rw [look_osOf hid, hms]; rfl
        cases hl2 : look (H1.set lp (some (.loop .ready))) i with
        | none => rw [m3.dom i hl2] at hγi; simp at hγi
        | some b =>
          rw [hl2] at hlk
          cases b with
          | row T e xs =>
            obtain ⟨u', hu', ys, how, _⟩ := m3.blks i _ hl2
            rw [hγi] at hu'
            obtain rfl := Option.some.inj hu'
            rcases how.2 with ⟨h', _⟩ | ⟨_, _, _, h', _⟩ <;> cases h'
          | cells t' ps' => rw [fixOf_ref hy8 hlk rfl]; exact hs
          | loop lb' => rw [fixOf_ref hy8 hlk rfl]; exact hs
    · simp at hh
  refine ⟨w.heap.size + 1, [{ target := .collected w.heap.size, args := #[] }], W1, { target := .fn (.func f') cs.toArray, args := #[.func (.yield (w.heap.size + 1)) #[] #[]] }, W1, f',
    #[.func (.yield (w.heap.size + 1)) #[] #[]] ++ cs.toArray, W1, ?_, ?_, fun _ _ => trivial, ?_, fun h => by simp [Fw, Fence.wide] at h, ?_⟩
  · rw [← hW1, ← hrec]; exact run_enterLoop_outer _ _ _ _ _
  · have hev : a.eval (.tmp x) = .func (.func f') #[] cs.toArray := hv
    simp only [resolve, hev]
    simp [go_sem]
  · simp [invoke, go_sem, run_callFunc hfn hfb hfnm]
  · have hcalls := hobj (subG { g with lrec := rec } W1 γ2 ms (osOf (H1.set lp (some (.loop .ready))) ms) false) W1 (subγ γ2 ms) (.func (.yield (w.heap.size + 1)) #[] #[] :: cs) rfl hgl rfl rfl hties (sub_inv m3 hid false) (hr hid)
    have hargs : (Value.func (.yield (w.heap.size + 1)) #[] #[] :: cs).toArray = #[.func (.yield (w.heap.size + 1)) #[] #[]] ++ cs.toArray := by simp
    rw [hargs] at hcalls
    refine callsFw.2 (hcalls.mono ?_)
    rintro en w3 ⟨v, γs', rfl, hm8, hr9⟩
    obtain ⟨γ', hp⟩ := hpost v w3 γs' hm8 hr9
    have he0' : applyH (H1.set lp (some (.loop .ready))) e0 = applyH (H1.set lp (some (.loop .ready))) e := by rw [he0]; rfl
    have hkl0 : e0.kl = e.kl := by rw [he0]; rfl
    obtain ⟨m4, _, tr4, lc4⟩ := hp
    rw [he0'] at m4
    rw [hkl0] at tr4
    have hlpk : lp ∉ e.kl := fun hh => by rw [(has_iff _ _).2 hh] at hkl; simp at hkl
    have hγ' : γ' lp = some (.pointer (some ⟨w.heap.size + 1, 0, none⟩)) := by
      have := tr4 (.yld lp) (.func (.yield (w.heap.size + 1)) #[] #[]) (.yld lp _ hγlp) fun i hik hm => by
        simp [PV.ids] at hm
        subst hm
        exact hlpk hik
      cases this with
      | yld _ _ h => exact h
    have hheap : w3.heap[w.heap.size + 1]? = some (.loop { rec with state := lb.st, pending := lb.pe }) := by
      obtain ⟨u, hu, β, rfl, hb⟩ := m4.blks lp _ hlb
      rw [hγ'] at hu
      injection hu with hu
      injection hu with hu
      injection hu with hu
      injection hu with hu
      subst hu
      exact hb
    -- behind the call
    have hdf1 : DfOk g.w0.heap.size W1 γ2 ({ target := .collected w.heap.size, args := #[] } :: a.defers) := by
      refine ⟨⟨w.heap.size, t.m.fr.size, rfl, hK1, fun i u hu hbu => ?_, fun d hd hdd => ?_⟩, (df1 _ _ t.df).loc lc3⟩
      · rw [← hγ2] at hu
        by_cases hil : i = lp
        · subst hil
          rw [upd_same] at hu
          obtain rfl := Option.some.inj hu
          simp [blk] at hbu
        · rw [upd_ne _ _ hil] at hu
          have := (m1.old i u _ hu hbu).2
          omega
      · obtain ⟨D, hD, rfl⟩ := t.df.lt d hd
        injection hdd with hdd
        injection hdd with hdd
        omega
    have fin : ∀ (lb' : LB) (ex : Ex), lb'.st = .exhausted → lb'.pe = lb.pe → lb.st ≠ .busy → k ex ⟨killTs (e.kl ++ [lp]) σ.T, ((applyH (H1.set lp (some (.loop .ready))) e).map (killB lp)).set lp none⟩ = some r →
        ∃ w4, (Instr.endLoop (w.heap.size + 1)).run g.P w3 = .ok lb.pe w4 ∧ Q (toX ex) { a with defers := [{ target := .collected w.heap.size, args := #[] }] ++ a.defers } w4 := by
      intro lb' ex hst hpe hbz hkk
      obtain ⟨m5, tr5, lc5⟩ := put_loop m4 hlb hγ' lb'
      have hend := run_endLoop (P := g.P) hheap hbz
      have hww : w3.putObj (w.heap.size + 1) (.loop { ({ rec with state := lb.st, pending := lb.pe } : Loop) with state := .exhausted }) = w3.putObj (w.heap.size + 1) (.loop { rec with state := lb'.st, pending := lb'.pe }) := by rw [hst, hpe]
      rw [hww] at hend
      refine ⟨_, hend, ?_⟩
      have m6 := drop_inv m5 [lp]
      have hlk6 : ∀ i, look (((applyH (H1.set lp (some (.loop .ready))) e).map (killB lp)).set lp none) i = look (dropH [lp] ((applyH (H1.set lp (some (.loop .ready))) e).set lp (some (.loop lb')))) i := by
        intro i
        show _ = look ((((applyH (H1.set lp (some (.loop .ready))) e).set lp (some (.loop lb'))).map (killB lp)).set lp none) i
        rw [look_set', look_set', look_map, look_map, look_set']
        simp only [List.length_map, List.length_set]
        by_cases hil : i = lp
        · subst hil
          have := look_lt hlb
          simp [this]
        · simp [hil]
      have m7 := (m6.congr hlk6).lrec hno2 g.lrec
      have hlen : (((applyH (H1.set lp (some (.loop .ready))) e).map (killB lp)).set lp none).length = m := by
        have h1 : (applyH (H1.set lp (some (.loop .ready))) e).length = H1.length := by
          unfold applyH
          rw [setHs_len]
          have : ∀ (is : List Nat) (X : Heap), (killHs is X).length = X.length := by
            intro is
            induction is with
            | nil => intro X; rfl
            | cons i is ih => intro X; show (killHs is (X.map (killB i))).length = _; rw [ih]; simp
          rw [this]
          simp
        simp only [List.length_set, List.length_map]
        rw [h1, len1, hi.m]
      refine hk ex _ _ _ ⟨⟨⟨_, m7, fun u => ?_, by simp only []; rw [killTs_len]; exact t.sz, ?_⟩, fun u ch q hq => ?_⟩, by simp only []; rw [killTs_len]; exact hi.n, hlen⟩ hkk
      · have hu := t.t u
        simp only []
        rw [killTs_getD]
        have tr : ∀ p v, Rep w (okOf g w γ) γ p v → (∀ i ∈ e.kl ++ [lp], i ∉ p.ids) → Rep (w3.putObj (w.heap.size + 1) (.loop { rec with state := lb'.st, pending := lb'.pe })) (okOf g (w3.putObj (w.heap.size + 1) (.loop { rec with state := lb'.st, pending := lb'.pe })) (dropγ [lp] γ')) (dropγ [lp] γ') p v := by
          intro p v hpv hni
          exact drop_tr (g := { g with lrec := rec }) (tr5 p v (tr4 p v (tr03 p v hpv) fun i hi' => hni i (by simp [hi']))) fun i hi' => hni i (by simp at hi'; simp [hi'])
        rcases killPs_or (e.kl ++ [lp]) (σ.T.getD u .junk) with ⟨h1, h2⟩ | h1
        · rw [h1]
          generalize σ.T.getD u .junk = p at hu h2
          cases p with
          | gd ch q =>
            rcases hu with ⟨h3, h4⟩ | h3
            · exact .inl ⟨h3, tr _ _ h4 h2⟩
            · exact .inr h3
          | _ => exact RepG.of (tr _ _ hu h2)
        · rw [h1]; exact Rep.junk _
      · refine ((hdf1.loc lc4).loc lc5).sub fun i u hu => ?_
        unfold dropγ at hu
        split at hu
        · simp at hu
        · exact hu
      · simp only [] at hq
        rcases killT_getD (e.kl ++ [lp]) σ.T u with h | h
        · rw [h] at hq; exact hc u ch q hq
        · rw [h] at hq; cases hq
    cases lb with
    | ready =>
      obtain ⟨w4, h1, h2⟩ := fin .over .normal rfl rfl (by simp [LB.st]) he
      exact ⟨_, w4, h1, h2⟩
    | ret =>
      obtain ⟨w4, h1, h2⟩ := fin .overRet .ret rfl rfl (by simp [LB.st]) he
      exact ⟨_, w4, h1, wpIn_ret h2⟩
    | busy => simp [lbEx] at he
    | over => simp [lbEx] at he
    | overRet => simp [lbEx] at he
end
end Go.Proofs.Ytklgaodfakdjpaa.Ev
