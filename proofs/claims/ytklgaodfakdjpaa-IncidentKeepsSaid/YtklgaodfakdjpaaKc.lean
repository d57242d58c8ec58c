/- What the operations do: calls. And all operations together. -/
import Derived.Test.YtklgaodfakdjpaaKb
set_option linter.unusedVariables false
set_option linter.unusedSimpArgs false
namespace Go.Proofs.Ytklgaodfakdjpaa.Ev
open Go Go.RowKit

section
variable {g : GI} {C : Cx} {H : Heap} {w : World} {γ : Nat → Option Value} {o : Oper} {a : Act} {ok : Nat → Prop}

abbrev γ0 : Nat → Option Value := fun _ => none
theorem Rep.free {p : PV} {v : Value} (h : Rep w ok γ p v) (hp : p.ids = []) {ok' : Nat → Prop} (ho : ∀ β, ok β → ok' β) {γ' : Nat → Option Value} : Rep w ok' γ' p v :=
  h.mono (fun _ _ => rfl) ho fun i hi => by rw [hp] at hi; simp at hi
theorem Rep.ids0 {p : PV} {v : Value} (h : Rep w ok γ0 p v) : p.ids = [] := by
  cases hi : p.ids with
  | nil => rfl
  | cons i l => exact absurd rfl (h.live i (by simp [hi]))

theorem row_sl {v : Value} {T : ETy} {e : TypeId} {xs : List T.den} {ys : List Value} {ok' : Nat → Prop} (h2 : w.ownsRow 0 e T.size v xs.length ys) (h4 : ∀ k x j p, xs[k]? = some x → (T.cells x)[j]? = some p → Rep w ok γ p (ys.getD (k * T.size + j) undef))
    (h5 : ∀ u ∈ ys, u.oneCell' = true) (ho : ∀ β, ok β → ok' β) (hb : ∀ β, blk v = some β → ok' β) : Rep w ok' γ0 (.sl T xs) v := by
  rcases h2.2 with ⟨rfl, hn⟩ | ⟨gb, cap, cur, rfl, _, hg, hnc, hcm, hcs, htk⟩
  · have hx : xs = [] := List.eq_nil_of_length_eq_zero hn
    subst hx
    exact nil_sl T
  · refine .sl T xs (some ⟨gb, 0, none⟩) cap (fun i j => ys.getD (i * T.size + j) undef) hnc (fun h => by simp at h) (fun _ => ⟨_, rfl, hb gb rfl, fun i j hi hj => ?_⟩) (fun i j hi hj => ?_) fun i x j p hx hp => (h4 i x j p hx hp).free (cells_id hp) ho
    · have hlt : i * T.size + j < ys.length := by rw [h2.1]; exact index_lt hi hj
      have := h2.cells (g := gb) rfl (i * T.size + j) ys[i * T.size + j] (by simp [hlt])
      rw [this]
      simp [List.getD, hlt]
    · have hlt : i * T.size + j < ys.length := by rw [h2.1]; exact index_lt hi hj
      simp only [List.getD, List.getElem?_eq_getElem hlt, Option.getD_some]
      exact h5 _ (List.getElem_mem hlt)

theorem borrow_list {ok' : Nat → Prop} {n : Nat} {H' : Heap} (ih : ∀ p v, Rep w (okOf g w γ) γ p v → Rep w ok' γ0 (borrow n H' p) v) {ps : List PV} {vs : List Value} (h : ∀ (j : Nat) (p : PV), ps[j]? = some p → Rep w (okOf g w γ) γ p (vs.getD j undef)) :
    ∀ (j : Nat) (q : PV), (ps.map (borrow n H'))[j]? = some q → Rep w ok' γ0 q (vs.getD j undef) := by
  intro j q hq
  rw [List.getElem?_map, Option.map_eq_some_iff] at hq
  obtain ⟨p, hp, rfl⟩ := hq
  exact ih _ _ (h j p hp)
theorem borrow_rep' {ok' : Nat → Prop} (m : MInv g H w γ) {H' : Heap} (hH : ∀ i b, look H' i = some b → look H i = some b) (b1 : ∀ β, okOf g w γ β → ok' β) (b2 : ∀ i b v β, look H' i = some b → γ i = some v → blk v = some β → ok' β) : ∀ (n : Nat) (p : PV) (v : Value), Rep w (okOf g w γ) γ p v → Rep w ok' γ0 (borrow n H' p) v
  | 0, p, v, h => .junk v
  | n + 1, p, v, h => by
    have ih := borrow_rep' m hH b1 b2 n
    unfold borrow
    split
    · rename_i hi
      exact h.free hi b1
    · split
      · rename_i i hne
        split
        · rename_i T e xs hl
          obtain ⟨u, hu, ys, h2, h3, h4, h5⟩ := m.blks i _ (hH _ _ hl)
          cases h with
          | own i _ h =>
            rw [hu] at h
            obtain rfl := Option.some.inj h
            exact row_sl h2 h4 h5 b1 fun β hβ => b2 i _ _ β hl hu hβ
        · exact .junk _
      · rename_i i off hne
        split
        · rename_i t ps hl
          obtain ⟨β, vs, hγ, rfl, hb, hr, h1⟩ := ref_cells m h (hH _ _ hl)
          refine Eq.mp (by rw [Nat.zero_add]) (Rep.ptr (ps.map (borrow n H')) off β 0 (fun j => vs.getD j undef) (b2 i _ _ β hl hγ rfl) (fun j hj => ?_) (borrow_list ih hr.2))
          have hj : j < vs.length := by rw [hr.1]; simpa using hj
          exact cell_of_cells hb (by simp [List.getD, hj])
        · exact .junk _
      · rename_i i T ix off hne
        split
        · rename_i T' e xs hl
          split
          · rename_i hT
            subst hT
            split
            · rename_i x hx
              obtain ⟨u, hu, ys, h2, h3, h4, h5⟩ := m.blks i _ (hH _ _ hl)
              cases h with
              | eref i T ix off β n' cp hg =>
                rw [hu] at hg
                obtain rfl := Option.some.inj hg
                obtain ⟨hr, hlen, hle⟩ := row_cells h2 h4 hx
                refine Rep.ptr (T.cells x) off β (ix * T.size) (fun j => ys.getD (ix * T.size + j) undef) (b2 i _ _ β hl hu rfl) (fun j hj => ?_) (fun j p hp => (h4 ix x j p hx hp).free (cells_id hp) b1)
                rw [cells_len] at hj
                have hlt : ix * T.size + j < ys.length := by omega
                have := h2.cells (g := β) rfl (ix * T.size + j) ys[ix * T.size + j] (by simp [hlt])
                rw [Addr.add_lit, Nat.zero_add] at this
                rw [this]
                simp [List.getD, hlt]
            · exact .junk _
          · exact .junk _
        · exact .junk _
      · rename_i cs off hne
        cases h with
        | ptr cs off β base f ho hc hf =>
          refine .ptr (cs.map (borrow n H')) off β base f (b1 _ ho) (fun j hj => hc j (by simpa using hj)) fun j q hq => ?_
          rw [List.getElem?_map, Option.map_eq_some_iff] at hq
          obtain ⟨p, hp, rfl⟩ := hq
          exact ih _ _ (hf j p hp)
      · rename_i f a c hne
        cases h with
        | fn f a c fs cs ha hc h1 h2 => exact .fn f _ _ fs cs (by simp [ha]) (by simp [hc]) (borrow_list ih h1) (borrow_list ih h2)
      · split
        · rename_i hone
          cases h with
          | agg xs vs hl ho h => exact .agg _ vs (by simp [hl]) hone (borrow_list ih h)
        · exact .junk _
      · cases h with
        | tup xs vs hl h => exact .tup _ vs (by simp [hl]) (borrow_list ih h)
      · cases h with
        | iface t p v h => exact .iface _ _ v (ih _ _ h)
      · exact .junk _
theorem borrow_rep (m : MInv g H w γ) (n : Nat) (p : PV) (v : Value) (h : Rep w (okOf g w γ) γ p v) : Rep w (fun β => β < w.heap.size) γ0 (borrow n H p) v :=
  borrow_rep' m (fun _ _ h => h) (fun β hβ => hβ.2.1) (fun i _ v β _ hu hβ => (m.old i v β hu hβ).2) n p v h
theorem borrow_repL (m : MInv g H w γ) {ps : List PV} {vs : List Value} (h : RepL w (okOf g w γ) γ ps vs) : RepL w (fun β => β < w.heap.size) γ0 (ps.map (borrow 8 H)) vs :=
  ⟨by simp [h.1], borrow_list (borrow_rep m 8) h.2⟩

theorem Rep.scal1 {p : PV} {v : Value} (h : Rep w ok γ p v) (hs : p.scal1 = true) {w' : World} {ok' : Nat → Prop} {γ' : Nat → Option Value} : Rep w' ok' γ' p v := by
  cases h <;> first | (simp [PV.scal1] at hs; done) | constructor
theorem Rep.scal2 {p : PV} {v : Value} (h : Rep w ok γ p v) (hs : p.scal2 = true) {w' : World} {ok' : Nat → Prop} {γ' : Nat → Option Value} : Rep w' ok' γ' p v := by
  cases p with
  | agg xs =>
    cases h with
    | agg xs vs hl ho h => exact .agg xs vs hl ho fun j p hp => (h j p hp).scal1 (List.all_eq_true.1 hs p (List.mem_of_getElem? hp))
  | _ => exact h.scal1 hs
theorem Rep.scal {p : PV} {v : Value} (h : Rep w ok γ p v) (hs : p.scal = true) {w' : World} {ok' : Nat → Prop} {γ' : Nat → Option Value} : Rep w' ok' γ' p v := by
  cases p with
  | tup xs =>
    cases h with
    | tup xs vs hl h => exact .tup xs vs hl fun j p hp => (h j p hp).scal2 (List.all_eq_true.1 hs p (List.mem_of_getElem? hp))
  | _ => exact h.scal2 hs

theorem OpOk.enter {e : Eff} {f : FuncId} {args : Array Value} (hr : (execOp a.eval o).run g.P w = .ok (.enter f args) w) (hc : Calls g.P f args w fun en w' => ∃ v, en = .returned v ∧ ∃ γ', Post g H w γ e v w' γ') : OpOk g o a H w γ e := by
  intro r n next Q hd hn
  refine ⟨fun _ _ => trivial, ?_⟩
  rw [Oper.semAt_eq _ _ _ hd, hr, Oper.uponIn_enter]
  refine ⟨fun h => by simp [Fw, Fence.wide] at h, callsFw.2 (hc.mono fun en w' ⟨v, he, γ', hp⟩ => ?_)⟩
  subst he
  exact hn v w' γ' hp

theorem run_callFunc {P : Program} {f : FuncId} {fn : Func} (hf : P.funcs[f]? = some fn) (hb : fn.body.isSome = true) (hn : fn.name ≠ "runtime.NumGoroutine") (args : Array Value) : (callFunc f args).run P w = .ok (.enter f args) w := by
  cases h : fn.body with
  | none => rw [h] at hb; simp at hb
  | some c => simp [callFunc, hf, hn, h]

/-- A call by its summary. -/
theorem callPure_ok (c : CxOk g.P C) (hgl : Same C g) (m : MInv g H w γ) {f : FuncId} {ps : List PV} {r : PV} (hids : PV.ids.idsL ps = []) (hG : C.G f ps = some (true, r)) {vs : List Value} (hr : RepL w (okOf g w γ) γ ps vs) {fp : List Nat}
    (hrun : ∀ fn, g.P.funcs[f]? = some fn → fn.body.isSome = true → fn.name ≠ "runtime.NumGoroutine" → (execOp a.eval o).run g.P w = .ok (.enter f vs.toArray) w) : OpOk g o a H w γ { p := r, fp := fp } := by
  obtain ⟨hcall, fn, hf, hb, hn⟩ := c.G f ps r hG
  refine OpOk.enter (hrun fn hf hb hn) ((hcall w (okOf g w γ) vs (fun β hβ => hβ.2.1) (fun n hn => by rw [hgl.gl] at hn ⊢; exact m.glob n hn) ⟨hr.1, fun j p hp => (hr.2 j p hp).free ?_ fun _ h => h⟩).mono ?_)
  · cases hi : p.ids with
    | nil => rfl
    | cons i l =>
      have := mem_idsL hp (i := i) (by simp [hi])
      rw [hids] at this
      simp at this
  · rintro en w' ⟨v, rfl, hbel, hrep⟩
    refine ⟨v, rfl, γ, Post.grown m hbel (hrep.free hrep.ids0 fun β hβ => ?_)⟩
    rcases hβ with ⟨hβ | hβ, hlt⟩
    · exact hβ.grow hbel.size
    · exact ⟨.inr (.inr (Nat.le_trans m.fr.size hβ)), hlt, fun i u hu hbu => by have := (m.old i u β hu hbu).2; omega⟩
theorem callBor_ok (c : CxOk g.P C) (hgl : Same C g) (m : MInv g H w γ) {f : FuncId} {ps : List PV} {r : PV} (hG : C.G f (ps.map (borrow 8 H)) = some (true, r)) (hsc : r.scal = true) {vs : List Value} (hr : RepL w (okOf g w γ) γ ps vs) {fp : List Nat}
    (hrun : ∀ fn, g.P.funcs[f]? = some fn → fn.body.isSome = true → fn.name ≠ "runtime.NumGoroutine" → (execOp a.eval o).run g.P w = .ok (.enter f vs.toArray) w) : OpOk g o a H w γ { p := r, fp } := by
  obtain ⟨hcall, fn, hf, hb, hn⟩ := c.G f _ r hG
  refine OpOk.enter (hrun fn hf hb hn) ((hcall w (fun β => β < w.heap.size) vs (fun β hβ => hβ) (fun n hn => by rw [hgl.gl] at hn ⊢; exact (m.glob n hn).free (m.glob n hn).ids0 fun β hβ => hβ.2.1) (borrow_repL m hr)).mono ?_)
  rintro en w' ⟨v, rfl, hbel, hrep⟩
  exact ⟨v, rfl, γ, Post.grown m hbel (hrep.scal hsc)⟩
end

end Go.Proofs.Ytklgaodfakdjpaa.Ev
/- Calls that are handed objects: into a memory of their own, and back. -/
namespace Go.Proofs.Ytklgaodfakdjpaa.Ev
open Go Go.RowKit

section
variable {g : GI} {C : Cx} {H : Heap} {w : World} {γ : Nat → Option Value} {o : Oper} {a : Act} {ok : Nat → Prop} {ms : List Nat}

/-! ### Other numbers -/
theorem renL_eq (f : Nat → Option Nat) : ∀ ps : List PV, PV.ren.renL f ps = ps.map (PV.ren f)
  | [] => rfl
  | p :: ps => by simp [PV.ren.renL, renL_eq f ps]
theorem noSlL_eq : ∀ ps : List PV, PV.noSl.noSlL ps = ps.all PV.noSl
  | [] => rfl
  | p :: ps => by simp [PV.noSl.noSlL, noSlL_eq ps]
theorem ren_list {w : World} {ok' : Nat → Prop} {γ' : Nat → Option Value} {f : Nat → Option Nat} {cs : List PV} {vs : Nat → Value} (ih : ∀ (j : Nat) (p : PV), cs[j]? = some p → Rep w ok' γ' (p.ren f) (vs j)) (j : Nat) (q : PV) (hq : (cs.map (PV.ren f))[j]? = some q) : Rep w ok' γ' q (vs j) := by
  rw [List.getElem?_map, Option.map_eq_some_iff] at hq
  obtain ⟨p, hp, rfl⟩ := hq
  exact ih j p hp
theorem ren_rep {ok' : Nat → Prop} {γ' : Nat → Option Value} {f : Nat → Option Nat} (hok : ∀ β, ok β → ok' β) (hf : ∀ i k, f i = some k → γ i ≠ none → γ' k = γ i) {p : PV} {v : Value} (h : Rep w ok γ p v) : Rep w ok' γ' (p.ren f) v := by
  induction h with
  | junk v => exact .junk v
  | b x => exact .b x
  | i k x => exact .i k x
  | s x => exact .s x
  | sl T xs A c fn hc hn hA h1 hfv ih => exact (Rep.sl (γ := γ) T xs A c fn hc hn hA h1 hfv).free rfl hok
  | slz T xs ad c h ih => exact .slz T xs ad c (h.free rfl hok)
  | nsl e T => exact .nsl e T
  | nils => exact .nils
  | own i v h =>
    simp only [PV.ren]
    cases hi : f i with
    | none => exact .junk _
    | some k => exact .own k v (by rw [hf i k hi (by rw [h]; simp)]; exact h)
  | ref i off β h =>
    simp only [PV.ren]
    cases hi : f i with
    | none => exact .junk _
    | some k => exact .ref k off β (by rw [hf i k hi (by rw [h]; simp)]; exact h)
  | eref i T ix off β n c h =>
    simp only [PV.ren]
    cases hi : f i with
    | none => exact .junk _
    | some k => exact .eref k T ix off β n c (by rw [hf i k hi (by rw [h]; simp)]; exact h)
  | yld i β h =>
    simp only [PV.ren]
    cases hi : f i with
    | none => exact .junk _
    | some k => exact .yld k β (by rw [hf i k hi (by rw [h]; simp)]; exact h)
  | ptr cs off β base fn ho hc hfr ih =>
    simp only [PV.ren]
    rw [renL_eq]
    exact .ptr _ off β base fn (hok _ ho) (fun j hj => hc j (by simpa using hj)) (ren_list ih)
  | nilp => exact .nilp
  | fn k a c fs cs ha hc h1 h2 ih1 ih2 =>
    simp only [PV.ren]
    rw [renL_eq, renL_eq]
    exact .fn k _ _ fs cs (by simp [ha]) (by simp [hc]) (ren_list ih1) (ren_list ih2)
  | nilf => exact .nilf
  | agg xs vs hl ho h ih =>
    simp only [PV.ren]
    rw [renL_eq]
    split
    · rename_i hone
      exact .agg _ vs (by simp [hl]) hone (ren_list ih)
    · exact .junk _
  | tup xs vs hl h ih =>
    simp only [PV.ren]
    rw [renL_eq]
    exact .tup _ vs (by simp [hl]) (ren_list ih)
  | iface t p v h ih => exact .iface t _ v ih
  | nili => exact .nili
theorem ren_repL {ok' : Nat → Prop} {γ' : Nat → Option Value} {f : Nat → Option Nat} (hok : ∀ β, ok β → ok' β) (hf : ∀ i k, f i = some k → γ i ≠ none → γ' k = γ i) {ps : List PV} {vs : List Value} (h : RepL w ok γ ps vs) : RepL w ok' γ' (ps.map (PV.ren f)) vs :=
  ⟨by simp [h.1], ren_list fun j p hp => ren_rep hok hf (h.2 j p hp)⟩
theorem noSl_list {cs : List PV} (h : PV.noSl.noSlL cs = true) {j : Nat} {p : PV} (hp : cs[j]? = some p) : p.noSl = true := by
  rw [noSlL_eq] at h
  exact List.all_eq_true.1 h p (List.mem_of_getElem? hp)
theorem noSl_rep {w' : World} {ok' : Nat → Prop} {p : PV} {v : Value} (h : Rep w ok γ p v) : p.noSl = true → Rep w' ok' γ p v := by
  induction h with
  | junk v => exact fun _ => .junk v
  | b x => exact fun _ => .b x
  | i k x => exact fun _ => .i k x
  | s x => exact fun _ => .s x
  | nsl e T => exact fun _ => .nsl e T
  | nils => exact fun _ => .nils
  | own i v h => exact fun _ => .own i v h
  | ref i off β h => exact fun _ => .ref i off β h
  | eref i T ix off β n c h => exact fun _ => .eref i T ix off β n c h
  | yld i β h => exact fun _ => .yld i β h
  | nilp => exact fun _ => .nilp
  | fn k a c fs cs ha hc h1 h2 ih1 ih2 =>
    intro hn
    simp only [PV.noSl, Bool.and_eq_true] at hn
    exact .fn k a c fs cs ha hc (fun j p hp => ih1 j p hp (noSl_list hn.1 hp)) (fun j p hp => ih2 j p hp (noSl_list hn.2 hp))
  | nilf => exact fun _ => .nilf
  | agg xs vs hl ho h ih => exact fun hn => .agg xs vs hl ho (fun j p hp => ih j p hp (noSl_list (by simpa [PV.noSl] using hn) hp))
  | tup xs vs hl h ih => exact fun hn => .tup xs vs hl (fun j p hp => ih j p hp (noSl_list (by simpa [PV.noSl] using hn) hp))
  | iface t p v h ih => exact fun hn => .iface t p v (ih (by simpa [PV.noSl] using hn))
  | nili => exact fun _ => .nili
  | _ => intro hn; simp [PV.noSl] at hn
theorem flat_scal {T : ETy} (hT : T.flat = true) (x : T.den) {j : Nat} {p : PV} (hp : (T.cells x)[j]? = some p) : p.scal1 = true := by
  have : (T.cells x).all PV.scal1 = true := by cases T <;> first | rfl | (simp [ETy.flat] at hT)
  exact List.all_eq_true.1 this p (List.mem_of_getElem? hp)

/-! ### What is killed, what is set -/
def killPs (is : List Nat) (p : PV) : PV := is.foldl (fun p i => killP i p) p
def killBs (is : List Nat) (b : Option Blk) : Option Blk := is.foldl (fun b i => killB i b) b
theorem killPs_junk : ∀ is : List Nat, killPs is .junk = .junk
  | [] => rfl
  | i :: is => killPs_junk is
theorem killPs_rep {u : Value} : ∀ (is : List Nat) {p : PV}, ((∀ i, i ∈ is → i ∉ p.ids) → Rep w ok γ p u) → Rep w ok γ (killPs is p) u
  | [], p, h => h fun i hi => by simp at hi
  | i :: is, p, h => by
    show Rep w ok γ (killPs is (killP i p)) u
    unfold killP
    split
    · rw [killPs_junk]; exact .junk u
    · rename_i hh
      refine killPs_rep is fun h' => h fun j hj => ?_
      rcases List.mem_cons.1 hj with rfl | hj
      · intro hm
        rw [(has_iff _ _).2 hm] at hh
        simp at hh
      · exact h' j hj
theorem killBs_none : ∀ is : List Nat, killBs is none = none
  | [] => rfl
  | i :: is => killBs_none is
theorem killBs_cells (t : TypeId) : ∀ (is : List Nat) (ps : List PV), killBs is (some (.cells t ps)) = some (.cells t (ps.map (killPs is)))
  | [], ps => by
    have : killPs [] = id := by funext p; rfl
    rw [this, List.map_id]; rfl
  | i :: is, ps => by
    show killBs is (some (.cells t (ps.map (killP i)))) = _
    rw [killBs_cells t is, List.map_map]
    rfl
theorem killBs_other {b : Blk} (hb : ∀ t ps, b ≠ .cells t ps) : ∀ is : List Nat, killBs is (some b) = some b
  | [] => rfl
  | i :: is => by
    have : killB i (some b) = some b := by cases b <;> first | rfl | exact absurd rfl (hb _ _)
    show killBs is (killB i (some b)) = _
    rw [this]
    exact killBs_other hb is
theorem killBs_row (is : List Nat) (b : Option Blk) : isRow (killBs is b) = isRow b := by
  cases b with
  | none => rw [killBs_none]
  | some b =>
    cases b with
    | cells t ps => rw [killBs_cells]; rfl
    | _ => rw [killBs_other (by intro t ps h; cases h)]
theorem killBs_isSome (is : List Nat) (b : Option Blk) : (killBs is b).isSome = b.isSome := by
  cases b with
  | none => rw [killBs_none]
  | some b =>
    cases b with
    | cells t ps => rw [killBs_cells]; rfl
    | _ => rw [killBs_other (by intro t ps h; cases h)]
theorem killHs_look : ∀ (is : List Nat) (H : Heap) (i : Nat), look (killHs is H) i = killBs is (look H i)
  | [], H, i => rfl
  | j :: is, H, i => by
    show look (killHs is (H.map (killB j))) i = killBs is (killB j (look H i))
    rw [killHs_look is, look_map]
theorem killHs_len : ∀ (is : List Nat) (H : Heap), (killHs is H).length = H.length
  | [], H => rfl
  | j :: is, H => by
    show (killHs is (H.map (killB j))).length = _
    rw [killHs_len is]; simp
theorem look_set' (H : Heap) (j : Nat) (b : Option Blk) (i : Nat) : look (H.set j b) i = if i = j ∧ j < H.length then b else look H i := by
  unfold look
  simp only [List.getD, List.getElem?_set]
  by_cases h : j = i
  · subst h
    by_cases h' : j < H.length
    · simp [h']
    · simp [h', List.getElem?_eq_none (Nat.le_of_not_lt h')]
  · have h' : i ≠ j := fun h' => h h'.symm
    simp [h, h']
theorem setHs_not : ∀ {us : List (Nat × Option Blk)} {H : Heap} {i : Nat}, (∀ x ∈ us, x.1 ≠ i) → look (setHs us H) i = look H i
  | [], H, i, h => rfl
  | x :: us, H, i, h => by
    show look (setHs us (H.set x.1 x.2)) i = _
    rw [setHs_not fun y hy => h y (by simp [hy]), look_set']
    have := h x (by simp)
    rw [if_neg fun hh => this hh.1.symm]
theorem setHs_len : ∀ (us : List (Nat × Option Blk)) (H : Heap), (setHs us H).length = H.length
  | [], H => rfl
  | x :: us, H => by
    show (setHs us (H.set x.1 x.2)).length = _
    rw [setHs_len us]; simp
theorem setHs_in : ∀ {us : List (Nat × Option Blk)} {H : Heap} {i : Nat} {b : Option Blk}, (i, b) ∈ us → (∀ x ∈ us, x.1 = i → x.2 = b) → i < H.length → look (setHs us H) i = b
  | [], H, i, b, h, _, _ => by simp at h
  | x :: us, H, i, b, h, hu, hl => by
    show look (setHs us (H.set x.1 x.2)) i = _
    by_cases hex : ∃ y ∈ us, y.1 = i
    · obtain ⟨y, hy, hyi⟩ := hex
      have hyb := hu y (by simp [hy]) hyi
      refine setHs_in (b := b) ?_ (fun z hz => hu z (by simp [hz])) (by simpa using hl)
      obtain ⟨y1, y2⟩ := y
      simp only [] at hyi hyb
      rw [← hyi, ← hyb]
      exact hy
    · rw [setHs_not fun y hy hyi => hex ⟨y, hy, hyi⟩, look_set']
      rcases List.mem_cons.1 h with h | h
      · subst h
        simp [hl]
      · exact absurd ⟨_, h, rfl⟩ hex
theorem MInv.congr {H' : Heap} (m : MInv g H w γ) (h : ∀ i, look H' i = look H i) : MInv g H' w γ :=
  ⟨fun i hi => m.dom i (by rw [← h i]; exact hi), fun i b hb => m.blks i b (by rw [← h i]; exact hb), m.apart, m.old, m.fr, m.glob, fun i v hv => by rw [h i]; exact m.fx i v hv, m.fx8⟩

/-- What is not touched: where its block lies as it lay, and what is said of it is so. -/
theorem BlkOk.keep {g : GI} {w w' : World} {γ γ' : Nat → Option Value} {v : Value} {b b' : Blk} (is : List Nat) (h : BlkOk g w γ v b)
    (tr : ∀ p u, Rep w (okOf g w γ) γ p u → (∀ i, i ∈ is → i ∉ p.ids) → Rep w' (okOf g w' γ') γ' p u) (hb : ∀ β, blk v = some β → w'.heap[β]? = w.heap[β]?) (hk : killBs is (some b) = some b') : BlkOk g w' γ' v b' := by
  cases b with
  | cells t ps =>
    rw [killBs_cells] at hk
    obtain rfl := Option.some.inj hk
    obtain ⟨β, vs, rfl, h2, h3, h4⟩ := h
    refine ⟨β, vs, rfl, by rw [hb β rfl]; exact h2, ⟨by simp [h3.1], fun j q hq => ?_⟩, h4⟩
    rw [List.getElem?_map, Option.map_eq_some_iff] at hq
    obtain ⟨p, hp, rfl⟩ := hq
    exact killPs_rep is fun hh => tr _ _ (h3.2 j p hp) hh
  | row T e xs =>
    rw [killBs_other (by intro t ps h; cases h)] at hk
    obtain rfl := Option.some.inj hk
    obtain ⟨ys, h2, h3, h4, h5⟩ := h
    refine ⟨ys, ⟨h2.1, ?_⟩, h3, fun k x j p hx hp => tr _ _ (h4 k x j p hx hp) (fun _ _ hm => by rw [cells_id hp] at hm; simp at hm), h5⟩
    rcases h2.2 with hn | ⟨gb, cap, cur, rfl, hbg, hgg, rest⟩
    · exact .inl hn
    · exact .inr ⟨gb, cap, cur, rfl, hbg, by rw [hb gb rfl]; exact hgg, rest⟩
  | loop lb =>
    rw [killBs_other (by intro t ps h; cases h)] at hk
    obtain rfl := Option.some.inj hk
    obtain ⟨β, rfl, h2⟩ := h
    exact ⟨β, rfl, by rw [hb β rfl]; exact h2⟩
/-- What is renamed. -/
theorem BlkOk.ren {g g' : GI} {w : World} {γ γ' : Nat → Option Value} {v : Value} {b : Blk} {f : Nat → Option Nat} (h : BlkOk g w γ v b) (hP : g'.P = g.P) (hL : g'.lrec = g.lrec)
    (tr : ∀ p u, Rep w (okOf g w γ) γ p u → (noSlB (some b) = true → p.noSl = true) → Rep w (okOf g' w γ') γ' (p.ren f) u)
    (tr0 : noSlB (some b) = false → ∀ p u, p.ids = [] → Rep w (okOf g w γ) γ p u → Rep w (okOf g' w γ') γ' p u) {b' : Blk} (hk : renB f (some b) = some b') : BlkOk g' w γ' v b' := by
  cases b with
  | cells t ps =>
    simp only [renB, Option.some.injEq] at hk
    subst hk
    obtain ⟨β, vs, rfl, h2, h3, h4⟩ := h
    refine ⟨β, vs, rfl, h2, ⟨by simp [renL_eq, h3.1], fun j q hq => ?_⟩, h4⟩
    rw [renL_eq, List.getElem?_map, Option.map_eq_some_iff] at hq
    obtain ⟨p, hp, rfl⟩ := hq
    exact tr _ _ (h3.2 j p hp) fun hn => noSl_list (by simpa [noSlB] using hn) hp
  | row T e xs =>
    simp only [renB, Option.some.injEq] at hk
    subst hk
    obtain ⟨ys, h2, h3, h4, h5⟩ := h
    refine ⟨ys, h2, by rw [hP]; exact h3, fun k x j p hx hp => ?_, h5⟩
    cases hn : noSlB (some (Blk.row T e xs)) with
    | false => exact tr0 hn _ _ (cells_id hp) (h4 k x j p hx hp)
    | true => exact (h4 k x j p hx hp).scal1 (flat_scal (by simpa [noSlB] using hn) x hp)
  | loop lb =>
    simp only [renB, Option.some.injEq] at hk
    subst hk
    obtain ⟨β, rfl, h2⟩ := h
    exact ⟨β, rfl, by rw [hL]; exact h2⟩

/-! ### Into a memory of their own -/
def subγ (γ : Nat → Option Value) (ms : List Nat) (k : Nat) : Option Value := (ms[k]?).bind γ
def subG (g : GI) (w : World) (γ : Nat → Option Value) (ms : List Nat) (os : Heap) (bor : Bool) : GI :=
  ⟨g.P, w, fun β => okOf g w γ β ∨ (bor = true ∧ β < w.heap.size ∧ ∀ k v, subγ γ ms k = some v → blk v ≠ some β), fun β => ∃ k v, subγ γ ms k = some v ∧ blk v = some β, g.gl, fixOf os (subγ γ ms), g.lrec⟩
theorem isAt_spec {x : Option Nat} {p : Nat} (h : isAt x p = true) : x = some p := by
  unfold isAt at h
  split at h
  · rw [Nat.eq_of_beq_eq_true h]
  · simp at h
theorem pos_spec : ∀ {l : List Nat} {i k : Nat}, pos l i = some k → l[k]? = some i
  | [], i, k, h => by simp [pos] at h
  | a :: l, i, k, h => by
    unfold pos at h
    split at h
    · rename_i hb
      obtain rfl := Option.some.inj h
      simp [Nat.eq_of_beq_eq_true hb]
    · split at h
      · rename_i hk
        obtain rfl := Option.some.inj h
        simpa using pos_spec hk
      · simp at h
theorem pos_isSome : ∀ {l : List Nat} {i : Nat}, i ∈ l → ∃ k, pos l i = some k
  | [], i, h => by simp at h
  | a :: l, i, h => by
    unfold pos
    split
    · exact ⟨0, rfl⟩
    · rename_i hb
      rcases List.mem_cons.1 h with rfl | h
      · rw [Nat.beq_refl] at hb; simp at hb
      · obtain ⟨k, hk⟩ := pos_isSome h
        rw [hk]
        exact ⟨k + 1, rfl⟩
structure IdsOk (H : Heap) (ms : List Nat) : Prop where
  len : ms.length ≤ 8
  at_ : ∀ k i, ms[k]? = some i → pos ms i = some k ∧ (look H i).isSome = true
theorem IdsOk.of (h : okIds H ms = true) : IdsOk H ms := by
  simp only [okIds, Bool.and_eq_true] at h
  refine ⟨Nat.le_of_ble_eq_true h.1, fun k i hk => ?_⟩
  have hlt := (List.getElem?_eq_some_iff.1 hk).1
  have := List.all_eq_true.1 h.2 k (by simpa using hlt)
  rw [hk] at this
  simp only [Bool.and_eq_true] at this
  exact ⟨isAt_spec this.1, this.2⟩
theorem look_osOf (hid : IdsOk H ms) (k : Nat) : look (osOf H ms) k = (ms[k]?).bind fun i => renB (pos ms) (look H i) := by
  unfold osOf look
  simp only [List.getD, List.getElem?_append, List.length_map, List.getElem?_map, List.getElem?_replicate]
  by_cases h : k < ms.length
  · simp [h, look]
  · rw [if_neg h, List.getElem?_eq_none (Nat.le_of_not_lt h)]
    split <;> rfl
theorem renB_isSome (f : Nat → Option Nat) (b : Option Blk) : (renB f b).isSome = b.isSome := by
  cases b with
  | none => rfl
  | some b => cases b <;> rfl
theorem renB_row (f : Nat → Option Nat) (b : Option Blk) : isRow (renB f b) = isRow b := by
  cases b with
  | none => rfl
  | some b => cases b <;> rfl
theorem fixOf_spec {os : Heap} {γ : Nat → Option Value} {i : Nat} {v : Value} (h : fixOf os γ i = some v) : i < 8 ∧ isRow (look os i) = false ∧ (look os i).isSome = true ∧ γ i = some v := by
  unfold fixOf at h
  cases hb : Nat.ble 8 i with
  | true => rw [hb] at h; simp at h
  | false =>
    have h8 : i < 8 := by
      rcases Nat.lt_or_ge i 8 with h' | h'
      · exact h'
      · rw [Nat.ble_eq_true_of_le h'] at hb; simp at hb
    rw [hb] at h
    cases hl : look os i with
    | none => rw [hl] at h; simp at h
    | some b =>
      rw [hl] at h
      cases b <;> first | exact ⟨h8, rfl, rfl, h⟩ | (simp at h)
theorem fixOf_some {os : Heap} {γ : Nat → Option Value} {i : Nat} (h8 : i < 8) (h1 : isRow (look os i) = false) (h2 : (look os i).isSome = true) : fixOf os γ i = γ i := by
  unfold fixOf
  have hb : Nat.ble 8 i = false := by
    cases hb : Nat.ble 8 i with
    | false => rfl
    | true => have := Nat.le_of_ble_eq_true hb; omega
  rw [hb]
  cases hl : look os i with
  | none => rw [hl] at h2; simp at h2
  | some b =>
    rw [hl] at h1
    cases b <;> first | rfl | (simp [isRow] at h1)
theorem sub_apart (m : MInv g H w γ) (hid : IdsOk H ms) {k k' : Nat} {v u : Value} {β : Nat} (h1 : subγ γ ms k = some v) (h2 : subγ γ ms k' = some u) (h3 : blk v = some β) (h4 : blk u = some β) : k = k' := by
  unfold subγ at h1 h2
  rw [Option.bind_eq_some_iff] at h1 h2
  obtain ⟨i, hi, h1⟩ := h1
  obtain ⟨j, hj, h2⟩ := h2
  have := m.apart i j v u β h1 h2 h3 h4
  subst this
  have e1 := (hid.at_ k i hi).1
  have e2 := (hid.at_ k' i hj).1
  rw [e1] at e2
  exact Option.some.inj e2
theorem sub_ok (hid : IdsOk H ms) (os : Heap) (bor : Bool) {β : Nat} (h : okOf g w γ β) : okOf (subG g w γ ms os bor) w (subγ γ ms) β :=
  ⟨.inl (.inl h), h.2.1, fun k v hv => by
    unfold subγ at hv
    rw [Option.bind_eq_some_iff] at hv
    obtain ⟨i, _, hv⟩ := hv
    exact h.2.2 i v hv⟩
theorem sub_ids (hid : IdsOk H ms) {i k : Nat} (h : pos ms i = some k) : subγ γ ms k = γ i := by
  unfold subγ
  rw [pos_spec h]
  rfl
theorem sub_inv (m : MInv g H w γ) (hid : IdsOk H ms) (bor : Bool) : MInv (subG g w γ ms (osOf H ms) bor) (osOf H ms) w (subγ γ ms) := by
  have hok := fun β (h : okOf g w γ β) => sub_ok (g := g) (w := w) (γ := γ) hid (osOf H ms) bor h
  refine ⟨fun k hk => ?_, fun k b hk => ?_, fun k k' v u β h1 h2 h3 h4 => sub_apart m hid h1 h2 h3 h4, fun k v β h1 h2 => ?_, ⟨rfl, rfl, rfl, Nat.le_refl _, fun _ _ _ => rfl⟩, fun n hn => (m.glob n hn).mono (fun _ _ => rfl) hok fun _ _ => rfl, fun k v hv => ?_, fun k hk => ?_⟩
  · rw [look_osOf hid] at hk
    unfold subγ
    cases hi : ms[k]? with
    | none => rfl
    | some i =>
      rw [hi] at hk
      have := (hid.at_ k i hi).2
      simp only [Option.bind_some] at hk
      rw [← renB_isSome (pos ms), hk] at this
      simp at this
  · rw [look_osOf hid, Option.bind_eq_some_iff] at hk
    obtain ⟨i, hi, hk⟩ := hk
    cases hl : look H i with
    | none => rw [hl] at hk; simp [renB] at hk
    | some b0 =>
      rw [hl] at hk
      obtain ⟨v, hv, hb⟩ := m.blks i b0 hl
      refine ⟨v, by unfold subγ; rw [hi]; exact hv, BlkOk.ren (g := g) (g' := subG g w γ ms (osOf H ms) bor) (γ := γ) hb rfl rfl (fun p u h _ => ren_rep hok (fun i' k' hp _ => sub_ids hid hp) h) (fun _ p u hp h => h.free hp hok) hk⟩
  · refine ⟨.inl ⟨k, v, h1, h2⟩, ?_⟩
    unfold subγ at h1
    rw [Option.bind_eq_some_iff] at h1
    obtain ⟨i, _, h1⟩ := h1
    exact (m.old i v β h1 h2).2
  · obtain ⟨_, h2, _, h4⟩ := fixOf_spec hv
    exact .inr ⟨h2, h4⟩
  · show fixOf _ _ k = none
    unfold fixOf
    rw [show Nat.ble 8 k = true from Nat.ble_eq_true_of_le hk]

/-! ### And back -/
structure PlOk (H : Heap) (bm : List Nat) (n : Nat) (os : Heap) : Prop where
  no : ∀ p, p < n → p < 8 → (look os p).isSome = true
  at_ : ∀ p, p < 8 → (look os p).isSome = true → ∃ i, bm[p]? = some i ∧ pos bm i = some p ∧ (p < n ∨ (8 ≤ i ∧ i < H.length ∧ look H i = none))
theorem PlOk.of {bm : List Nat} {n : Nat} {os : Heap} (h : okPlaces H bm n os = true) : PlOk H bm n os := by
  unfold okPlaces at h
  have key : ∀ p, p < 8 → _ := fun p hp => List.all_eq_true.1 h p (by simpa using hp)
  refine ⟨fun p hn h8 => ?_, fun p h8 hs => ?_⟩
  · have := key p h8
    cases hl : look os p with
    | some b => rfl
    | none =>
      rw [hl] at this
      have := Nat.le_of_ble_eq_true this
      omega
  · have := key p h8
    cases hl : look os p with
    | none => rw [hl] at hs; simp at hs
    | some b =>
      rw [hl] at this
      simp only [] at this
      cases hb : bm[p]? with
      | none => rw [hb] at this; simp at this
      | some i =>
        rw [hb] at this
        simp only [Bool.and_eq_true, Bool.or_eq_true] at this
        refine ⟨i, rfl, isAt_spec this.1, ?_⟩
        rcases this.2 with h' | h'
        · exact .inl (Nat.le_of_ble_eq_true h')
        · exact .inr ⟨Nat.le_of_ble_eq_true h'.1.1, Nat.le_of_ble_eq_true h'.1.2, by simpa using h'.2⟩
/-- Where a thing of the caller's lies among the places. -/
def usedAt (bm : List Nat) (os : Heap) (i : Nat) : Option Nat := match pos bm i with
  | some p => match Nat.ble 8 p, look os p with
    | false, some _ => some p
    | _, _ => none
  | none => none
def backγ (γ γs : Nat → Option Value) (bm : List Nat) (os : Heap) (i : Nat) : Option Value := match usedAt bm os i with
  | some p => γs p
  | none => γ i
theorem usedAt_spec {bm : List Nat} {os : Heap} {i p : Nat} (h : usedAt bm os i = some p) : pos bm i = some p ∧ p < 8 ∧ (look os p).isSome = true ∧ bm[p]? = some i := by
  unfold usedAt at h
  split at h
  · rename_i q hq
    split at h
    · rename_i b hb hl
      obtain rfl := Option.some.inj h
      refine ⟨hq, ?_, by rw [hl]; rfl, pos_spec hq⟩
      rcases Nat.lt_or_ge q 8 with h' | h'
      · exact h'
      · rw [Nat.ble_eq_true_of_le h'] at hb; simp at hb
    · simp at h
  · simp at h
theorem usedAt_of {bm : List Nat} {os : Heap} {i p : Nat} (h1 : pos bm i = some p) (h2 : p < 8) (h3 : (look os p).isSome = true) : usedAt bm os i = some p := by
  unfold usedAt
  rw [h1]
  simp only []
  have hb : Nat.ble 8 p = false := by
    cases hb : Nat.ble 8 p with
    | false => rfl
    | true => have := Nat.le_of_ble_eq_true hb; omega
  rw [hb]
  cases hl : look os p with
  | none => rw [hl] at h3; simp at h3
  | some b => rfl
theorem mem_backs {bm : List Nat} {os : Heap} {x : Nat × Option Blk} : x ∈ backs bm os ↔ ∃ p b, p < 8 ∧ look os p = some b ∧ bm[p]? = some x.1 ∧ x.2 = renB (fun q => bm[q]?) (some b) := by
  unfold backs
  rw [List.mem_filterMap]
  constructor
  · rintro ⟨p, hp, h⟩
    split at h
    · rename_i b i hb hi
      obtain rfl := Option.some.inj h
      exact ⟨p, b, by simpa using hp, hb, hi, rfl⟩
    · simp at h
  · rintro ⟨p, b, hp, hb, hi, h2⟩
    refine ⟨p, by simpa using hp, ?_⟩
    rw [hb, hi]
    obtain ⟨x1, x2⟩ := x
    simp only [] at h2
    rw [h2]
/-- The caller's memory behind the call. -/
theorem look_back {bm : List Nat} {n : Nat} {os : Heap} (hpl : PlOk H bm n os) (hlt : ∀ p i, p < n → bm[p]? = some i → i < H.length) (is : List Nat) (i : Nat) :
    look (setHs (backs bm os) (killHs is H)) i = match usedAt bm os i with
      | some p => renB (fun q => bm[q]?) (look os p)
      | none => killBs is (look H i) := by
  cases hu : usedAt bm os i with
  | some p =>
    obtain ⟨h1, h2, h3, h4⟩ := usedAt_spec hu
    cases hl : look os p with
    | none => rw [hl] at h3; simp at h3
    | some b =>
      simp only []
      refine setHs_in (mem_backs.2 ⟨p, b, h2, hl, h4, by rw [hl]⟩) (fun x hx hxi => ?_) ?_
      · obtain ⟨p', b', h5, h6, h7, h8⟩ := mem_backs.1 hx
        obtain ⟨i', e1, e2, _⟩ := hpl.at_ p' h5 (by rw [h6]; rfl)
        rw [h7] at e1
        obtain rfl := Option.some.inj e1
        rw [hxi, h1] at e2
        obtain rfl := Option.some.inj e2
        rw [h8, h6]
      · rw [killHs_len]
        obtain ⟨i', e1, e2, e3⟩ := hpl.at_ p h2 h3
        rw [h4] at e1
        obtain rfl := Option.some.inj e1
        rcases e3 with e3 | e3
        · exact hlt p i e3 h4
        · exact e3.2.1
  | none =>
    simp only []
    rw [setHs_not, killHs_look]
    intro x hx hxi
    obtain ⟨p', b', h5, h6, h7, h8⟩ := mem_backs.1 hx
    obtain ⟨i', e1, e2, _⟩ := hpl.at_ p' h5 (by rw [h6]; rfl)
    rw [h7] at e1
    obtain rfl := Option.some.inj e1
    rw [hxi] at e2
    rw [usedAt_of e2 h5 (by rw [h6]; rfl)] at hu
    simp at hu

theorem back_post (m : MInv g H w γ) (hid : IdsOk H ms) {bor : Bool} {extra : List Nat} {os' : Heap} (hos8 : os'.length ≤ 8) (hpl : PlOk H (ms ++ extra) ms.length os') {r : PV} (hbor : bor = true → r.noSl = true ∧ ∀ p, noSlB (look os' p) = true) {w' : World} {γs : Nat → Option Value} {v : Value}
    (mi : MInv (subG g w γ ms (osOf H ms) bor) os' w' γs) (hr : Rep w' (okOf (subG g w γ ms (osOf H ms) bor) w' γs) γs r v) {fp : List Nat} :
    Post g H w γ { p := r.ren fun q => (ms ++ extra)[q]?, hu := backs (ms ++ extra) os', kl := ms.filter (fun i => isRow (look H i)), fp } v w' (backγ γ γs (ms ++ extra) os') := by
  have hbm : ∀ k, k < ms.length → (ms ++ extra)[k]? = ms[k]? := fun k hk => List.getElem?_append_left hk
  have hlt : ∀ p i, p < ms.length → (ms ++ extra)[p]? = some i → i < H.length := by
    intro p i hp hi
    rw [hbm p hp] at hi
    have := (hid.at_ p i hi).2
    cases hl : look H i with
    | none => rw [hl] at this; simp at this
    | some b => exact look_lt hl
  generalize hbme : ms ++ extra = bm at *
  have hlook := look_back hpl hlt (ms.filter (fun i => isRow (look H i)))
  -- the places of what was handed on
  have hms : ∀ k i, ms[k]? = some i → usedAt bm os' i = some k := by
    intro k i hk
    have hkl := (List.getElem?_eq_some_iff.1 hk).1
    have hk8 : k < 8 := Nat.lt_of_lt_of_le hkl hid.len
    have hs := hpl.no k hkl hk8
    obtain ⟨i', e1, e2, _⟩ := hpl.at_ k hk8 hs
    rw [hbm k hkl, hk] at e1
    obtain rfl := Option.some.inj e1
    exact usedAt_of e2 hk8 hs
  have hnew : ∀ i p, usedAt bm os' i = some p → (∃ k, k = p ∧ ms[p]? = some i) ∨ (8 ≤ i ∧ look H i = none) := by
    intro i p hu
    obtain ⟨h1, h2, h3, h4⟩ := usedAt_spec hu
    obtain ⟨i', e1, e2, e3⟩ := hpl.at_ p h2 h3
    rw [h4] at e1
    obtain rfl := Option.some.inj e1
    rcases e3 with e3 | e3
    · left
      refine ⟨p, rfl, ?_⟩
      rw [← hbm p e3]
      exact h4
    · exact .inr ⟨e3.1, e3.2.2⟩
  have huse : ∀ i p, usedAt bm os' i = some p → backγ γ γs bm os' i = γs p := fun i p h => by unfold backγ; rw [h]
  have hnot : ∀ i, usedAt bm os' i = none → backγ γ γs bm os' i = γ i := fun i h => by unfold backγ; rw [h]
  have hsr : ∀ β, (subG g w γ ms (osOf H ms) bor).r0 β → ∃ (i k : Nat) (v : Value), ms[k]? = some i ∧ γ i = some v ∧ blk v = some β := by
    rintro β ⟨k, v, hk, hv⟩
    unfold subγ at hk
    rw [Option.bind_eq_some_iff] at hk
    obtain ⟨i, hi, hk⟩ := hk
    exact ⟨i, k, v, hi, hk, hv⟩
  have hfr := mi.fr
  -- a thing that is not used lies elsewhere
  have hel : ∀ i u β, usedAt bm os' i = none → γ i = some u → blk u = some β → β < w.heap.size ∧ ¬ (subG g w γ ms (osOf H ms) bor).r0 β := by
    intro i u β hu hi hβ
    refine ⟨(m.old i u β hi hβ).2, fun hr => ?_⟩
    obtain ⟨j, k, v', hk, hj, hv⟩ := hsr β hr
    have := m.apart i j u v' β hi hj hβ hv
    subst this
    rw [hms k i hk] at hu
    simp at hu
  have hok1 : ∀ β, okOf g w γ β → w'.heap[β]? = w.heap[β]? ∧ okOf g w' (backγ γ γs bm os') β := by
    intro β hβ
    have hnr : ¬ (subG g w γ ms (osOf H ms) bor).r0 β := by
      intro hr
      obtain ⟨j, k, v', hk, hj, hv⟩ := hsr β hr
      exact hβ.2.2 j v' hj hv
    refine ⟨hfr.block β hβ.2.1 hnr, hβ.1, by have := hfr.size; exact Nat.lt_of_lt_of_le hβ.2.1 this, fun i u hi hbu => ?_⟩
    cases hu : usedAt bm os' i with
    | none => rw [hnot i hu] at hi; exact hβ.2.2 i u hi hbu
    | some p =>
      rw [huse i p hu] at hi
      rcases (mi.old p u β hi hbu).1 with h | h
      · exact hnr h
      · have : w.heap.size ≤ β := h
        have := hβ.2.1
        omega
  have tr : ∀ p u, Rep w (okOf g w γ) γ p u → (∀ i, i ∈ ms.filter (fun i => isRow (look H i)) → i ∉ p.ids) → Rep w' (okOf g w' (backγ γ γs bm os')) (backγ γ γs bm os') p u := by
    intro p u h hk
    refine h.mono (fun β hβ => (hok1 β hβ).1) (fun β hβ => (hok1 β hβ).2) fun i hi => ?_
    cases hu : usedAt bm os' i with
    | none => exact hnot i hu
    | some q =>
      rw [huse i q hu]
      rcases hnew i q hu with ⟨_, _, hq⟩ | ⟨_, hl⟩
      · have hnr : isRow (look H i) = false := by
          cases hrr : isRow (look H i) with
          | false => rfl
          | true => exact absurd hi (hk i (List.mem_filter.2 ⟨List.mem_of_getElem? hq, hrr⟩))
        have hq8 : q < 8 := Nat.lt_of_lt_of_le (List.getElem?_eq_some_iff.1 hq).1 hid.len
        have hlo : look (osOf H ms) q = renB (pos ms) (look H i) := by rw [look_osOf hid, hq]; rfl
        have hfx : (subG g w γ ms (osOf H ms) bor).fx q = γ i := by
          show fixOf (osOf H ms) (subγ γ ms) q = γ i
          rw [fixOf_some hq8 (by rw [hlo, renB_row]; exact hnr) (by rw [hlo, renB_isSome]; exact (hid.at_ q i hq).2)]
          unfold subγ
          rw [hq]
          rfl
        cases hγ : γ i with
        | none => exact absurd hγ (h.live i hi)
        | some vi =>
          rw [hγ] at hfx
          rcases mi.fx q vi hfx with h' | ⟨_, h'⟩
          · have := (usedAt_spec hu).2.2.1
            rw [h'] at this
            simp at this
          · exact h'
      · exact absurd (m.dom i hl) (h.live i hi)
  have hok2 : bor = false → ∀ β, okOf (subG g w γ ms (osOf H ms) bor) w' γs β → okOf g w' (backγ γ γs bm os') β := by
    intro hb β hβ
    have h1 : okOf g w γ β ∨ (subG g w γ ms (osOf H ms) bor).r0 β ∨ w.heap.size ≤ β := by
      rcases hβ.1 with (h | h) | h | h
      · exact .inl h
      · rw [hb] at h; simp at h
      · exact .inr (.inl h)
      · exact .inr (.inr h)
    have hnb : ∀ i u, backγ γ γs bm os' i = some u → blk u ≠ some β := by
      intro i u hi hbu
      cases hu : usedAt bm os' i with
      | some p => rw [huse i p hu] at hi; exact hβ.2.2 p u hi hbu
      | none =>
        rw [hnot i hu] at hi
        have := hel i u β hu hi hbu
        rcases h1 with h | h | h
        · exact h.2.2 i u hi hbu
        · exact this.2 h
        · omega
    refine ⟨?_, hβ.2.1, hnb⟩
    rcases h1 with h | h | h
    · exact h.1
    · obtain ⟨j, k, v', hk, hj, hv⟩ := hsr β h
      rcases (m.old j v' β hj hv).1 with h | h
      · exact .inr (.inl h)
      · exact .inr (.inr h)
    · exact .inr (.inr (Nat.le_trans m.fr.size h))
  have hids : ∀ q k, bm[q]? = some k → γs q ≠ none → backγ γ γs bm os' k = γs q := by
    intro q k hq hg
    have hs : (look os' q).isSome = true := by
      cases hl : look os' q with
      | none => exact absurd (mi.dom q hl) hg
      | some b => rfl
    have hq8 : q < 8 := by
      rcases Nat.lt_or_ge q 8 with h | h
      · exact h
      · exfalso
        cases hl : look os' q with
        | none => rw [hl] at hs; simp at hs
        | some b =>
          have := look_lt hl
          have hlen : os'.length ≤ 8 := hos8
          omega
    obtain ⟨i', e1, e2, _⟩ := hpl.at_ q hq8 hs
    rw [hq] at e1
    obtain rfl := Option.some.inj e1
    exact huse _ _ (usedAt_of e2 hq8 hs)
  have trR : ∀ p u, Rep w' (okOf (subG g w γ ms (osOf H ms) bor) w' γs) γs p u → (bor = true → p.noSl = true) → Rep w' (okOf g w' (backγ γ γs bm os')) (backγ γ γs bm os') (p.ren fun q => bm[q]?) u := by
    intro p u h hn
    cases hb : bor with
    | false => exact ren_rep (hok2 hb) hids h
    | true => exact ren_rep (fun _ h => h) hids (noSl_rep h (hn hb))
  have hused : ∀ i p, usedAt bm os' i = some p → ∃ b, look os' p = some b := fun i p hu => by
    have := (usedAt_spec hu).2.2.1
    cases hl : look os' p with
    | none => rw [hl] at this; simp at this
    | some b => exact ⟨b, rfl⟩
  refine ⟨⟨fun i hi => ?_, fun i b hi => ?_, fun i j v u β h1 h2 h3 h4 => ?_, fun i v β h1 h2 => ?_, ?_, fun n hn => ?_, fun i v hv => ?_, m.fx8⟩, ?_, tr, hfr.size, fun k hk hn => hfr.block k hk fun hr => ?_, fun i v β h1 h2 => ?_⟩
  · rw [show applyH H _ = setHs (backs bm os') (killHs (ms.filter (fun i => isRow (look H i))) H) from rfl, hlook i] at hi
    cases hu : usedAt bm os' i with
    | some p =>
      rw [hu] at hi
      obtain ⟨b, hb⟩ := hused i p hu
      simp only [hb] at hi
      have := renB_isSome (fun q => bm[q]?) (some b)
      rw [hi] at this
      simp at this
    | none =>
      rw [hu] at hi
      rw [hnot i hu]
      refine m.dom i ?_
      simp only [] at hi
      have := killBs_isSome (ms.filter (fun i => isRow (look H i))) (look H i)
      rw [hi] at this
      cases hl : look H i with
      | none => rfl
      | some b => rw [hl] at this; simp at this
  · rw [show applyH H _ = setHs (backs bm os') (killHs (ms.filter (fun i => isRow (look H i))) H) from rfl, hlook i] at hi
    cases hu : usedAt bm os' i with
    | some p =>
      rw [hu] at hi
      obtain ⟨b0, hb0⟩ := hused i p hu
      simp only [hb0] at hi
      obtain ⟨v', hv', hbk⟩ := mi.blks p b0 hb0
      refine ⟨v', by rw [huse i p hu]; exact hv', BlkOk.ren (g := subG g w γ ms (osOf H ms) bor) (g' := g) (γ := γs) hbk rfl rfl (fun q u h hn => trR q u h fun hb => hn ?_) (fun hn q u hq h => ?_) hi⟩
      · have := (hbor hb).2 p
        rw [hb0] at this
        exact this
      · cases hb : bor with
        | false => exact h.free hq (hok2 hb)
        | true =>
          have := (hbor hb).2 p
          rw [hb0, hn] at this
          simp at this
    | none =>
      rw [hu] at hi
      simp only [] at hi
      cases hl : look H i with
      | none => rw [hl, killBs_none] at hi; simp at hi
      | some b0 =>
        rw [hl] at hi
        obtain ⟨v', hv', hbk⟩ := m.blks i b0 hl
        exact ⟨v', by rw [hnot i hu]; exact hv', hbk.keep _ tr (fun β hβ => by
          have := hel i v' β hu hv' hβ
          exact hfr.block β this.1 this.2) hi⟩
  · cases hu : usedAt bm os' i with
    | some p =>
      rw [huse i p hu] at h1
      cases hu' : usedAt bm os' j with
      | some p' =>
        rw [huse j p' hu'] at h2
        have := mi.apart p p' v u β h1 h2 h3 h4
        subst this
        have e1 := (usedAt_spec hu).2.2.2
        have e2 := (usedAt_spec hu').2.2.2
        rw [e1] at e2
        exact Option.some.inj e2
      | none =>
        rw [hnot j hu'] at h2
        have := hel j u β hu' h2 h4
        rcases (mi.old p v β h1 h3).1 with h | h
        · exact absurd h this.2
        · have : w.heap.size ≤ β := h
          omega
    | none =>
      rw [hnot i hu] at h1
      cases hu' : usedAt bm os' j with
      | some p' =>
        rw [huse j p' hu'] at h2
        have := hel i v β hu h1 h3
        rcases (mi.old p' u β h2 h4).1 with h | h
        · exact absurd h this.2
        · have : w.heap.size ≤ β := h
          omega
      | none =>
        rw [hnot j hu'] at h2
        exact m.apart i j v u β h1 h2 h3 h4
  · cases hu : usedAt bm os' i with
    | some p =>
      rw [huse i p hu] at h1
      obtain ⟨h3, h4⟩ := mi.old p v β h1 h2
      refine ⟨?_, h4⟩
      rcases h3 with h3 | h3
      · obtain ⟨j, k, v', hk, hj, hv⟩ := hsr β h3
        exact (m.old j v' β hj hv).1
      · exact .inr (Nat.le_trans m.fr.size h3)
    | none =>
      rw [hnot i hu] at h1
      have := m.old i v β h1 h2
      exact ⟨this.1, Nat.lt_of_lt_of_le this.2 hfr.size⟩
  · refine ⟨hfr.os.trans m.fr.os, hfr.tape.trans m.fr.tape, hfr.output.trans m.fr.output, Nat.le_trans m.fr.size hfr.size, fun k hk hnr => ?_⟩
    rw [hfr.block k (Nat.lt_of_lt_of_le hk m.fr.size) fun hr => ?_]
    · exact m.fr.block k hk hnr
    · obtain ⟨j, k', v', _, hj, hv⟩ := hsr k hr
      rcases (m.old j v' k hj hv).1 with h | h
      · exact hnr h
      · omega
  · exact (m.glob n hn).mono (fun β hβ => (hok1 β hβ).1) (fun β hβ => (hok1 β hβ).2) fun _ _ => rfl
  · rw [show applyH H _ = setHs (backs bm os') (killHs (ms.filter (fun i => isRow (look H i))) H) from rfl, hlook i]
    cases hu : usedAt bm os' i with
    | some p =>
      simp only []
      rw [huse i p hu]
      right
      rcases hnew i p hu with ⟨_, _, hq⟩ | ⟨h8, _⟩
      · have hq8 : p < 8 := (usedAt_spec hu).2.1
        have hs := (hid.at_ p i hq).2
        rcases m.fx i v hv with h | ⟨h1, h2⟩
        · rw [h] at hs; simp at hs
        · have hlo : look (osOf H ms) p = renB (pos ms) (look H i) := by rw [look_osOf hid, hq]; rfl
          have hfx : (subG g w γ ms (osOf H ms) bor).fx p = some v := by
            show fixOf (osOf H ms) (subγ γ ms) p = some v
            rw [fixOf_some hq8 (by rw [hlo, renB_row]; exact h1) (by rw [hlo, renB_isSome]; exact hs)]
            unfold subγ
            rw [hq]
            exact h2
          rcases mi.fx p v hfx with h' | h'
          · obtain ⟨b, hb⟩ := hused i p hu
            rw [hb] at h'
            simp at h'
          · rw [renB_row]
            exact h'
      · rw [m.fx8 i h8] at hv; simp at hv
    | none =>
      simp only []
      rw [hnot i hu, killBs_row]
      rcases m.fx i v hv with h | h
      · left; rw [h, killBs_none]
      · exact .inr h
  · exact trR r v hr fun hb => (hbor hb).1
  · obtain ⟨j, k', v', _, hj, hv⟩ := hsr k hr
    exact hn j v' hj hv
  · cases hu : usedAt bm os' i with
    | some p =>
      rw [huse i p hu] at h1
      rcases (mi.old p v β h1 h2).1 with h | h
      · obtain ⟨j, k', v', _, hj, hv⟩ := hsr β h
        exact .inl ⟨j, v', hj, hv⟩
      · exact .inr h
    | none =>
      rw [hnot i hu] at h1
      exact .inl ⟨i, v, h1, h2⟩
end
end Go.Proofs.Ytklgaodfakdjpaa.Ev
/- Calls that are handed objects: the ways of handing on. -/
namespace Go.Proofs.Ytklgaodfakdjpaa.Ev
open Go Go.RowKit

section
variable {g : GI} {C : Cx} {H : Heap} {w : World} {γ : Nat → Option Value} {o : Oper} {a : Act} {ok : Nat → Prop} {ms : List Nat}

/-- All that a callee with objects must be told, and what its answer is worth. -/
def Prep (g : GI) (H : Heap) (w : World) (γ : Nat → Option Value) (F : ObjF) (vs : List Value) (e : Eff) : Prop :=
  ∃ (ps : List PV) (os : Heap) (r : PV) (os' : Heap) (gs : GI) (γs : Nat → Option Value), F ps os = some (true, r, os') ∧ gs.P = g.P ∧ gs.gl = g.gl ∧ gs.w0 = w ∧ gs.fx = fixOf os γs ∧ MInv gs os w γs ∧ RepL w (okOf gs w γs) γs ps vs ∧
    ∀ v w' γs', MInv gs os' w' γs' → Rep w' (okOf gs w' γs') γs' r v → ∃ γ', Post g H w γ e v w' γ'

theorem callM_prep (m : MInv g H w γ) {dst : Option Nat} {F : ObjF} {kl : List Nat} {hu : List (Nat × Option Blk)} {bor : Bool} {ps : List PV} {e : Eff} {vs : List Value} (h : callM H dst F ms kl hu bor ps = some (true, e))
    (hr : IdsOk H ms → RepL w (okOf (subG g w γ ms (osOf H ms) bor) w (subγ γ ms)) (subγ γ ms) ps vs) : IdsOk H ms ∧
    ∃ (r : PV) (os' : Heap) (e0 : Eff), F ps (osOf H ms) = some (true, r, os') ∧ e = { p := e0.p, hu := hu ++ e0.hu, kl := kl ++ e0.kl, fp := e0.fp } ∧
      ∀ v w' γs', MInv (subG g w γ ms (osOf H ms) bor) os' w' γs' → Rep w' (okOf (subG g w γ ms (osOf H ms) bor) w' γs') γs' r v → ∃ γ', Post g H w γ e0 v w' γ' := by
  unfold callM at h
  split at h
  · rename_i cd r os' hF
    split at h
    · rename_i hc
      simp only [Option.some.injEq, Prod.mk.injEq] at h
      obtain ⟨rfl, rfl⟩ := h
      simp only [Bool.and_eq_true] at hc
      obtain ⟨⟨⟨h8, hid⟩, hpl⟩, hb⟩ := hc
      have hid := IdsOk.of hid
      refine ⟨hid, r, os', { p := r.ren fun q => (places H dst ms)[q]?, hu := backs (places H dst ms) os', kl := ms.filter (fun i => isRow (look H i)), fp := List.range H.length }, hF, rfl, fun v w' γs' mi hrep => ⟨backγ γ γs' (places H dst ms) os', ?_⟩⟩
      refine back_post (fp := List.range H.length) m hid (extra := lid dst :: (frees H).filter fun i => !(Nat.beq i (lid dst))) (Nat.le_of_ble_eq_true h8) (PlOk.of hpl) (fun hb' => ?_) mi hrep
      rw [hb'] at hb
      simp only [Bool.not_true, Bool.false_or, Bool.and_eq_true] at hb
      refine ⟨hb.1, fun p => ?_⟩
      unfold look
      cases hp : os'[p]? with
      | none => simp [List.getD, hp]; rfl
      | some b => simp only [List.getD, hp, Option.getD_some]; exact List.all_eq_true.1 hb.2 b (List.mem_of_getElem? hp)
    · simp at h
  · simp at h

/-! ### A slice of one's own that is handed on for good -/
theorem drop_look : ∀ (is : List Nat) (H : Heap) (j : Nat), look (dropH is H) j = if j ∈ is then none else killBs is (look H j)
  | [], H, j => by simp [dropH, killBs]
  | i :: is, H, j => by
    show look (dropH is ((H.map (killB i)).set i none)) j = _
    rw [drop_look is, look_set', look_map]
    by_cases hj : j ∈ is
    · simp [hj]
    · by_cases hji : j = i
      · subst hji
        simp only [hj, if_false, List.mem_cons, true_or, if_true, List.length_map]
        by_cases hl : j < H.length
        · simp [hl, killBs_none]
        · have : look H j = none := by
            unfold look
            simp [List.getD, List.getElem?_eq_none (Nat.le_of_not_lt hl)]
          simp [hl, this, killB, killBs_none]
      · simp only [hj, hji, if_false, List.mem_cons, or_self, false_and]
        rfl
theorem dropH_len : ∀ (is : List Nat) (H : Heap), (dropH is H).length = H.length
  | [], H => rfl
  | i :: is, H => by
    show (dropH is ((H.map (killB i)).set i none)).length = _
    rw [dropH_len is]; simp
open Classical in
noncomputable def dropγ (is : List Nat) (γ : Nat → Option Value) (i : Nat) : Option Value := if i ∈ is then none else γ i
theorem drop_ok {is : List Nat} {β : Nat} (h : okOf g w γ β) : okOf g w (dropγ is γ) β := ⟨h.1, h.2.1, fun i v hv => by
  unfold dropγ at hv
  split at hv
  · simp at hv
  · exact h.2.2 i v hv⟩
theorem drop_tr {is : List Nat} {p : PV} {u : Value} (h : Rep w (okOf g w γ) γ p u) (hk : ∀ i, i ∈ is → i ∉ p.ids) : Rep w (okOf g w (dropγ is γ)) (dropγ is γ) p u :=
  h.mono (fun _ _ => rfl) (fun β hβ => drop_ok hβ) fun i hi => by
    unfold dropγ
    rw [if_neg fun h => hk i h hi]
theorem drop_inv (m : MInv g H w γ) (is : List Nat) : MInv g (dropH is H) w (dropγ is γ) := by
  refine ⟨fun i hi => ?_, fun i b hi => ?_, fun i j v u β h1 h2 => ?_, fun i v β h1 => ?_, m.fr, fun n hn => (m.glob n hn).mono (fun _ _ => rfl) (fun β hβ => drop_ok hβ) fun _ _ => rfl, fun i v hv => ?_, m.fx8⟩
  · unfold dropγ
    rw [drop_look] at hi
    split
    · rfl
    · rename_i hn
      rw [if_neg hn] at hi
      refine m.dom i ?_
      cases hl : look H i with
      | none => rfl
      | some b =>
        have := killBs_isSome is (look H i)
        rw [hi, hl] at this
        simp at this
  · rw [drop_look] at hi
    split at hi
    · simp at hi
    · rename_i hn
      cases hl : look H i with
      | none => rw [hl, killBs_none] at hi; simp at hi
      | some b0 =>
        obtain ⟨v, hv, hb⟩ := m.blks i b0 hl
        rw [hl] at hi
        refine ⟨v, by unfold dropγ; rw [if_neg hn]; exact hv, hb.keep is (fun p u h hk => drop_tr h hk) (fun _ _ => rfl) hi⟩
  · unfold dropγ at h1 h2
    split at h1
    · simp at h1
    · split at h2
      · simp at h2
      · exact m.apart i j v u β h1 h2
  · unfold dropγ at h1
    split at h1
    · simp at h1
    · exact m.old i v β h1
  · rw [drop_look]
    by_cases hi : i ∈ is
    · left; simp [hi]
    · rw [if_neg hi, killBs_row]
      rcases m.fx i v hv with h | ⟨h1, h2⟩
      · left; rw [h, killBs_none]
      · exact .inr ⟨h1, by unfold dropγ; rw [if_neg hi]; exact h2⟩
theorem mem_newIds : ∀ {l acc : List Nat} {i : Nat}, i ∈ l → i ∈ acc ∨ i ∈ newIds acc l
  | [], acc, i, h => by simp at h
  | j :: l, acc, i, h => by
    unfold newIds
    split
    · rename_i hh
      rcases List.mem_cons.1 h with rfl | h
      · exact .inl ((has_iff _ _).1 hh)
      · exact mem_newIds h
    · rcases List.mem_cons.1 h with rfl | h
      · exact .inr (by simp)
      · rcases mem_newIds (acc := j :: acc) h with h | h
        · rcases List.mem_cons.1 h with rfl | h
          · exact .inr (by simp)
          · exact .inl h
        · exact .inr (by simp [h])
theorem mem_ownsIn : ∀ {ps : List PV} {i : Nat}, PV.own i ∈ ps → i ∈ ownsIn ps
  | [], i, h => by simp at h
  | p :: ps, i, h => by
    rcases List.mem_cons.1 h with rfl | h
    · exact List.mem_cons_self
    · have ih := mem_ownsIn h
      cases p with
      | own j => exact List.mem_cons_of_mem _ ih
      | _ => exact ih
/-- A slice of one's own, or one that lies in an argument's cells. -/
def OwnAt (p : PV) (i : Nat) : Prop := p = .own i ∨ ∃ xs, p = .agg xs ∧ PV.own i ∈ xs
theorem mem_ownsOf : ∀ {ps : List PV} {p : PV} {i : Nat}, p ∈ ps → OwnAt p i → i ∈ ownsOf ps
  | [], _, i, h, _ => by simp at h
  | p :: ps, q, i, h, ho => by
    rcases List.mem_cons.1 h with rfl | h
    · rcases ho with rfl | ⟨xs, rfl, hx⟩
      · unfold ownsOf
        have := mem_newIds (l := i :: ownsOf ps) (acc := []) (i := i) (by simp)
        simpa using this
      · unfold ownsOf
        have := mem_newIds (l := ownsIn xs ++ ownsOf ps) (acc := []) (i := i) (by simp [mem_ownsIn hx])
        simpa using this
    · have ih := mem_ownsOf h ho
      cases p with
      | own j =>
        unfold ownsOf
        have := mem_newIds (l := j :: ownsOf ps) (acc := []) (i := i) (by simp [ih])
        simpa using this
      | agg xs =>
        unfold ownsOf
        have := mem_newIds (l := ownsIn xs ++ ownsOf ps) (acc := []) (i := i) (by simp [ih])
        simpa using this
      | _ => exact ih
theorem freeze1_rep (m : MInv g H w γ) {is : List Nat} {p : PV} {v : Value} (h : Rep w (okOf g w γ) γ p v) (hp : ∀ i, p = .own i → i ∈ is) (hk : ∀ i, i ∈ is → i ∉ (freeze1 H p).ids) : Rep w (okOf g w (dropγ is γ)) (dropγ is γ) (freeze1 H p) v := by
  by_cases ho : ∃ i, p = .own i
  · obtain ⟨i, rfl⟩ := ho
    have hi := hp i rfl
    cases hl : look H i with
    | none =>
      have : freeze1 H (.own i) = .junk := by simp only [freeze1, hl]
      rw [this]; exact .junk v
    | some b =>
      cases b with
      | row T e xs =>
        have : freeze1 H (.own i) = .sl T xs := by simp only [freeze1, hl]
        rw [this]
        obtain ⟨u, hu, ys, h2, h3, h4, h5⟩ := m.blks i _ hl
        cases h with
        | own i _ h =>
          rw [hu] at h
          obtain rfl := Option.some.inj h
          refine (row_sl h2 h4 h5 (ok' := okOf g w (dropγ is γ)) (fun β hβ => drop_ok hβ) fun β hβ => ?_).free rfl fun _ h => h
          have ho := m.old i u β hu hβ
          refine ⟨.inr ho.1, ho.2, fun j v' hj hv' => ?_⟩
          unfold dropγ at hj
          split at hj
          · simp at hj
          · rename_i hn
            have := m.apart i j u v' β hu hj hβ hv'
            subst this
            exact hn hi
      | _ =>
        have : freeze1 H (.own i) = .junk := by simp only [freeze1, hl]
        rw [this]; exact .junk v
  · have : freeze1 H p = p.soft := by cases p <;> first | rfl | exact absurd ⟨_, rfl⟩ ho
    rw [this] at hk ⊢
    exact drop_tr (soft_rep h) hk
theorem freeze_rep (m : MInv g H w γ) {is : List Nat} {p : PV} {v : Value} (h : Rep w (okOf g w γ) γ p v) (hp : ∀ i, OwnAt p i → i ∈ is) : Rep w (okOf g w (dropγ is γ)) (dropγ is γ) (killPs is (freeze H p)) v := by
  by_cases ho : ∃ i, p = .own i
  · obtain ⟨i, rfl⟩ := ho
    refine killPs_rep is fun hk => ?_
    exact freeze1_rep m h (fun j hj => hp j (.inl hj)) hk
  · by_cases ha : ∃ xs, p = .agg xs
    · obtain ⟨xs, rfl⟩ := ha
      cases h1 : (xs.map (freeze1 H)).all PV.one with
      | false =>
        have : freeze H (.agg xs) = .junk := by simp only [freeze, h1]
        rw [this, killPs_junk]; exact .junk v
      | true =>
        have : freeze H (.agg xs) = .agg (xs.map (freeze1 H)) := by simp only [freeze, h1]
        rw [this]
        refine killPs_rep is fun hk => ?_
        obtain ⟨vs, rfl, hr, _⟩ := h.agg_inv
        refine Rep.agg' h1 ⟨by simp [hr.1], fun j q hq => ?_⟩
        have hq' := hq
        rw [List.getElem?_map, Option.map_eq_some_iff] at hq
        obtain ⟨p, hpj, rfl⟩ := hq
        refine freeze1_rep m (hr.2 j p hpj) (fun i hi => hp i (.inr ⟨xs, rfl, hi ▸ List.mem_of_getElem? hpj⟩)) fun i hi hm => hk i hi ?_
        exact mem_idsL hq' hm
    · have : freeze H p = p := by cases p <;> first | rfl | exact absurd ⟨_, rfl⟩ ho | exact absurd ⟨_, rfl⟩ ha
      rw [this]
      exact killPs_rep is fun hk => drop_tr h hk
theorem setHs_congr : ∀ (us : List (Nat × Option Blk)) {X Y : Heap}, X.length = Y.length → (∀ i, look X i = look Y i) → ∀ i, look (setHs us X) i = look (setHs us Y) i
  | [], X, Y, hl, h, i => h i
  | u :: us, X, Y, hl, h, i => by
    show look (setHs us (X.set u.1 u.2)) i = look (setHs us (Y.set u.1 u.2)) i
    refine setHs_congr us (by simp [hl]) (fun j => ?_) i
    rw [look_set', look_set', hl, h]
theorem killHs_append (is js : List Nat) (H : Heap) : killHs (is ++ js) H = killHs js (killHs is H) := by simp [killHs]
theorem setHs_append (us vs : List (Nat × Option Blk)) (H : Heap) : setHs (us ++ vs) H = setHs vs (setHs us H) := by simp [setHs]
theorem drops_look (is : List Nat) (X : Heap) (i : Nat) : look (setHs (is.map fun i => (i, none)) X) i = if i ∈ is then none else look X i := by
  by_cases hi : i ∈ is
  · rw [if_pos hi]
    rcases Nat.lt_or_ge i X.length with hl | hl
    · exact setHs_in (List.mem_map.2 ⟨i, hi, rfl⟩) (fun x hx hxi => by
        obtain ⟨j, _, rfl⟩ := List.mem_map.1 hx
        rfl) hl
    · unfold look
      rw [List.getD, List.getElem?_eq_none (by rw [setHs_len]; exact hl)]
      rfl
  · rw [if_neg hi]
    exact setHs_not fun x hx hxi => by
      obtain ⟨j, hj, rfl⟩ := List.mem_map.1 hx
      exact hi (hxi ▸ hj)
theorem Post.freeze {is : List Nat} {e : Eff} {v : Value} {w' : World} {γ' : Nat → Option Value} (h : Post g (dropH is H) w (dropγ is γ) e v w' γ') :
    Post g H w γ { p := e.p, hu := (is.map fun i => (i, none)) ++ e.hu, kl := is ++ e.kl, fp := e.fp } v w' γ' := by
  refine ⟨h.1.congr fun i => ?_, h.2.1, fun p u hr hk => h.2.2.1 p u (drop_tr hr fun i hi => hk i (by simp [hi])) fun i hi => hk i (by simp [hi]), h.2.2.2.1, fun k hk hn => h.2.2.2.2.1 k hk fun i v hv => ?_, fun i v β h1 h2 => ?_⟩
  rotate_left
  · unfold dropγ at hv
    split at hv
    · simp at hv
    · exact hn i v hv
  · rcases h.2.2.2.2.2 i v β h1 h2 with ⟨j, u, hj, hu⟩ | h'
    · unfold dropγ at hj
      split at hj
      · simp at hj
      · exact .inl ⟨j, u, hj, hu⟩
    · exact .inr h'
  show look (setHs ((is.map fun i => (i, none)) ++ e.hu) (killHs (is ++ e.kl) H)) i = look (setHs e.hu (killHs e.kl (dropH is H))) i
  rw [setHs_append, killHs_append]
  refine setHs_congr e.hu (by rw [setHs_len, killHs_len, killHs_len, killHs_len, dropH_len]) (fun j => ?_) i
  rw [drops_look, killHs_look, killHs_look, killHs_look, drop_look]
  split
  · rw [killBs_none]
  · rfl

/-! ### Some are handed on, others only read -/
theorem mask_look : ∀ (is : List Nat) (H : Heap) (j : Nat), look (mask is H) j = if j ∈ is then none else look H j
  | [], H, j => by simp [mask]
  | i :: is, H, j => by
    show look (mask is (H.set i none)) j = _
    rw [mask_look is, look_set']
    by_cases hj : j ∈ is
    · simp [hj]
    · by_cases hji : j = i
      · subst hji
        by_cases hl : j < H.length
        · simp [hj, hl]
        · have : look H j = none := by
            unfold look
            simp [List.getD, List.getElem?_eq_none (Nat.le_of_not_lt hl)]
          simp [hj, hl, this]
      · simp [hj, hji]
theorem bor_rep (m : MInv g H w γ) (hid : IdsOk H ms) (os : Heap) {p : PV} {v : Value} (h : Rep w (okOf g w γ) γ p v) : Rep w (okOf (subG g w γ ms os true) w (subγ γ ms)) (subγ γ ms) (borrow 8 (mask ms H) p) v := by
  have := borrow_rep' (H' := mask ms H) (ok' := okOf (subG g w γ ms os true) w (subγ γ ms)) m (fun i b hi => by
    rw [mask_look] at hi
    split at hi
    · simp at hi
    · exact hi) (fun β hβ => sub_ok hid os true hβ) (fun i b u β hi hu hβ => by
    rw [mask_look] at hi
    split at hi
    · simp at hi
    · rename_i hn
      have hlt := (m.old i u β hu hβ).2
      have hno : ∀ k v', subγ γ ms k = some v' → blk v' ≠ some β := by
        intro k v' hk hv'
        unfold subγ at hk
        rw [Option.bind_eq_some_iff] at hk
        obtain ⟨j, hj, hk⟩ := hk
        have := m.apart i j u v' β hu hk hβ hv'
        subst this
        exact hn (List.mem_of_getElem? hj)
      exact ⟨.inl (.inr ⟨rfl, hlt, hno⟩), hlt, hno⟩) 8 p v h
  exact this.free this.ids0 fun _ h => h
theorem roots_rep (hid : IdsOk H ms) (os : Heap) (bor : Bool) {p : PV} {v : Value} (h : Rep w (okOf g w γ) γ p v) : Rep w (okOf (subG g w γ ms os bor) w (subγ γ ms)) (subγ γ ms) (p.ren (pos ms)) v :=
  ren_rep (fun β hβ => sub_ok hid os bor hβ) (fun i k hp _ => sub_ids hid hp) h
theorem map_repL {w : World} {ok ok' : Nat → Prop} {γ γ' : Nat → Option Value} {f : PV → PV} {ps : List PV} {vs : List Value} (h : RepL w ok γ ps vs) (hf : ∀ p v, p ∈ ps → Rep w ok γ p v → Rep w ok' γ' (f p) v) : RepL w ok' γ' (ps.map f) vs :=
  ⟨by simp [h.1], fun j q hq => by
    rw [List.getElem?_map, Option.map_eq_some_iff] at hq
    obtain ⟨p, hp, rfl⟩ := hq
    exact hf p _ (List.mem_of_getElem? hp) (h.2 j p hp)⟩

theorem callO_prep (m : MInv g H w γ) {dst : Option Nat} {mode : Nat} {F : ObjF} {ps : List PV} {e : Eff} {vs : List Value} (h : callO H dst mode F ps = some (true, e)) (hr : RepL w (okOf g w γ) γ ps vs) : Prep g H w γ F vs e := by
  unfold callO at h
  split at h
  · have m1 := drop_inv m (ownsOf ps)
    generalize hms : reach 6 (dropH (ownsOf ps) H) [] ((ps.map (freeze H)).map (fun p => (ownsOf ps).foldl (fun p i => killP i p) p)) = ms at h
    obtain ⟨hid, r, os', e0, hF, rfl, hpost⟩ := callM_prep (vs := vs) m1 h fun hid => by
      refine map_repL (ok := okOf g w (dropγ (ownsOf ps) γ)) (γ := dropγ (ownsOf ps) γ) (f := PV.ren (pos ms)) ?_ (fun p v _ h => roots_rep hid _ false h)
      rw [List.map_map]
      exact map_repL hr fun p v hp h => freeze_rep m h fun i hi => mem_ownsOf hp hi
    refine ⟨_, _, r, os', subG g w (dropγ (ownsOf ps) γ) ms (osOf (dropH (ownsOf ps) H) ms) false, subγ (dropγ (ownsOf ps) γ) ms, hF, rfl, rfl, rfl, rfl, sub_inv m1 hid false, ?_, fun v w' γs' h1 h2 => ?_⟩
    · refine map_repL (ok := okOf g w (dropγ (ownsOf ps) γ)) (γ := dropγ (ownsOf ps) γ) (f := PV.ren (pos ms)) ?_ (fun p v _ h => roots_rep hid _ false h)
      rw [List.map_map]
      exact map_repL hr fun p v hp h => freeze_rep m h fun i hi => mem_ownsOf hp hi
    · obtain ⟨γ', hp⟩ := hpost v w' γs' h1 h2
      exact ⟨γ', hp.freeze⟩
  · generalize hms : reach 6 H [] (ps.filter isRoot) = ms at h
    have key : ∀ (hid : IdsOk H ms) (p : PV) (v : Value), p ∈ ps → Rep w (okOf g w γ) γ p v →
        Rep w (okOf (subG g w γ ms (osOf H ms) (ps.any fun p => !(p.ids.all (has ms)))) w (subγ γ ms)) (subγ γ ms) (match p.ids.all (has ms) with | true => p.ren (pos ms) | false => borrow 8 (mask ms H) p) v := by
      intro hid p v hp h
      cases hb : p.ids.all (has ms) with
      | true => exact roots_rep hid _ _ h
      | false =>
        have : (ps.any fun p => !(p.ids.all (has ms))) = true := List.any_eq_true.2 ⟨p, hp, by simp [hb]⟩
        rw [this]
        exact bor_rep m hid _ h
    obtain ⟨hid, r, os', e0, hF, rfl, hpost⟩ := callM_prep (vs := vs) m h fun hid => map_repL hr (key hid)
    refine ⟨_, _, r, os', subG g w γ ms (osOf H ms) _, subγ γ ms, hF, rfl, rfl, rfl, rfl, sub_inv m hid _, map_repL hr (key hid), fun v w' γs' h1 h2 => ?_⟩
    obtain ⟨γ', hp⟩ := hpost v w' γs' h1 h2
    exact ⟨γ', hp⟩
  · have key : ∀ (hid : IdsOk H []) (p : PV) (v : Value), p ∈ ps → Rep w (okOf g w γ) γ p v →
        Rep w (okOf (subG g w γ [] (osOf H []) (ps.any fun p => !(p.ids.isEmpty))) w (subγ γ [])) (subγ γ []) (borrow 8 H p) v := by
      intro hid p v hp h
      cases hb : p.ids with
      | nil =>
        have : borrow 8 H p = p := by unfold borrow; rw [hb]
        rw [this]
        exact h.free hb fun β hβ => sub_ok hid _ _ hβ
      | cons i l =>
        have : (ps.any fun p => !(p.ids.isEmpty)) = true := List.any_eq_true.2 ⟨p, hp, by simp [hb]⟩
        rw [this]
        exact bor_rep m hid _ h
    obtain ⟨hid, r, os', e0, hF, rfl, hpost⟩ := callM_prep (vs := vs) m h fun hid => map_repL hr (key hid)
    refine ⟨_, _, r, os', subG g w γ [] (osOf H []) _, subγ γ [], hF, rfl, rfl, rfl, rfl, sub_inv m hid _, map_repL hr (key hid), fun v w' γs' h1 h2 => ?_⟩
    obtain ⟨γ', hp⟩ := hpost v w' γs' h1 h2
    exact ⟨γ', hp⟩
end
end Go.Proofs.Ytklgaodfakdjpaa.Ev
/- What the operations do: all of them. -/
namespace Go.Proofs.Ytklgaodfakdjpaa.Ev
open Go Go.RowKit

section
variable {g : GI} {C : Cx} {H : Heap} {w : World} {γ : Nat → Option Value} {o : Oper} {a : Act} {ok : Nat → Prop}

theorem stale_some {i : Nat} (h : stale H i = []) : (look H i).isSome = true → False := by
  intro h'
  unfold stale at h
  cases hl : look H i with
  | none => rw [hl] at h'; simp at h'
  | some b => rw [hl] at h; simp at h

theorem Rep.i_inv {k : IntKind} {x : Int} {v : Value} (h : Rep w ok γ (.i k x) v) : v = .int k x := by cases h; rfl
theorem Rep.s_inv {x : ByteArray} {v : Value} (h : Rep w ok γ (.s x) v) : v = .string x := by cases h; rfl
theorem Rep.b_inv {x : Bool} {v : Value} (h : Rep w ok γ (.b x) v) : v = .bool x := by cases h; rfl
theorem Rep.nsl_inv {e : TypeId} {T : ETy} {v : Value} (h : Rep w ok γ (.nsl e T) v) : v = .slice none 0 0 := by cases h; rfl
theorem slz_cells {T : ETy} {xs : List T.den} {v : Value} (h : Rep w ok γ (.slz T xs) v) : SlC w ok γ T xs v := by
  cases h with
  | slz T xs ad c h => exact sl_cells h
theorem Rep.nils_inv {v : Value} (h : Rep w ok γ .nils v) : v = .slice none 0 0 := by cases h; rfl

theorem len_run {P : Program} {t : TypeId} {e : TypeId} (hu : P.underlying t = some (.slice e)) (A : Option Addr) (n k : Nat) (ts : Array TypeId) (ty : TypeId) (hts : ts[0]? = some t) : (Go.Builtin.len_ ts ty #[.slice A n k]).run P w = .ok (.int .i64 n) w := by
  unfold Go.Builtin.len_
  simp [hts, run_underlying hu, goInt]
theorem len_run_str {P : Program} {t : TypeId} (hu : P.underlying t = some .string) (s : ByteArray) (ts : Array TypeId) (ty : TypeId) (hts : ts[0]? = some t) : (Go.Builtin.len_ ts ty #[.string s]).run P w = .ok (.int .i64 s.size) w := by
  unfold Go.Builtin.len_
  simp [hts, run_underlying hu, goInt]
theorem sl_slice {T : ETy} {xs : List T.den} {v : Value} (h : Rep w ok γ (.sl T xs) v) : ∃ A c, v = .slice A xs.length c := by
  cases h with
  | sl T xs A c f hc hn hA h1 hf => exact ⟨A, c, rfl⟩
theorem own_slice (m : MInv g H w γ) {i : Nat} {T : ETy} {e : TypeId} {xs : List T.den} (hl : look H i = some (.row T e xs)) {v : Value} (h : Rep w ok γ (.own i) v) : ∃ A c, v = .slice A xs.length c := by
  obtain ⟨u, hu, ys, h2, _⟩ := m.blks i _ hl
  cases h with
  | own i _ h =>
    rw [hu] at h
    obtain rfl := Option.some.inj h
    rcases h2.2 with ⟨rfl, hn⟩ | ⟨gb, cap, cur, rfl, _⟩
    · exact ⟨none, 0, by rw [hn]⟩
    · exact ⟨_, _, rfl⟩

theorem OpOk.builtin {b : Go.Builtin} {as : Array Operand} {ts : Array TypeId} (ho : o.op = .call { callee := .builtin b, args := as, argTypes := ts }) {e : Eff} {v : Value} {w' : World} {γ' : Nat → Option Value}
    (hr : (builtin b ts o.type (as.map fun | .const _ => true | _ => false) (as.map a.eval)).run g.P w = .ok (.value v) w') (h : Post g H w γ e v w' γ') : OpOk g o a H w γ e := by
  refine OpOk.value ?_ h
  simp only [execOp, ho, resolve, Sem.run_bind, Sem.run_pure, Result.andThen_ok]
  exact hr

theorem map1 {as : Array Operand} {r : Operand → PV} {p : PV} (h : as.toList.map r = [p]) : ∃ x, as = #[x] ∧ r x = p := by
  obtain ⟨l⟩ := as
  match l, h with
  | [x], h => exact ⟨x, rfl, by simpa using h⟩
theorem map2 {as : Array Operand} {r : Operand → PV} {p q : PV} (h : as.toList.map r = [p, q]) : ∃ x y, as = #[x, y] ∧ r x = p ∧ r y = q := by
  obtain ⟨l⟩ := as
  match l, h with
  | [x, y], h => exact ⟨x, y, rfl, by simp at h; exact h.1, by simp at h; exact h.2⟩

theorem callB_ok (c : CxOk g.P C) (m : MInv g H w γ) {b : Go.Builtin} {as : Array Operand} {ts : Array TypeId} (ho : o.op = .call { callee := .builtin b, args := as, argTypes := ts }) {r : Operand → PV} (hr : ∀ x, Rep w (okOf g w γ) γ (r x) (a.eval x)) {e : Eff}
    (h : callB C H o.dst b ts.toList (as.toList.map r) = some e) : OpOk g o a H w γ e := by
  unfold callB at h
  split at h
  · rename_i p hps
    obtain ⟨x, rfl, rfl⟩ := map1 hps
    split at h
    · rename_i t hts
      have hts' : ts[0]? = some t := by rw [← Array.getElem?_toList, hts]; rfl
      split at h
      · rename_i sz zp el ht
        have hu := und_slice (c.tab t _ ht) rfl
        have fin : ∀ {n : Nat} {fp : List Nat}, (∃ A k, a.eval x = .slice A n k) → OpOk g o a H w γ { p := .i .i64 n, fp } := by
          rintro n fp ⟨A, k, hv⟩
          refine OpOk.builtin ho (v := .int .i64 n) ?_ (Post.same m (.i .i64 _))
          simp only [Go.builtin, List.map_toArray, List.map_cons, List.map_nil, hv]
          rw [Sem.run_bind, len_run hu A n k ts o.type hts']
          rfl
        split at h
        · rename_i T xs hx
          obtain rfl := Option.some.inj h
          have := hr x
          rw [hx] at this
          exact fin (sl_slice this)
        · rename_i T xs hx
          obtain rfl := Option.some.inj h
          have := hr x
          rw [hx] at this
          exact fin (by cases hv : a.eval x with
            | slice A n cp => rw [hv] at this; cases this; exact ⟨_, _, rfl⟩
            | _ => rw [hv] at this; cases this)
        · rename_i hx
          obtain rfl := Option.some.inj h
          have := hr x
          rw [hx] at this
          exact fin (n := 0) ⟨_, _, this.nils_inv⟩
        · rename_i e' T' hx
          obtain rfl := Option.some.inj h
          have := hr x
          rw [hx] at this
          exact fin (n := 0) ⟨_, _, this.nsl_inv⟩
        · rename_i i hx
          split at h
          · rename_i T e' xs hl
            obtain rfl := Option.some.inj h
            have := hr x
            rw [hx] at this
            exact fin (own_slice m hl this)
          · simp at h
        · simp at h
      · rename_i sz zp ht
        have hu := und_str (c.tab t _ ht) rfl
        split at h
        · rename_i s hx
          obtain rfl := Option.some.inj h
          have := hr x
          rw [hx] at this
          refine OpOk.builtin ho (v := .int .i64 s.size) ?_ (Post.same m (.i .i64 _))
          simp only [Go.builtin, List.map_toArray, List.map_cons, List.map_nil, this.s_inv]
          rw [Sem.run_bind, len_run_str hu s ts o.type hts']
          rfl
        · simp at h
      · simp at h
    · simp at h
  · rename_i k x k' y hps
    obtain ⟨u, v, rfl, hx, hy⟩ := map2 hps
    obtain rfl := Option.some.inj h
    have h1 := hr u
    have h2 := hr v
    rw [hx] at h1
    rw [hy] at h2
    refine OpOk.builtin ho (v := .int k (imax x y)) ?_ (Post.same m (.i _ _))
    simp only [Go.builtin, List.map_toArray, List.map_cons, List.map_nil, h1.i_inv, h2.i_inv]
    rfl
  · rename_i k x k' y hps
    obtain ⟨u, v, rfl, hx, hy⟩ := map2 hps
    obtain rfl := Option.some.inj h
    have h1 := hr u
    have h2 := hr v
    rw [hx] at h1
    rw [hy] at h2
    refine OpOk.builtin ho (v := .int k (imin x y)) ?_ (Post.same m (.i _ _))
    simp only [Go.builtin, List.map_toArray, List.map_cons, List.map_nil, h1.i_inv, h2.i_inv]
    rfl
  · rename_i i src hps
    obtain ⟨u, v, rfl, hx, hy⟩ := map2 hps
    have h1 := hr u
    have h2 := hr v
    rw [hx] at h1
    rw [hy] at h2
    split at h
    · rename_i T e' xs t t' hl hts
      have hts' : ts = #[t, t'] := by apply Array.ext'; simpa using hts
      subst hts'
      split at h
      · rename_i sz zp el htt ht
        have htt := Nat.eq_of_beq_eq_true htt
        subst htt
        split at h
        · rename_i T' ys hee
          have hee := Nat.eq_of_beq_eq_true hee
          subst hee
          split at h
          · rename_i hT
            subst hT
            split at h
            · rename_i hb
              obtain rfl := Option.some.inj h
              exact OpOk.append c m ho ht rfl h1 hl (sl_cells h2) (by simpa using hb)
            · simp at h
          · simp at h
        · rename_i T' ys hee
          have hee := Nat.eq_of_beq_eq_true hee
          subst hee
          split at h
          · rename_i hT
            subst hT
            split at h
            · rename_i hb
              obtain rfl := Option.some.inj h
              exact OpOk.append c m ho ht rfl h1 hl (slz_cells h2) (by simpa using hb)
            · simp at h
          · simp at h
        · rename_i j hee
          have hee := Nat.eq_of_beq_eq_true hee
          subst hee
          split at h
          · rename_i T' e2 ys hl2
            split at h
            · rename_i hT
              subst hT
              split at h
              · rename_i hb
                obtain rfl := Option.some.inj h
                exact OpOk.append c m ho ht rfl h1 hl (own_cells m hl2 h2) (by simpa using hb)
              · simp at h
            · simp at h
          · simp at h
        · rename_i hee
          have hee := Nat.eq_of_beq_eq_true hee
          subst hee
          obtain rfl := Option.some.inj h
          obtain ⟨vv, hv, zs, k2, ⟨ie, z, e1, e2, e3, e4, e5⟩, k4, k5⟩ := m.blks i _ hl
          have hex : a.eval u = vv := by
            generalize a.eval u = q at h1
            cases h1 with
            | own i _ h => rw [hv] at h; exact (Option.some.inj h).symm
          have := run_append_owned_none (P := g.P) w 0 t o.type e' ie T.size (und_slice (c.tab t _ ht) rfl) e1 vv xs.length zs k2
          refine OpOk.builtin ho (v := vv) ?_ (Post.same m (.own i vv hv))
          simp only [Go.builtin, List.map_toArray, List.map_cons, List.map_nil, hex, h2.nils_inv]
          rw [Sem.run_bind, this]
          rfl
        · simp at h
      · simp at h
    · simp at h
  · rename_i e0 T src hps
    obtain ⟨u, v, rfl, hx, hy⟩ := map2 hps
    have h1 := hr u
    have h2 := hr v
    rw [hx] at h1
    rw [hy] at h2
    split at h
    · rename_i t t' hts
      have hts' : ts = #[t, t'] := by apply Array.ext'; simpa using hts
      subst hts'
      split at h
      · rename_i sz zp el htt ht
        have htt := Nat.eq_of_beq_eq_true htt
        subst htt
        split at h
        · rename_i T0 hee hT0
          have hee := Nat.eq_of_beq_eq_true hee
          subst hee
          split at h
          · rename_i h0
            subst h0
            split at h
            · rename_i T' ys
              split at h
              · rename_i hT
                subst hT
                split at h
                · rename_i hb
                  exact OpOk.appendNil c m ho ht rfl h1.nsl_inv (c.ety _ _ hT0) (sl_cells h2) (by simpa using hb) h
                · simp at h
              · simp at h
            · simp at h
          · simp at h
        · simp at h
      · simp at h
    · simp at h
  · simp at h

theorem eff_ok (c : CxOk g.P C) (hgl : Same C g) (m : MInv g H w γ) {T : List PV} {ch : Chain} (hr : ∀ x, Rep w (okOf g w γ) γ (opd C.gl T ch x) (a.eval x)) {e : Eff} (h : eff C T H ch o = some e) : OpOk g o a H w γ e := by
  generalize hrr : opd C.gl T ch = r at hr
  cases hop : o.op
  case move x =>
    simp only [eff, hop, hrr] at h
    obtain rfl := Option.some.inj h
    exact OpOk.copyOf m (.inl hop) (typed_rep (hr x))
  case assign x =>
    simp only [eff, hop, hrr] at h
    split at h
    · rename_i hx _
      split at h
      · split at h
        · rename_i T' hT
          have := hr x
          rw [hx] at this
          exact OpOk.nilOwn m hop this.nils_inv (c.ety _ _ hT) h
        · simp at h
      · simp at h
    · obtain rfl := Option.some.inj h
      exact OpOk.copyOf m (.inr hop) (typed_rep (hr x))
  case alloc t =>
    simp only [eff, hop, hrr] at h
    split at h
    · rename_i ti ht
      split at h
      · exact OpOk.alloc c m hop ht (.inr rfl) h
      · exact OpOk.alloc c m hop ht (sf := id) (.inl rfl) (by rw [List.map_id]; exact h)
    · simp at h
  case box t x =>
    simp only [eff, hop, hrr] at h
    split at h
    · simp at h
    · rename_i h1
      split at h
      · rename_i hst
        exact OpOk.boxMut m hop (hr x) h1 (fun h' => (stale_some hst h').elim) h
      · simp at h
      · obtain rfl := Option.some.inj h
        exact OpOk.box m hop (hr x) h1
  case build t parts =>
    simp only [eff, hop, hrr] at h
    split at h
    · rename_i ti ht
      split at h
      · rename_i fs hk
        split at h
        · rename_i cs hf
          obtain rfl := Option.some.inj h
          exact OpOk.build c m hop hr ht (.inl ⟨fs, hk, hf⟩)
        · simp at h
      · rename_i n e hk
        split at h
        · rename_i f hf
          split at h
          · rename_i cs hfl
            obtain rfl := Option.some.inj h
            exact OpOk.build c m hop hr ht (.inr ⟨n, e, f, hk, hf, hfl⟩)
          · simp at h
        · simp at h
      · simp at h
    · simp at h
  case buildSlice t len parts =>
    simp only [eff, hop, hrr] at h
    split at h
    · rename_i sz zp el ht
      split at h
      · rename_i f T' hf hT
        split at h
        · rename_i cs hfl
          split at h
          · rename_i xs hd
            split at hd
            · rename_i hb
              rw [Bool.and_eq_true] at hb
              have hh := OpOk.buildSlice c m hop hr ht rfl hf hT hfl (Nat.le_of_ble_eq_true hb.1) (Nat.eq_of_beq_eq_true hb.2) hd
              split at h
              · exact hh.2 _ h
              · simp at h
              · obtain rfl := Option.some.inj h
                exact hh.1
            · simp at hd
          · simp at h
        · simp at h
      · simp at h
    · simp at h
  case load t x =>
    simp only [eff, hop, hrr] at h
    split at h
    · rename_i ti ht
      split at h
      · rename_i cs off hx
        split at h
        · rename_i p hp
          obtain rfl := Option.some.inj h
          exact OpOk.load c m hop (by have := hr x; rw [hx] at this; exact this) ht (.inl ⟨cs, off, rfl, hp⟩)
        · simp at h
      · rename_i i off hx
        split at h
        · rename_i t' cs hl
          split at h
          · rename_i p hp
            obtain rfl := Option.some.inj h
            exact OpOk.load c m hop (by have := hr x; rw [hx] at this; exact this) ht (.inr (.inl ⟨i, off, t', cs, rfl, hl, hp⟩))
          · simp at h
        · simp at h
      · rename_i i T' ix off hx
        split at h
        · rename_i T'' e' xs hl
          split at h
          · rename_i hT
            subst hT
            split at h
            · rename_i y hy
              split at h
              · rename_i p hp
                obtain rfl := Option.some.inj h
                exact OpOk.load c m hop (by have := hr x; rw [hx] at this; exact this) ht (.inr (.inr ⟨i, T', ix, off, e', xs, y, rfl, hl, hy, hp⟩))
              · simp at h
            · simp at h
          · simp at h
        · simp at h
      · simp at h
    · simp at h
  case store t x y =>
    simp only [eff, hop, hrr] at h
    split at h
    · simp at h
    · simp at h
    · rename_i hs
      split at hs
      · rename_i ti ht
        have hs := Nat.eq_of_beq_eq_true hs
        split at h
        · rename_i i off hx
          split at h
          · rename_i t' cs hl
            split at h
            · rename_i cs' hp
              obtain rfl := Option.some.inj h
              exact OpOk.storeRef c m hop (by have := hr x; rw [hx] at this; exact this) (typed_rep (hr y)) ht hs hl hp
            · simp at h
          · simp at h
        · rename_i i T' ix off hx
          split at h
          · rename_i T'' e' xs hl
            split at h
            · rename_i hT
              subst hT
              split at h
              · rename_i z0 h0
                split at h
                · rename_i cs hp
                  split at h
                  · rename_i z hd
                    obtain rfl := Option.some.inj h
                    exact OpOk.storeEref c m hop (by have := hr x; rw [hx] at this; exact this) (typed_rep (hr y)) ht hs hl h0 hp hd
                  · simp at h
                · simp at h
              · simp at h
            · simp at h
          · simp at h
        · simp at h
      · simp at hs
  case nilCheck x =>
    simp only [eff, hop, hrr] at h
    split at h <;> first
      | (simp at h; done)
      | (rename_i hx
         obtain rfl := Option.some.inj h
         exact OpOk.nilCheck m hop (by have := hr x; rw [hx] at this; exact this) (by first | exact .inl ⟨_, _, rfl⟩ | exact .inr (.inl ⟨_, _, rfl⟩) | exact .inr (.inr ⟨_, _, _, _, rfl⟩)))
      | (rename_i hx
         split at h
         · rename_i f hm
           obtain rfl := Option.some.inj h
           exact OpOk.nilCheckM c m hop (by have := hr x; rw [hx] at this; exact this) hm
         · simp at h)
  case binOp op t x y t' =>
    simp only [eff, hop, hrr] at h
    split at h
    · rename_i p hp
      obtain rfl := Option.some.inj h
      exact OpOk.binOp c m hop (hr x) (hr y) hp
    · simp at h
  case unOp op t x =>
    simp only [eff, hop, hrr] at h
    split at h
    · rename_i v hx
      obtain rfl := Option.some.inj h
      exact OpOk.unOp m hop (by have := hr x; rw [hx] at this; exact this) (.inl ⟨rfl, v, rfl, rfl⟩)
    · rename_i k v hx
      obtain rfl := Option.some.inj h
      exact OpOk.unOp m hop (by have := hr x; rw [hx] at this; exact this) (.inr ⟨rfl, k, v, rfl, rfl⟩)
    · simp at h
  case convert u t x =>
    simp only [eff, hop, hrr] at h
    split at h
    · rename_i hs ht hx
      obtain rfl := Option.some.inj h
      exact OpOk.convertInt c m hop hs ht rfl (by have := hr x; rw [hx] at this; exact this)
    · rename_i hs ht hx
      split at h
      · rename_i he hT
        obtain rfl := Option.some.inj h
        exact OpOk.convertBytes c m hop hs ht rfl he rfl (by have := hr x; rw [hx] at this; exact this)
      · simp at h
    · simp at h
  case makeInterface t x =>
    simp only [eff, hop, hrr] at h
    split at h
    · simp at h
    · rename_i ti hne ht
      obtain rfl := Option.some.inj h
      refine OpOk.makeInterface c m hop ht ?_ (hr x)
      intro hk
      obtain ⟨sz, zp, k⟩ := ti
      exact hne sz zp (by rw [← hk] <;> exact ht)
    · simp at h
  case makeFunc f fs cs =>
    simp only [eff, hop, hrr] at h
    obtain rfl := Option.some.inj h
    exact OpOk.makeFunc m hop hr
  case slice t x lo hi mx =>
    cases lo with
    | none => simp [eff, hop] at h
    | some lo =>
    cases hi with
    | some hi => simp [eff, hop] at h
    | none =>
    cases mx with
    | some mx => simp [eff, hop] at h
    | none =>
    simp only [eff, hop, hrr] at h
    split at h
    · rename_i ht hx hlo
      split at h
      · rename_i hsz
        split at h
        · rename_i hb
          obtain rfl := Option.some.inj h
          have hb := of_decide_eq_true hb
          exact OpOk.slice c m hop ht rfl hsz (by have := hr x; rw [hx] at this; exact this) (by have := hr lo; rw [hlo] at this; exact this) hb.1 hb.2
        · simp at h
      · simp at h
    · simp at h
  case fieldAddr t x f =>
    simp only [eff, hop, hrr] at h
    split at h
    · rename_i ht
      split at h
      · rename_i hf
        split at h
        · rename_i fi hft
          split at h
          · simp at h
          · rename_i n hn
            split at h <;> first
              | (simp at h; done)
              | (rename_i hx
                 obtain rfl := Option.some.inj h
                 exact OpOk.fieldAddr c m hop ht rfl hf hft (by omega) (by have := hr x; rw [hx] at this; exact this) (by first | exact .inl ⟨_, _, rfl, rfl⟩ | exact .inr (.inl ⟨_, _, rfl, rfl⟩) | exact .inr (.inr ⟨_, _, _, _, rfl, rfl⟩)))
        · simp at h
      · simp at h
    · simp at h
  case field t x f =>
    simp only [eff, hop, hrr] at h
    split at h
    · rename_i ht hx
      split at h
      · rename_i hf
        split at h
        · rename_i fi hft
          split at h
          · rename_i p hp
            obtain rfl := Option.some.inj h
            exact OpOk.field c m hop ht rfl hf hft (by have := hr x; rw [hx] at this; exact this) hp
          · simp at h
        · simp at h
      · simp at h
    · simp at h
  case indexAddr t x i =>
    simp only [eff, hop, hrr] at h
    split at h
    · rename_i ht hi
      have hi' := hr i
      rw [hi] at hi'
      split at h
      · rename_i T' xs hx
        have hx' := hr x
        rw [hx] at hx'
        split at h
        · rename_i hsz
          split at h
          · rename_i y hy
            obtain rfl := Option.some.inj h
            exact OpOk.indexSl c m hop ht rfl hsz hi' hy (.inl ⟨hx', rfl⟩)
          · simp at h
        · simp at h
      · rename_i j hx
        have hx' := hr x
        rw [hx] at hx'
        split at h
        · rename_i T' e' xs hl
          split at h
          · rename_i hsz
            split at h
            · rename_i y hy
              obtain rfl := Option.some.inj h
              exact OpOk.indexSl c m hop ht rfl hsz hi' hy (.inr ⟨j, e', hx', hl, rfl⟩)
            · simp at h
          · simp at h
        · simp at h
      · simp at h
    · rename_i ht hi
      have hi' := hr i
      rw [hi] at hi'
      split at h
      · rename_i f hf
        split at h
        · rename_i hb
          split at h <;> first
            | (simp at h; done)
            | (rename_i hx
               obtain rfl := Option.some.inj h
               exact OpOk.indexArr c m hop ht rfl hf hi' hb.1 hb.2 (by have := hr x; rw [hx] at this; exact this) (by first | exact .inl ⟨_, _, rfl, rfl⟩ | exact .inr ⟨_, _, rfl, rfl⟩))
        · simp at h
      · simp at h
    · simp at h
  case index t x i =>
    simp only [eff, hop, hrr] at h
    split at h
    · rename_i ht hx hi
      have hi' := hr i
      rw [hi] at hi'
      have hx' := hr x
      rw [hx] at hx'
      split at h
      · rename_i f hf
        split at h
        · rename_i hb
          split at h
          · rename_i p hp
            obtain rfl := Option.some.inj h
            exact OpOk.indexAgg c m hop ht rfl hf hi' hb.1 hb.2 hx' hp
          · simp at h
        · simp at h
      · simp at h
    · rename_i ht hx hi
      have hi' := hr i
      rw [hi] at hi'
      have hx' := hr x
      rw [hx] at hx'
      split at h
      · rename_i b hb
        obtain rfl := Option.some.inj h
        exact OpOk.indexStr c m hop ht rfl hi' hx' hb
      · simp at h
    · simp at h
  case typeAssert x s t ok =>
    cases ok with
    | false => simp [eff, hop] at h
    | true =>
    simp only [eff, hop, hrr] at h
    split at h
    · rename_i ti u v ht hx
      have hx' := hr x
      rw [hx] at hx'
      split at h
      · simp at h
      · rename_i hne
        split at h
        · rename_i hu
          obtain rfl := Option.some.inj h
          exact OpOk.typeAssert c m hop ht (fun h => hne h) hx' (.inl ⟨Nat.eq_of_beq_eq_true hu, rfl⟩)
        · rename_i hu
          split at h
          · rename_i z hz
            obtain rfl := Option.some.inj h
            exact OpOk.typeAssert c m hop ht (fun h => hne h) hx' (.inr ⟨fun h => by rw [h, Nat.beq_refl] at hu; simp at hu, z, hz, rfl⟩)
          · simp at h
    · simp at h
  case extract x n =>
    simp only [eff, hop, hrr] at h
    split at h
    · rename_i ps hx
      split at h
      · rename_i p hp
        obtain rfl := Option.some.inj h
        exact OpOk.extract m hop (by have := hr x; rw [hx] at this; exact this) hp
      · simp at h
    · simp at h
  case call cl =>
    obtain ⟨cal, as, ts⟩ := cl
    cases cal with
    | builtin b =>
      simp only [eff, hop, hrr] at h
      split at h
      · simp at h
      · exact callB_ok c m hop hr h
    | value f => simp [eff, hop] at h
    | invoke x nm => simp [eff, hop] at h
  all_goals simp [eff, hop] at h
end

end Go.Proofs.Ytklgaodfakdjpaa.Ev
