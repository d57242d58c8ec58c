/- Operations that are looked up whole are right. -/
import Derived.Test.YtklgaodfakdjpaaKc
import Derived.TacticsIn
import Derived.OrdersIn
import Derived.LoopNIn
set_option linter.unusedVariables false
set_option linter.unusedSimpArgs false
namespace Go.Proofs.Ytklgaodfakdjpaa.Ev
open Go Go.RowKit

section
variable {g : GI} {C : Cx} {H : Heap} {w : World} {γ : Nat → Option Value} {o : Oper} {a : Act} {ok : Nat → Prop}

theorem sure_some {x : Option Eff} {b : Bool} {e : Eff} (h : sure x = some (b, e)) : x = some e := by
  unfold sure at h
  split at h
  · obtain ⟨_, rfl⟩ := Prod.mk.inj (Option.some.inj h)
    rfl
  · simp at h
theorem atN_of {T : ETy} {xs : List T.den} {n : Nat} (h : inN n xs.length = true) : xs[n]? = some (atN T xs n) := by
  have h := Nat.le_of_ble_eq_true h
  unfold atN
  rw [List.getD, List.getElem?_eq_getElem (by omega)]
  rfl
theorem ixl_of {T : ETy} {xs : List T.den} {n : Int} (h : inB n xs.length = true) : ixl xs n = some (atD T xs n) := by
  simp only [inB, Bool.and_eq_true, decide_eq_true_eq] at h
  unfold ixl atD atN
  rw [if_pos h.1, List.getD, List.getElem?_eq_getElem (by omega)]
  rfl
theorem ixs_of {s : ByteArray} {n : Int} (h : inB n s.size = true) : ∃ b, ixs s n = some b ∧ byteAt s n = (b.toNat : Int) := by
  simp only [inB, Bool.and_eq_true, decide_eq_true_eq] at h
  have hl : n.toNat < s.data.size := by have : s.data.size = s.size := rfl; omega
  refine ⟨s.data[n.toNat], ?_, ?_⟩
  · unfold ixs
    rw [if_pos h.1]
    show s.data[n.toNat]? = _
    simp [hl]
  · unfold byteAt
    have : s[n.toNat]? = some s.data[n.toNat] := by
      show s.data[n.toNat]? = _
      simp [hl]
    rw [this]

/-- A call of a function that is handed objects. -/
theorem callObj_ok (c : CxOk g.P C) (hgl : Same C g) (m : MInv g H w γ) {f mode : Nat} {F : ObjF} (hO : C.O f = some (mode, F)) {ps : List PV} {e : Eff} (h : callO H o.dst mode F ps = some (true, e)) {vs : List Value} (hr : RepL w (okOf g w γ) γ ps vs)
    (hrun : ∀ fn, g.P.funcs[f]? = some fn → fn.body.isSome = true → fn.name ≠ "runtime.NumGoroutine" → (execOp a.eval o).run g.P w = .ok (.enter f vs.toArray) w) : OpOk g o a H w γ e := by
  obtain ⟨ps', os, r, os', gs, γs, hF, h1, h2, h3, h4, h5, h6, h7⟩ := callO_prep m h hr
  obtain ⟨hobj, fn, hf, hb, hn⟩ := c.O f mode F hO ps' os r os' hF
  refine OpOk.enter (hrun fn hf hb hn) ((hobj gs w γs vs h1 (h2.trans hgl.gl.symm) h3 h4 h5 h6).mono ?_)
  rintro en w' ⟨v, γs', rfl, h8, h9⟩
  exact ⟨v, rfl, h7 v w' γs' h8 h9⟩
theorem killB_stay (m : MInv g H w γ) {i j : Nat} (hi : look H i = none) : killBs [i] (look H j) = look H j := by
  cases hj : look H j with
  | none => exact killBs_none _
  | some b =>
    cases b with
    | cells t ps =>
      rw [killBs_cells]
      obtain ⟨v, hv, β, vs, rfl, hb, hr, h1⟩ := m.blks j _ hj
      have : ps.map (killPs [i]) = ps := by
        refine (List.map_congr_left fun p hp => ?_).trans (List.map_id ps)
        obtain ⟨k, hk⟩ := List.mem_iff_getElem?.1 hp
        show killP i p = p
        unfold killP
        cases hh : has p.ids i with
        | true => exact absurd (m.dom _ hi) ((hr.2 k p hk).live _ ((has_iff _ _).1 hh))
        | false => rfl
      rw [this]
    | row T e xs => exact killBs_other (fun _ _ h => by simp at h) _
    | loop lb => exact killBs_other (fun _ _ h => by simp at h) _
/-- A call under a guard. -/
theorem callG_ok (c : CxOk g.P C) (hgl : Same C g) (m : MInv g H w γ) {f : Nat} {F : ObjF} (hO : C.O f = some (2, F)) {ps : List PV} {e : Eff} (h : callG H o.dst F ps = some (true, e)) {vs : List Value} (hr : RepL w (okOf g w γ) γ ps vs)
    (hrun : ∀ fn, g.P.funcs[f]? = some fn → fn.body.isSome = true → fn.name ≠ "runtime.NumGoroutine" → (execOp a.eval o).run g.P w = .ok (.enter f vs.toArray) w) : OpOk g o a H w γ e := by
  unfold callG at h
  split at h
  · rename_i cd i j T t xs fp hc
    split at h
    · rename_i hij
      obtain ⟨rfl, rfl⟩ := Prod.mk.inj (Option.some.inj h)
      rw [Bool.and_eq_true] at hij
      have hj : i = j := Nat.eq_of_beq_eq_true hij.1
      subst hj
      have hi : look H i = none := by simpa using hij.2
      have ho := callObj_ok c hgl m hO hc hr hrun
      intro r n next Q hd hn
      refine ho r n next Q hd fun v w' γ' hp => hn v w' (dropγ [i] γ') ?_
      obtain ⟨p1, p2, p3, p4⟩ := hp
      have hil : i < H.length := by
        rcases Nat.lt_or_ge i H.length with hl | hl
        · exact hl
        · exfalso
          have h0 : look (applyH H ⟨.own i, [(i, some (.row T t xs))], [], fp⟩) i = none := by
            unfold look
            rw [List.getD, List.getElem?_eq_none (by show (setHs _ (killHs _ H)).length ≤ i; rw [setHs_len, killHs_len]; exact hl)]
            rfl
          have h1 := p1.dom i h0
          cases p2 with
          | own _ _ hh => rw [h1] at hh; simp at hh
      have hlk : ∀ k, look (applyH H ⟨.own i, [(i, some (.row T t xs))], [], fp⟩) k = if k = i then some (.row T t xs) else look H k := by
        intro k
        show look (H.set i (some (.row T t xs))) k = _
        rw [look_set']
        by_cases hk : k = i
        · rw [if_pos ⟨hk, hil⟩, if_pos hk]
        · rw [if_neg (fun hh => hk hh.1), if_neg hk]
      have hrow : look (applyH H ⟨.own i, [(i, some (.row T t xs))], [], fp⟩) i = some (.row T t xs) := by rw [hlk, if_pos rfl]
      refine ⟨(drop_inv p1 [i]).congr fun k => ?_, ?_, fun p u hpu _ => ?_, p4.1, p4.2.1, fun k v' β hk => ?_⟩
      · show look H k = _
        rw [drop_look]
        by_cases hk : k ∈ [i]
        · rw [if_pos hk]
          simp at hk
          rw [hk, hi]
        · rw [if_neg hk, hlk, if_neg (by simpa using hk), killB_stay m hi]
      · have hfz : freeze1 (applyH H ⟨.own i, [(i, some (.row T t xs))], [], fp⟩) (.own i) = .sl T xs := by
          show (match look (applyH H ⟨.own i, [(i, some (.row T t xs))], [], fp⟩) i with | some (.row T _ xs) => PV.sl T xs | _ => PV.junk) = _
          rw [hrow]
        exact hfz ▸ freeze1_rep p1 (is := [i]) p2 (fun k hk => by injection hk with hk; simp [hk]) (fun k hk => by rw [hfz]; simp [PV.ids])
      · exact drop_tr (p3 p u hpu fun _ h => by simp at h) fun k hk => by
          simp at hk
          subst hk
          intro hk2
          exact hpu.live _ hk2 (m.dom _ hi)
      · unfold dropγ at hk
        split at hk
        · simp at hk
        · exact p4.2.2 k v' β hk
    · simp at h
  · simp at h
theorem idsL_nil {ps : List PV} (h : ∀ (j : Nat) (p : PV), ps[j]? = some p → p.ids = []) : PV.ids.idsL ps = [] := by
  induction ps with
  | nil => rfl
  | cons p ps ih =>
    have h0 := h 0 p rfl
    have := ih fun j q hq => h (j + 1) q (by simpa using hq)
    simp [PV.ids.idsL, h0, this]
theorem idsL_none (m : MInv g H w γ) (hno : H.all Option.isNone = true) {ps : List PV} {vs : List Value} (hr : RepL w (okOf g w γ) γ ps vs) : PV.ids.idsL ps = [] := by
  have hl : ∀ i, look H i = none := by
    intro i
    unfold look
    cases hi : H[i]? with
    | none => simp [List.getD, hi]
    | some b =>
      have := List.all_eq_true.1 hno b (List.mem_of_getElem? hi)
      cases b with
      | none => simp [List.getD, hi]
      | some b => simp at this
  have hγ : γ = γ0 := funext fun i => m.dom i (hl i)
  exact idsL_nil fun j p hp => by
    have := hr.2 j p hp
    rw [hγ] at this
    exact this.ids0
theorem callT_ok (c : CxOk g.P C) (hgl : Same C g) (m : MInv g H w γ) {ch : Chain} {f : FuncId} {ps : List PV} {e : Eff} (h : callT C H ch o.dst f ps = some (true, e)) {vs : List Value} (hr : RepL w (okOf g w γ) γ ps vs)
    (hrun : ∀ fn, g.P.funcs[f]? = some fn → fn.body.isSome = true → fn.name ≠ "runtime.NumGoroutine" → (execOp a.eval o).run g.P w = .ok (.enter f vs.toArray) w) : OpOk g o a H w γ e := by
  unfold callT at h
  split at h
  · rename_i mode F hO
    split at h
    · exact callObj_ok c hgl m hO h hr hrun
    · split at h
      · exact callG_ok c hgl m hO h hr hrun
      · simp at h
  · split at h
    · split at h
      · rename_i hno
        have hids : PV.ids.idsL ps = [] := idsL_none m hno hr
        split at h
        · rename_i cd r hG
          obtain ⟨rfl, rfl⟩ := Prod.mk.inj (Option.some.inj h)
          exact callPure_ok c hgl m hids hG hr hrun
        · simp at h
      · simp at h
    · split at h
      · rename_i hids
        split at h
        · rename_i cd r hG
          obtain ⟨rfl, rfl⟩ := Prod.mk.inj (Option.some.inj h)
          exact callPure_ok c hgl m hids hG hr hrun
        · simp at h
      · split at h
        · rename_i cd r hG
          split at h
          · rename_i hsc
            obtain ⟨rfl, rfl⟩ := Prod.mk.inj (Option.some.inj h)
            exact callBor_ok c hgl m hG hsc hr hrun
          · simp at h
        · simp at h

/-- A round, where a function that is ranged over hands a value on. -/
theorem yield_ok (c : CxOk g.P C) (hgl : Same C g) (m : MInv g H w γ) {F : ObjF} (hY : C.Y = some F) {j : Nat} {lb : LB} (hj : look H j = some (.loop lb)) (hj8 : Nat.ble 8 j = false) {l : Nat} (hl : γ j = some (.pointer (some ⟨l, 0, none⟩))) {ps : List PV} (hids : PV.ids.idsL ps = []) {e : Eff}
    (h : callM H o.dst F ((List.range 8).filter fun i => (look H i).isSome) [] [] false ps = some (true, e)) (hti : C.ties.all (fixedAt ((List.range 8).filter fun i => (look H i).isSome)) = true) {vs : List Value} (hr : RepL w (okOf g w γ) γ ps vs)
    (hrun : (execOp a.eval o).run g.P w = (Instr.yield l vs.toArray).run g.P w) : OpOk g o a H w γ e := by
  generalize hms : ((List.range 8).filter fun i => (look H i).isSome) = ms at h hti
  have hp0 : ∀ (k : Nat) (p : PV), ps[k]? = some p → p.ids = [] := by
    intro k p hp
    cases hi : p.ids with
    | nil => rfl
    | cons i l =>
      have := mem_idsL hp (i := i) (by simp [hi])
      rw [hids] at this
      simp at this
  have hr2 : ∀ hid : IdsOk H ms, RepL w (okOf (subG g w γ ms (osOf H ms) false) w (subγ γ ms)) (subγ γ ms) ps vs := fun hid =>
    ⟨hr.1, fun k p hp => (hr.2 k p hp).free (hp0 k p hp) fun β hβ => sub_ok hid _ false hβ⟩
  obtain ⟨hid, r, os', e0, hF, rfl, hpost⟩ := callM_prep (vs := vs) m h hr2
  have hjm : j ∈ ms := by
    rw [← hms, List.mem_filter]
    refine ⟨?_, by rw [hj]; rfl⟩
    rw [List.mem_range]
    rcases Nat.lt_or_ge j 8 with h' | h'
    · exact h'
    · rw [Nat.ble_eq_true_of_le h'] at hj8; simp at hj8
  obtain ⟨k, hk⟩ := pos_isSome hjm
  have hkm := pos_spec hk
  have hties : TiesOk C.ties C.rl (subG g w γ ms (osOf H ms) false) := by
    refine ⟨hgl.ties.1, ?_⟩
    intro x hx
    have hf := List.all_eq_true.1 hti x hx
    unfold fixedAt at hf
    split at hf
    · rename_i j' hj'
      obtain rfl := Nat.eq_of_beq_eq_true hf
      have hmem : x.2 ∈ ms := List.mem_of_getElem? hj'
      rw [← hms, List.mem_filter, List.mem_range] at hmem
      have hfx := hgl.ties.2 x hx
      rcases m.fx _ _ hfx with h0 | ⟨h1, h2⟩
      · rw [h0] at hmem; simp at hmem
      · show fixOf (osOf H ms) (subγ γ ms) x.2 = _
        have hlk : look (osOf H ms) x.2 = renB (pos ms) (look H x.2) := by rw [look_osOf hid, hj']; rfl
        have h8 : Nat.ble 8 x.2 = false := by
          cases hb : Nat.ble 8 x.2 with
          | false => rfl
          | true => have := Nat.le_of_ble_eq_true hb; omega
        unfold fixOf
        rw [hlk, h8]
        cases hl2 : look H x.2 with
        | none => rw [hl2] at hmem; simp at hmem
        | some b =>
          rw [hl2] at h1
          have hs : subγ γ ms x.2 = some (g.lrec.tmps.getD x.1 undef) := by unfold subγ; rw [hj']; exact h2
          cases b with
          | row T e xs => simp [isRow] at h1
          | cells t ps => exact hs
          | loop lb => exact hs
    · simp at hf
  obtain ⟨f, tmps, assign, body, hy, hround⟩ := c.Y F hY l ps _ r os' hF (subG g w γ ms (osOf H ms) false) w (subγ γ ms) vs rfl hgl.gl.symm rfl rfl hties (sub_inv m hid false) (hr2 hid)
    ⟨k, lb, by rw [look_osOf hid, hkm]; simp [hj, renB], by rw [sub_ids hid hk]; exact hl⟩
  intro rr n next Q hd hn
  refine ⟨fun _ _ => trivial, ?_⟩
  rw [Oper.semAt_eq _ _ _ hd, hrun, hy, Oper.uponIn_round]
  refine ⟨fun h => by simp [Fw, Fence.wide] at h, (hround rr (n - 1)).mono ?_⟩
  rintro en w' ⟨v, γs', rfl, h8, h9⟩
  obtain ⟨γ', hp⟩ := hpost v w' γs' h8 h9
  exact hn v w' γ' hp

theorem effT_ok (c : CxOk g.P C) (hgl : Same C g) (m : MInv g H w γ) {T : List PV} {ch : Chain} (hr : ∀ x, Rep w (okOf g w γ) γ (opd C.gl T ch x) (a.eval x)) {e : Eff} (h : effT C T H ch o = some (true, e)) : OpOk g o a H w γ e := by
  have hs : sure (eff C T H ch o) = some (true, e) → OpOk g o a H w γ e := fun h => eff_ok c hgl m hr (sure_some h)
  have he : eff C T H ch o = some e → OpOk g o a H w γ e := fun h => eff_ok c hgl m hr h
  unfold effT at h
  simp only [] at h
  split at h
  · rename_i t x i hop
    split at h
    · rename_i T' xs hx
      split at h
      · rename_i e' k n ht hi
        split at h
        · rename_i hsz
          obtain ⟨hb, rfl⟩ := Prod.mk.inj (Option.some.inj h)
          refine he ?_
          simp only [eff, hop, ht, hi, hx, hsz, ixl_of hb]
        · simp at h
      · simp at h
    · rename_i j hx
      split at h
      · rename_i e' k n ht hi
        split at h
        · rename_i T' e2 xs hl
          split at h
          · rename_i hsz
            obtain ⟨hb, rfl⟩ := Prod.mk.inj (Option.some.inj h)
            refine he ?_
            simp only [eff, hop, ht, hi, hx, hl, hsz, ixl_of hb]
          · simp at h
        · simp at h
      · simp at h
    · exact hs h
  · rename_i t x i hop
    split at h
    · rename_i s hx
      split at h
      · rename_i k n ht hi
        obtain ⟨hb, rfl⟩ := Prod.mk.inj (Option.some.inj h)
        obtain ⟨b, h1, h2⟩ := ixs_of hb
        refine he ?_
        simp only [eff, hop, ht, hi, hx, h1, h2]
      · simp at h
    · exact hs h
  · rename_i op t x y t' hop
    split at h
    · rename_i m' a' m'' b hx hy
      split at h
      · rename_i hm
        obtain ⟨hb, rfl⟩ := Prod.mk.inj (Option.some.inj h)
        rw [Bool.not_eq_true'] at hb
        refine he ?_
        simp only [eff, hop, hx, hy, binop, arith, hm, hb]
      · simp at h
    · rename_i m' a' m'' b hx hy
      split at h
      · rename_i hm
        obtain ⟨hb, rfl⟩ := Prod.mk.inj (Option.some.inj h)
        rw [Bool.not_eq_true'] at hb
        refine he ?_
        simp only [eff, hop, hx, hy, binop, arith, hm, hb]
      · simp at h
    · exact hs h
  · rename_i t x hop
    split at h
    · rename_i i T' ix off hx
      split at h
      · rename_i ti ht
        split at h
        · rename_i T2 e2 xs hl
          split at h
          · rename_i hT
            subst hT
            split at h
            · rename_i p hp
              obtain ⟨hb, rfl⟩ := Prod.mk.inj (Option.some.inj h)
              refine he ?_
              simp only [eff, hop, ht, hx, hl, dif_pos, atN_of hb, hp]
            · simp at h
          · simp at h
        · simp at h
      · simp at h
    · exact hs h
  · rename_i t x y hop
    split at h
    · rename_i i T' ix off hx
      split at h
      · simp at h
      · simp at h
      · rename_i hsz
        split at h
        · rename_i T2 e2 xs hl
          split at h
          · rename_i hT
            subst hT
            split at h
            · rename_i cs hp
              split at h
              · rename_i z hd
                obtain ⟨hb, rfl⟩ := Prod.mk.inj (Option.some.inj h)
                refine he ?_
                simp only [eff, hop, hsz, hx, hl, dif_pos, atN_of hb, hp, hd]
              · simp at h
            · simp at h
          · simp at h
        · simp at h
    · exact hs h
  · rename_i t x lo hop
    split at h
    · rename_i e' T' xs k n ht hx hlo
      split at h
      · rename_i hsz
        obtain ⟨hb, rfl⟩ := Prod.mk.inj (Option.some.inj h)
        refine he ?_
        have hb' : decide (0 ≤ n ∧ n ≤ (xs.length : Int)) = true := by simpa using hb
        simp only [eff, hop, ht, hx, hlo, hsz, hb']
      · simp at h
    · simp at h
  · rename_i as ts hop
    split at h
    · simp at h
    · split at h
      · rename_i i T' ys t t' has hts
        split at h
        · rename_i T2 e2 sz zp e3 xs hlk htt ht
          split at h
          · rename_i hT
            subst hT
            split at h
            · rename_i hee
              obtain ⟨hb, rfl⟩ := Prod.mk.inj (Option.some.inj h)
              refine he ?_
              simp only [eff, hop, callB, has, hts, hlk, htt, ht, hee, dif_pos, hb]
            · simp at h
          · simp at h
        · simp at h
      · rename_i i T' ys t t' has hts
        split at h
        · rename_i T2 e2 sz zp e3 xs hlk htt ht
          split at h
          · rename_i hT
            subst hT
            split at h
            · rename_i hee
              obtain ⟨hb, rfl⟩ := Prod.mk.inj (Option.some.inj h)
              refine he ?_
              simp only [eff, hop, callB, has, hts, hlk, htt, ht, hee, dif_pos, hb]
            · simp at h
          · simp at h
        · simp at h
      · exact hs h
  · rename_i f as ts hop
    split at h
    · rename_i f' first caps hx
      have hx' := hr f
      rw [hx] at hx'
      generalize hv : a.eval f = u at hx'
      cases hx' with
      | fn f a' c' fs cs ha hc h1 h2 =>
        refine callT_ok c hgl m h (vs := fs ++ as.toList.map a.eval ++ cs) (RepL.append (RepL.append ⟨ha, h1⟩ (typedL_rep _ (RepL.map fun x _ => hr x))) ⟨hc, h2⟩) fun fn hf hb hn => ?_
        simp only [execOp, hop, resolve, hv, Deferred.ofValue, Sem.run_bind, Sem.run_pure, Result.andThen_ok]
        have hx : fs.toArray ++ Array.map a.eval as ++ cs.toArray = (fs ++ as.toList.map a.eval ++ cs).toArray := by apply Array.ext'; simp
        rw [← hx]
        exact run_callFunc hf hb hn _
    · rename_i j hx
      split at h
      · rename_i F hY
        split at h
        · rename_i lb hj
          split at h
          · rename_i hids hj8 hti
            have hx' := hr f
            rw [hx] at hx'
            generalize hv : a.eval f = u at hx'
            cases hx' with
            | yld i β hl =>
              refine yield_ok c hgl m hY hj hj8 hl hids h hti (vs := as.toList.map a.eval) (typedL_rep _ (RepL.map fun x _ => hr x)) ?_
              simp only [execOp, hop, resolve, hv, Deferred.ofValue, Sem.run_bind, Sem.run_pure, Result.andThen_ok]
              have hx : Array.map a.eval as = (as.toList.map a.eval).toArray := by apply Array.ext'; simp
              simp [invoke, hx]
          · simp at h
        · simp at h
      · simp at h
    · simp at h
  · rename_i x nm as ts hop
    split at h
    · rename_i t v hx
      have hx' := hr x
      rw [hx] at hx'
      split at h
      · rename_i gg hm
        generalize hv : a.eval x = u at hx'
        cases hx' with
        | iface t p u hp =>
          refine callT_ok c hgl m h (vs := u :: as.toList.map a.eval) (RepL.cons hp (typedL_rep _ (RepL.map fun x _ => hr x))) fun fn hf hb hn => ?_
          have hmeth := c.meth t nm gg hm u w
          simp only [execOp, hop, resolve, hv, Sem.run_bind, Sem.run_pure, Result.andThen_ok]
          have h0 : (#[Value.iface t u] ++ Array.map a.eval as)[0]? = some (Value.iface t u) := by
            rw [Array.getElem?_append_left (by simp)]
            rfl
          have h1 : #[u] ++ (#[Value.iface t u] ++ Array.map a.eval as).extract 1 (#[Value.iface t u] ++ Array.map a.eval as).size = (u :: as.toList.map a.eval).toArray := by
            apply Array.ext'
            simp
            exact List.take_of_length_le (by simp)
          have h2 : (invoke (.fn (.method nm) #[]) (#[Value.iface t u] ++ Array.map a.eval as)) = callMethod (.iface t u) nm ((#[Value.iface t u] ++ Array.map a.eval as).extract 1 (#[Value.iface t u] ++ Array.map a.eval as).size) := by
            simp only [invoke]
            split
            · rename_i hh
              rw [h0] at hh
              rw [← Option.some.inj hh]
            · rename_i hh
              exact absurd h0 (hh _)
          rw [h2]
          simp only [callMethod, Sem.run_bind, run_program, Result.andThen_ok, hmeth, h1]
          exact run_callFunc hf hb hn _
      · simp at h
    · simp at h
  · exact hs h
theorem effT_defer {T : List PV} {ch : Chain} {x : Bool × Eff} (h : effT C T H ch o = some x) (c : Call) : o.op ≠ .defer c := by
  intro ho
  simp only [effT, ho, sure, eff] at h
  simp at h
end
end Go.Proofs.Ytklgaodfakdjpaa.Ev
/- The interpreter's steps are the program's: one operation, and the operations of a region in their order. -/
namespace Go.Proofs.Ytklgaodfakdjpaa.Ev
open Go Go.RowKit

def holds (a : Act) (ch : Chain) : Prop := ∀ x ∈ ch, a.tmps.getD x.1 undef = .bool x.2
def RepG (w : World) (ok : Nat → Prop) (γ : Nat → Option Value) (a : Act) (p : PV) (v : Value) : Prop := match p with
  | .gd ch q => (holds a ch ∧ Rep w ok γ q v) ∨ (¬ holds a ch ∧ v = undef)
  | p => Rep w ok γ p v
def donesD (dst : Option Nat) (done : List Nat) : List Nat := match dst with
  | some d => d :: done
  | none => done
/-- The calls that are put off: none, but for the marks of functions that were ranged over. -/
def DfOk (b : Nat) (w : World) (γ : Nat → Option Value) : List Deferred → Prop
  | [] => True
  | d :: ds => (∃ D, b ≤ D ∧ d = { target := .collected D, args := #[] } ∧ w.heap[D]? = some (.deferred (some [])) ∧ (∀ i v, γ i = some v → blk v ≠ some D) ∧ ∀ d' ∈ ds, d' ≠ d) ∧ DfOk b w γ ds
theorem DfOk.loc {b : Nat} {w w' : World} {γ γ' : Nat → Option Value} : ∀ {ds : List Deferred}, DfOk b w γ ds → Loc w γ w' γ' → DfOk b w' γ' ds
  | [], _, _ => trivial
  | d :: ds, ⟨⟨D, h0, h1, h2, h3, h4⟩, h⟩, hl => by
    have hD := (Array.getElem?_eq_some_iff.1 h2).1
    refine ⟨⟨D, h0, h1, by rw [hl.2.1 D hD h3]; exact h2, fun i v hi hv => ?_, h4⟩, DfOk.loc h hl⟩
    rcases hl.2.2 i v D hi hv with ⟨j, u, hj, hu⟩ | h
    · exact h3 j u hj hu
    · omega
theorem DfOk.sub {b : Nat} {w : World} {γ γ' : Nat → Option Value} (hs : ∀ i v, γ' i = some v → γ i = some v) : ∀ {ds : List Deferred}, DfOk b w γ ds → DfOk b w γ' ds
  | [], _ => trivial
  | d :: ds, ⟨⟨D, h0, h1, h2, h3, h4⟩, h⟩ => ⟨⟨D, h0, h1, h2, fun i v hi => h3 i v (hs i v hi), h4⟩, h.sub hs⟩
/-- The state stands for the machine's. -/
structure TInv (g : GI) (σ : St) (w : World) (γ : Nat → Option Value) (a : Act) : Prop where
  m : MInv g σ.H w γ
  t : ∀ t, RepG w (okOf g w γ) γ a (σ.T.getD t .junk) (a.tmps.getD t undef)
  sz : σ.T.length = a.tmps.size
  df : DfOk g.w0.heap.size w γ a.defers
/-- The guards of what is kept under a chain have been reckoned. -/
def ChOk (done : List Nat) (T : List PV) : Prop := ∀ t ch q, T.getD t .junk = .gd ch q → contra ch = true ∨ ∀ x ∈ ch, x.1 ∈ done
def SInv (g : GI) (done : List Nat) (σ : St) (a : Act) (w : World) : Prop := (∃ γ, TInv g σ w γ a) ∧ ChOk done σ.T

section
variable {g : GI} {C : Cx} {w : World} {γ : Nat → Option Value} {ok : Nat → Prop} {a : Act} {σ : St}
theorem RepG.plain {p : PV} {v : Value} (h : RepG w ok γ a p v) (hp : ∀ ch q, p ≠ .gd ch q) : Rep w ok γ p v := by
  cases p <;> first | exact h | exact absurd rfl (hp _ _)
theorem RepG.of {p : PV} {v : Value} (h : Rep w ok γ p v) : RepG w ok γ a p v := by
  cases p <;> first | exact h | (cases h)
theorem pre_spec : ∀ {c d : Chain}, pre c d = true → ∀ x ∈ c, x ∈ d
  | [], d, h, x, hx => by simp at hx
  | y :: c, [], h, x, hx => by simp [pre] at h
  | (t, b) :: c, (u, b') :: d, h, x, hx => by
    simp only [pre, Bool.and_eq_true, beq_iff_eq] at h
    obtain ⟨⟨h1, h2⟩, h3⟩ := h
    have h1 := Nat.eq_of_beq_eq_true h1
    subst h1
    subst h2
    rcases List.mem_cons.1 hx with rfl | hx
    · exact List.mem_cons_self ..
    · exact List.mem_cons_of_mem _ (pre_spec h3 x hx)
theorem under_rep {p : PV} {v : Value} {c : Chain} (hc : holds a c) (h : RepG w ok γ a p v) : Rep w ok γ (p.under c) v := by
  cases p with
  | gd ch q =>
    simp only [PV.under]
    cases hp : pre ch c with
    | true =>
      rcases h with ⟨_, h⟩ | ⟨hn, _⟩
      · exact h
      · exact absurd (fun x hx => hc x (pre_spec hp x hx)) hn
    | false => exact .junk v
  | _ => exact h
theorem opd_rep {T : List PV} {c : Chain} (hc : holds a c) (hgl : Same C g) (m : MInv g σ.H w γ) (h : ∀ t, RepG w (okOf g w γ) γ a (T.getD t .junk) (a.tmps.getD t undef)) (x : Operand) : Rep w (okOf g w γ) γ (opd C.gl T c x) (a.eval x) := by
  cases x with
  | tmp t => exact under_rep hc (h t)
  | const v => exact cv_rep ..
  | global n =>
    show Rep w (okOf g w γ) γ (C.gl n) (.pointer (some ⟨n, 0, none⟩))
    rw [hgl.gl]
    by_cases hj : g.gl n = .junk
    · rw [hj]; exact .junk _
    · exact (m.glob n hj).free (m.glob n hj).ids0 fun β h => h
  | func f => exact .fn (.func f) [] [] [] [] rfl rfl (fun _ _ h => by simp at h) (fun _ _ h => by simp at h)
theorem holds_nil : holds a [] := fun x hx => by simp at hx
theorem holds_append {c d : Chain} : holds a (c ++ d) ↔ holds a c ∧ holds a d := by
  unfold holds
  constructor
  · exact fun h => ⟨fun x hx => h x (by simp [hx]), fun x hx => h x (by simp [hx])⟩
  · rintro ⟨h1, h2⟩ x hx
    rcases List.mem_append.1 hx with hx | hx
    · exact h1 x hx
    · exact h2 x hx

theorem undef_ne_bool (b : Bool) : undef ≠ .bool b := by intro h; cases h
theorem dead_spec {T : List PV} (h : ∀ t, RepG w ok γ a (T.getD t .junk) (a.tmps.getD t undef)) : ∀ {c : Chain}, dead T c = true → ¬ holds a c
  | [], hd, _ => by simp [dead] at hd
  | (t, b) :: c, hd, hc => by
    have ht := hc (t, b) (by simp)
    have hr : ¬ dead T c = true := fun hd => dead_spec h hd fun x hx => hc x (by simp [hx])
    have hx : ∀ x : Bool, a.tmps.getD t undef = .bool x → (offB b x || dead T c) = true → False := by
      intro x hx hd
      simp only [] at ht
      rw [ht] at hx
      cases hx
      rw [Bool.or_eq_true] at hd
      rcases hd with hd | hd
      · cases b <;> simp [offB] at hd
      · exact hr hd
    unfold dead at hd
    have hh := h t
    split at hd
    · rename_i x hT
      rw [hT] at hh
      exact hx x hh.b_inv hd
    · rename_i ch x hT
      rw [hT] at hh
      rcases hh with ⟨_, hh⟩ | ⟨_, hh⟩
      · exact hx x hh.b_inv hd
      · simp only [] at ht
        rw [hh] at ht
        exact undef_ne_bool _ ht
    · exact hr hd
theorem contra_spec {c : Chain} (h : contra c = true) : ¬ holds a c := by
  unfold contra at h
  split at h
  · intro hc
    have h1 := hc (0, true) (by simp)
    have h2 := hc (0, false) (by simp)
    simp only [] at h1 h2
    rw [h1] at h2
    cases h2
  · simp at h
theorem deadG_spec {T : List PV} (h : ∀ t, RepG w ok γ a (T.getD t .junk) (a.tmps.getD t undef)) {c : Chain} (hd : deadG T c = true) : ¬ holds a c := by
  unfold deadG at hd
  split at hd
  · rename_i hc; exact contra_spec hc
  · exact dead_spec h hd

theorem put_getD (a : Act) (d t : Nat) (v : Value) : (a.put (some d) v).tmps.getD t undef = if t = d ∧ d < a.tmps.size then v else a.tmps.getD t undef := by
  simp only [Act.put, Array.getD_eq_getD_getElem?, Array.getElem?_setIfInBounds]
  by_cases h : d = t
  · subst h
    by_cases h' : d < a.tmps.size
    · simp [h']
    · simp [h', Array.getElem?_eq_none (Nat.le_of_not_lt h')]
  · have h' : t ≠ d := fun h' => h h'.symm
    simp [h, h']
theorem set_getD (T : List PV) (d t : Nat) (p : PV) : (T.set d p).getD t .junk = if t = d ∧ d < T.length then p else T.getD t .junk := by
  simp only [List.getD, List.getElem?_set]
  by_cases h : d = t
  · subst h
    by_cases h' : d < T.length
    · simp [h']
    · simp [h', List.getElem?_eq_none (Nat.le_of_not_lt h')]
  · have h' : t ≠ d := fun h' => h h'.symm
    simp [h, h']
theorem holds_put {dst : Option Nat} {v : Value} {c : Chain} (h : ∀ d, dst = some d → ∀ x ∈ c, x.1 ≠ d) : holds (a.put dst v) c ↔ holds a c := by
  cases dst with
  | none => exact Iff.rfl
  | some d =>
    unfold holds
    constructor <;> intro hc x hx <;> have := hc x hx <;> rw [put_getD] at * <;> simpa [h d rfl x hx] using this

theorem killTs_getD : ∀ (is : List Nat) (T : List PV) (t : Nat), (killTs is T).getD t .junk = killPs is (T.getD t .junk)
  | [], T, t => rfl
  | i :: is, T, t => by
    show (killTs is (T.map (killP i))).getD t .junk = killPs is (killP i (T.getD t .junk))
    rw [killTs_getD is]
    congr 1
    simp only [List.getD, List.getElem?_map]
    cases T[t]? <;> rfl
theorem killTs_len : ∀ (is : List Nat) (T : List PV), (killTs is T).length = T.length
  | [], T => rfl
  | i :: is, T => by
    show (killTs is (T.map (killP i))).length = _
    rw [killTs_len is]; simp
theorem killPs_or : ∀ (is : List Nat) (p : PV), (killPs is p = p ∧ ∀ i ∈ is, i ∉ p.ids) ∨ killPs is p = .junk
  | [], p => .inl ⟨rfl, fun i hi => by simp at hi⟩
  | i :: is, p => by
    show (killPs is (killP i p) = p ∧ _) ∨ killPs is (killP i p) = .junk
    by_cases hh : has p.ids i = true
    · right
      unfold killP
      rw [hh]
      exact killPs_junk is
    · have : killP i p = p := by unfold killP; simp [hh]
      rw [this]
      rcases killPs_or is p with ⟨h1, h2⟩ | h
      · refine .inl ⟨h1, fun j hj => ?_⟩
        rcases List.mem_cons.1 hj with rfl | hj
        · exact fun hm => hh ((has_iff _ _).2 hm)
        · exact h2 j hj
      · exact .inr h
theorem RepG.tr {w' : World} {ok' : Nat → Prop} {γ' : Nat → Option Value} {kl : List Nat} (tr : ∀ p u, Rep w ok γ p u → (∀ i, i ∈ kl → i ∉ p.ids) → Rep w' ok' γ' p u) {p : PV} {v : Value} (h : RepG w ok γ a p v) (hk : ∀ i, i ∈ kl → i ∉ p.ids) : RepG w' ok' γ' a p v := by
  cases p with
  | gd ch q =>
    rcases h with ⟨h1, h2⟩ | h
    · exact .inl ⟨h1, tr q v h2 hk⟩
    · exact .inr h
  | _ => exact RepG.of (tr _ v h hk)
theorem apply_eq (σ : St) (dst : Option Nat) (e : Eff) : σ.apply dst e = ⟨match dst with | some d => (killTs e.kl σ.T).set d e.p | none => killTs e.kl σ.T, applyH σ.H e⟩ := rfl
theorem killT_getD (is : List Nat) (T : List PV) (t : Nat) : (killTs is T).getD t .junk = T.getD t .junk ∨ (killTs is T).getD t .junk = .junk := by
  rw [killTs_getD]
  rcases killPs_or is (T.getD t .junk) with ⟨h, _⟩ | h
  · exact .inl h
  · exact .inr h
theorem killT_rep {is : List Nat} {T : List PV} {w' : World} {ok' : Nat → Prop} {γ' : Nat → Option Value} (tr : ∀ p u, Rep w ok γ p u → (∀ i, i ∈ is → i ∉ p.ids) → Rep w' ok' γ' p u)
    (h : ∀ t, RepG w ok γ a (T.getD t .junk) (a.tmps.getD t undef)) (t : Nat) : RepG w' ok' γ' a ((killTs is T).getD t .junk) (a.tmps.getD t undef) := by
  rw [killTs_getD]
  rcases killPs_or is (T.getD t .junk) with ⟨h1, h2⟩ | h1
  · rw [h1]
    exact (h t).tr tr h2
  · rw [h1]
    exact Rep.junk _

/-- After an operation: its temporary holds what it came to. -/
theorem TInv.put {dst : Option Nat} {e : Eff} {v : Value} {w' : World} {γ' : Nat → Option Value} (h : TInv g σ w γ a) (hp : Post g σ.H w γ e v w' γ') {done : List Nat} (hch : ChOk done σ.T) (hd : ∀ d, dst = some d → d ∉ done)
    {q : PV} (hq : RepG w' (okOf g w' γ') γ' (a.put dst v) q v) (hqc : ∀ ch r, q = .gd ch r → contra ch = true ∨ ∀ x ∈ ch, x.1 ∈ done) :
    SInv g (donesD dst done) (σ.apply dst { e with p := q }) (a.put dst v) w' := by
  have hH : applyH σ.H { e with p := q } = applyH σ.H e := rfl
  have hT := killT_rep hp.2.2.1 h.t
  have keep : ∀ t, RepG w' (okOf g w' γ') γ' (a.put dst v) ((killTs e.kl σ.T).getD t .junk) (a.tmps.getD t undef) := by
    intro t
    have ht := hT t
    rcases killT_getD e.kl σ.T t with hk | hk
    · rw [hk] at ht ⊢
      generalize hx : σ.T.getD t .junk = x at ht
      cases x with
      | gd ch r =>
        rcases hch t ch r hx with hc | hc
        · rcases ht with ⟨ht, _⟩ | ⟨_, ht⟩
          · exact absurd ht (contra_spec hc)
          · exact .inr ⟨contra_spec hc, ht⟩
        · have := holds_put (a := a) (v := v) (c := ch) (dst := dst) fun d hdd x hx he => hd d hdd (he ▸ hc x hx)
          rcases ht with ⟨ht, h2⟩ | ⟨ht, h2⟩
          · exact .inl ⟨this.2 ht, h2⟩
          · exact .inr ⟨fun hh => ht (this.1 hh), h2⟩
      | _ => exact ht
    · rw [hk]
      exact Rep.junk _
  rw [apply_eq, hH]
  cases dst with
  | none =>
    refine ⟨⟨γ', hp.1, keep, by simp only []; rw [killTs_len]; exact h.sz, h.df.loc hp.2.2.2⟩, fun t ch r ht => ?_⟩
    simp only [] at ht
    rcases killT_getD e.kl σ.T t with hk | hk
    · rw [hk] at ht; exact hch t ch r ht
    · rw [hk] at ht; simp at ht
  | some d =>
    refine ⟨⟨γ', hp.1, fun t => ?_, by simp [Act.put, killTs_len, h.sz], h.df.loc hp.2.2.2⟩, fun t ch r ht => ?_⟩
    · simp only []
      rw [set_getD, put_getD, killTs_len, h.sz]
      split
      · exact hq
      · exact keep t
    · simp only [] at ht
      rw [set_getD] at ht
      split at ht
      · rcases hqc ch r ht with hc | hc
        · exact .inl hc
        · exact .inr fun x hx => List.mem_cons_of_mem _ (hc x hx)
      · rcases killT_getD e.kl σ.T t with hk | hk
        · rw [hk] at ht
          rcases hch t ch r ht with hc | hc
          · exact .inl hc
          · exact .inr fun x hx => List.mem_cons_of_mem _ (hc x hx)
        · rw [hk] at ht; simp at ht

theorem pick_ok {o : Oper} {ct : Tmp} {x y : Operand} (ho : o.op = .pick (.tmp ct) x y) {H : Heap} (m : MInv g H w γ) {c p q r : PV} (hc : Rep w (okOf g w γ) γ c (a.eval (.tmp ct))) (hx : a.eval (.tmp ct) = .bool true → Rep w (okOf g w γ) γ p (a.eval x)) (hy : a.eval (.tmp ct) = .bool false → Rep w (okOf g w γ) γ q (a.eval y))
    (h : pickP c p q = some (true, r)) : OpOk g o a H w γ { p := r } := by
  have fin : ∀ b v, a.eval (.tmp ct) = .bool b → v = (if b then a.eval x else a.eval y) → Rep w (okOf g w γ) γ r v → OpOk g o a H w γ { p := r } := by
    intro b v hb hv hr
    refine OpOk.value (v := v) ?_ (Post.same m hr)
    simp only [execOp, ho, hb, hv]
    cases b <;> rfl
  cases c <;> simp only [pickP] at h <;> try (simp at h; done)
  rename_i b
  have hb := hc.b_inv
  cases p with
  | b u =>
    cases q with
    | b v =>
      obtain ⟨_, rfl⟩ := Prod.mk.inj (Option.some.inj h)
      cases b with
      | true => exact fin true _ hb rfl (by simpa using hx hb)
      | false => exact fin false _ hb rfl (by simpa using hy hb)
    | junk =>
      obtain ⟨h', rfl⟩ := Prod.mk.inj (Option.some.inj h)
      subst h'
      exact fin true _ hb rfl (by simpa using hx hb)
    | _ => simp at h
  | junk =>
    cases q with
    | b v =>
      obtain ⟨h', rfl⟩ := Prod.mk.inj (Option.some.inj h)
      rw [Bool.not_eq_true'] at h'
      subst h'
      exact fin false _ hb rfl (by simpa using hy hb)
    | _ => simp at h
  | _ => simp at h

theorem effC_ok (c : CxOk g.P C) (hgl : Same C g) (h : TInv g σ w γ a) {ch : Chain} (hc : holds a ch) {o : Oper} {e : Eff} (he : effC C σ.T σ.H ch o = some (true, e)) : OpOk g o a σ.H w γ e := by
  unfold effC at he
  split at he
  · rename_i ct x y ho
    split at he
    · rename_i cd p hp
      obtain ⟨rfl, rfl⟩ := Prod.mk.inj (Option.some.inj he)
      refine pick_ok ho h.m (opd_rep hc hgl h.m h.t _) (fun hb => opd_rep (holds_append.2 ⟨hc, ?_⟩) hgl h.m h.t _) (fun hb => opd_rep (holds_append.2 ⟨hc, ?_⟩) hgl h.m h.t _) hp
      · intro z hz; simp at hz; subst hz; exact hb
      · intro z hz; simp at hz; subst hz; exact hb
    · simp at he
  · exact effT_ok c hgl h.m (opd_rep hc hgl h.m h.t) he
theorem effC_defer {T : List PV} {H : Heap} {ch : Chain} {o : Oper} {x : Bool × Eff} (h : effC C T H ch o = some x) (c : Call) : o.op ≠ .defer c := by
  unfold effC at h
  split at h
  · rename_i hop
    intro hc
    rw [hop] at hc
    cases hc
  · exact effT_defer h c

theorem yielded_getD {ops : Array Oper} {j : Nat} {gt : Tmp} (hj : (ops[j]?).bind (·.dst) = some gt) (b : Bool) : yielded ops a.tmps j = some b ↔ a.tmps.getD gt undef = .bool b := by
  unfold yielded
  rw [hj]
  simp only [Option.bind_some, Array.getD_eq_getD_getElem?]
  cases h : a.tmps[gt]? with
  | none => simp; exact fun h => by cases h
  | some v => cases v <;> simp

def dones (o : Oper) (done : List Nat) : List Nat := donesD o.dst done
def guardOk (ops : Array Oper) (o : Oper) (done : List Nat) : Bool := match o.guard with
  | none => true
  | some (j, _) => match (ops[j]?).bind (·.dst) with
    | some gt => has done gt
    | none => false
def dstOk (o : Oper) (done : List Nat) : Bool := match o.dst with
  | none => true
  | some d => !has done d

theorem step_ok (c : CxOk g.P C) (hgl : Same C g) {ops : Array Oper} {o : Oper} {done : List Nat} (hs : SInv g done σ a w) (hg : guardOk ops o done = true) (hd : dstOk o done = true) {e : Eff} (he : effG C ops σ.T σ.H o = some (true, e))
    {r : Option Nat} {n : Nat} {next : Act → World → Prop} {Q : Exit → Act → World → Prop} (hn : ∀ a' w', SInv g (dones o done) (σ.apply o.dst e) a' w' → next a' w') :
    if Region.wanted o (yielded ops a.tmps) then o.wpIn (Fw r) n g.P a w next Q else next (a.put o.dst undef) w := by
  obtain ⟨⟨γ, h⟩, hch⟩ := hs
  have hd' : ∀ d, o.dst = some d → d ∉ done := by
    intro d hdd hm
    unfold dstOk at hd
    rw [hdd] at hd
    simp only [] at hd
    rw [(has_iff _ _).2 hm] at hd
    simp at hd
  have hdn : ∀ a' w', SInv g (donesD o.dst done) (σ.apply o.dst e) a' w' → next a' w' := hn
  unfold effG at he
  cases hgu : o.guard with
  | none =>
    rw [hgu] at he
    simp only [] at he
    have hw : Region.wanted o (yielded ops a.tmps) = true := by simp [Region.wanted, hgu]
    rw [if_pos hw]
    refine effC_ok c hgl h holds_nil he r n next Q (effC_defer he) fun v w' γ' hp => hdn _ _ ?_
    refine TInv.put h hp hch hd' (q := e.p) ?_ ?_
    · exact RepG.of hp.2.1
    · intro ch r hq
      have := hp.2.1
      rw [hq] at this
      cases this
  | some jw =>
    obtain ⟨j, want⟩ := jw
    rw [hgu] at he
    simp only [] at he
    unfold guardOk at hg
    rw [hgu] at hg
    simp only [] at hg
    cases hj : (ops[j]?).bind (·.dst) with
    | none => rw [hj] at hg; simp at hg
    | some gt =>
      rw [hj] at hg he
      simp only [] at hg he
      have hgd := (has_iff _ _).1 hg
      have hwant : Region.wanted o (yielded ops a.tmps) = true ↔ a.tmps.getD gt undef = .bool want := by
        rw [← yielded_getD hj]
        simp [Region.wanted, hgu]
      -- the guards of the guard
      have hgt : a.tmps.getD gt undef = .bool want → holds a (chainOf (σ.T.getD gt .junk)) := by
        intro hv
        have ht := h.t gt
        generalize σ.T.getD gt .junk = p at ht
        cases p with
        | gd ch q =>
          rcases ht with ⟨ht, _⟩ | ⟨_, ht⟩
          · exact ht
          · rw [hv] at ht; cases ht
        | _ => exact holds_nil
      have hchd : contra (chainOf (σ.T.getD gt .junk)) = true ∨ ∀ x ∈ chainOf (σ.T.getD gt .junk), x.1 ∈ done := by
        generalize hp : σ.T.getD gt .junk = p
        cases p with
        | gd ch q => exact hch gt ch q hp
        | _ => exact .inr fun x hx => by simp [chainOf] at hx
      generalize hcc : chainOf (σ.T.getD gt .junk) ++ [(gt, want)] = cc at he
      have hcc1 : a.tmps.getD gt undef = .bool want → holds a cc := by
        intro hv
        rw [← hcc]
        exact holds_append.2 ⟨hgt hv, fun x hx => by simp at hx; subst hx; exact hv⟩
      have hcc2 : contra cc = true ∨ ∀ x ∈ cc, x.1 ∈ done := by
        rw [← hcc]
        rcases hchd with hk | hk
        · left
          generalize chainOf (σ.T.getD gt .junk) = l at hk
          unfold contra at hk
          split at hk
          · rfl
          · simp at hk
        · right
          intro x hx
          rcases List.mem_append.1 hx with hx | hx
          · exact hk x hx
          · simp at hx; subst hx; exact hgd
      have hcc3 : (gt, want) ∈ cc := by rw [← hcc]; simp
      have hput : ∀ v, holds (a.put o.dst v) cc → a.tmps.getD gt undef = .bool want := by
        intro v hh
        have := hh _ hcc3
        cases hdst : o.dst with
        | none => rw [hdst] at this; exact this
        | some d =>
          rw [hdst, put_getD] at this
          simp only [] at this
          have hne : gt ≠ d := fun he => hd' d hdst (he ▸ hgd)
          simpa [hne] using this
      split at he
      · rename_i cd p fp hp
        obtain ⟨hcd, rfl⟩ := Prod.mk.inj (Option.some.inj he)
        by_cases hw : Region.wanted o (yielded ops a.tmps) = true
        · rw [if_pos hw]
          have hhc := hcc1 (hwant.1 hw)
          rw [Bool.or_eq_true] at hcd
          have hcd : cd = true := hcd.resolve_right fun hdead => deadG_spec h.t hdead hhc
          subst hcd
          refine effC_ok c hgl h hhc hp r n next Q (effC_defer hp) fun v w' γ' hpost => hdn _ _ ?_
          refine TInv.put (e := { p := p, fp := fp }) h hpost hch hd' (q := .gd cc p) ?_ ?_
          · refine .inl ⟨?_, hpost.2.1⟩
            rcases hcc2 with hk | hk
            · exact absurd hhc (contra_spec hk)
            · exact (holds_put fun d hdd x hx he => hd' d hdd (he ▸ hk x hx)).2 hhc
          · intro ch r hq
            cases hq
            exact hcc2
        · rw [if_neg hw]
          refine hdn _ _ ?_
          refine TInv.put (e := { p := .junk, fp := fp }) h (Post.same h.m (.junk undef)) hch hd' (q := .gd cc p) ?_ ?_
          · exact .inr ⟨fun hh => hw (hwant.2 (hput _ hh)), rfl⟩
          · intro ch r hq
            cases hq
            exact hcc2
      · obtain ⟨hdead, rfl⟩ := Prod.mk.inj (Option.some.inj he)
        have hnw : ¬ Region.wanted o (yielded ops a.tmps) = true := fun hw => deadG_spec h.t hdead (hcc1 (hwant.1 hw))
        rw [if_neg hnw]
        refine hdn _ _ ?_
        refine TInv.put (e := { p := .junk, fp := List.range σ.H.length }) h (Post.same h.m (.junk undef)) hch hd' (q := deadP) ?_ ?_
        · exact .inr ⟨contra_spec rfl, rfl⟩
        · intro ch r hq
          cases hq
          exact .inl rfl

/-- May a region's operations be taken in their order? -/
def regOk (ops : Array Oper) : List Oper → List Nat → Bool
  | [], _ => true
  | o :: l, done => guardOk ops o done && dstOk o done && regOk ops l (dones o done)
theorem evOps_cons {ρ : Type} {ops : Array Oper} {o : Oper} {l : List Oper} {σ : St} {k : St → Option ρ} {x : ρ} (h : evOps C ops (o :: l) σ k = some x) : ∃ e, effG C ops σ.T σ.H o = some (true, e) ∧ evOps C ops l (σ.apply o.dst e) k = some x := by
  unfold evOps at h
  cases he : effG C ops σ.T σ.H o with
  | none => rw [he] at h; simp at h
  | some ce =>
    obtain ⟨cd, e⟩ := ce
    rw [he] at h
    cases cd with
    | true => exact ⟨e, rfl, h⟩
    | false => simp at h
theorem ops_ok {ρ : Type} (c : CxOk g.P C) (hgl : Same C g) {ops : Array Oper} {Q : Exit → Act → World → Prop} {k : St → Option ρ} {x : ρ} {r : Option Nat} {n : Nat} : ∀ (l : List Oper) (done : List Nat) (σ : St) (a : Act) (w : World), regOk ops l done = true → SInv g done σ a w → evOps C ops l σ k = some x →
    (∀ σ' a' w' done', SInv g done' σ' a' w' → σ'.T.length = σ.T.length → σ'.H.length = σ.H.length → k σ' = some x → Q .normal a' w') → wpListIn (Fw r) n g.P ops Q l a w
  | [], done, σ, a, w, hr, hs, he, hq => hq σ a w done hs rfl rfl he
  | o :: l, done, σ, a, w, hr, hs, he, hq => by
    simp only [regOk, Bool.and_eq_true] at hr
    obtain ⟨e, hg, he⟩ := evOps_cons he
    have hT : (σ.apply o.dst e).T.length = σ.T.length := by
      rw [apply_eq]
      cases o.dst <;> simp [killTs_len]
    have hH : (σ.apply o.dst e).H.length = σ.H.length := by
      show (setHs e.hu (killHs e.kl σ.H)).length = _
      rw [setHs_len, killHs_len]
    have := step_ok c hgl hs hr.1.1 hr.1.2 hg (r := r) (n := n) (next := wpListIn (Fw r) n g.P ops Q l) (Q := Q) fun a' w' hs' => ops_ok c hgl l _ _ a' w' hr.2 hs' he fun σ' a'' w'' d'' h1 h2 h3 h4 => hq σ' a'' w'' d'' h1 (h2.trans hT) (h3.trans hH) h4
    unfold wpListIn
    split
    · rename_i hw
      rw [if_pos hw] at this
      exact this
    · rename_i hw
      rw [if_neg hw] at this
      exact ⟨fun _ _ => trivial, this⟩
end

end Go.Proofs.Ytklgaodfakdjpaa.Ev
/- What an operation comes to hangs on what it looks at alone; operations that lie apart may be taken in either order. -/
namespace Go.Proofs.Ytklgaodfakdjpaa.Ev
open Go Go.RowKit

section
variable {C : Cx} {o : Oper}

/-- The same operands, the same effect. -/
theorem eff_congrT {T T' : List PV} {H : Heap} {c : Chain} (h : ∀ x ∈ o.op.operands.toList, opd C.gl T' c x = opd C.gl T c x) : eff C T' H c o = eff C T H c o := by
  generalize hr : opd C.gl T c = r at h
  generalize hr' : opd C.gl T' c = r' at h
  have hm : ∀ {as : Array Operand}, (∀ x ∈ as.toList, r' x = r x) → as.toList.map r' = as.toList.map r := fun h => List.map_congr_left h
  have hp : ∀ {ps : Array (Nat × Operand)}, (∀ x ∈ (ps.map (·.2)).toList, r' x = r x) → (ps.toList.map fun (i, x) => (i, r' x)) = ps.toList.map fun (i, x) => (i, r x) := by
    intro ps h
    refine List.map_congr_left fun x hx => ?_
    simp only [Prod.mk.injEq, true_and]
    exact h _ (by simp only [Array.toList_map, List.mem_map]; exact ⟨x, hx, rfl⟩)
  cases hop : o.op <;> rw [hop] at h <;> simp only [Op.operands] at h
  case call cl =>
    obtain ⟨cal, as, ts⟩ := cl
    cases cal with
    | builtin b =>
      simp only [Call.operands] at h
      have := hm (as := as) fun x hx => h x (by simpa using hx)
      simp only [eff, hop, hr, hr', this]
    | value f => simp only [eff, hop]
    | invoke x nm => simp only [eff, hop]
  case build t parts =>
    have := hp (ps := parts) fun x hx => h x (by simpa using hx)
    simp only [eff, hop, hr, hr', this]
  case buildSlice t len parts =>
    have := hp (ps := parts) fun x hx => h x (by simpa using hx)
    simp only [eff, hop, hr, hr', this]
  case makeFunc f fs cs =>
    have h1 := hm (as := fs) fun x hx => h x (by simp at hx ⊢; exact .inl hx)
    have h2 := hm (as := cs) fun x hx => h x (by simp at hx ⊢; exact .inr hx)
    simp only [eff, hop, hr, hr', h1, h2]
  case slice t x lo hi mx =>
    cases lo <;> cases hi <;> cases mx <;> simp only [eff, hop, hr, hr']
    rw [h x (by simp), h _ (by simp)]
  case typeAssert x s t ok =>
    cases ok <;> simp only [eff, hop, hr, hr']
    rw [h x (by simp)]
  case move x => simp only [eff, hop, hr, hr', h x (by simp)]
  case assign x => simp only [eff, hop, hr, hr', h x (by simp)]
  case box t x => simp only [eff, hop, hr, hr', h x (by simp)]
  case load t x => simp only [eff, hop, hr, hr', h x (by simp)]
  case store t x y => simp only [eff, hop, hr, hr', h x (by simp), h y (by simp)]
  case nilCheck x => simp only [eff, hop, hr, hr', h x (by simp)]
  case binOp op t x y t' => simp only [eff, hop, hr, hr', h x (by simp), h y (by simp)]
  case unOp op t x => simp only [eff, hop, hr, hr', h x (by simp)]
  case convert u t x => simp only [eff, hop, hr, hr', h x (by simp)]
  case makeInterface t x => simp only [eff, hop, hr, hr', h x (by simp)]
  case fieldAddr t x f => simp only [eff, hop, hr, hr', h x (by simp)]
  case field t x f => simp only [eff, hop, hr, hr', h x (by simp)]
  case indexAddr t x i => simp only [eff, hop, hr, hr', h x (by simp), h i (by simp)]
  case index t x i => simp only [eff, hop, hr, hr', h x (by simp), h i (by simp)]
  case extract x n => simp only [eff, hop, hr, hr', h x (by simp)]
  all_goals simp only [eff, hop]

theorem made_local {H H' : Heap} {i : Nat} {b : Blk} {p : PV} {e : Eff} (h : made H i b p = some e) (hl : H'.length = H.length) (hf : ∀ i ∈ e.fp, look H' i = look H i) : made H' i b p = some e := by
  unfold made at h ⊢
  rw [hl]
  split at h
  · rename_i hb
    obtain rfl := Option.some.inj h
    have := hf i (by simp)
    simp only [stale, this]
  · simp at h
theorem look_ge {H : Heap} {i : Nat} (h : H.length ≤ i) : look H i = none := by
  unfold look
  simp [List.getD, List.getElem?_eq_none h]
theorem look_all {H H' : Heap} (hl : H'.length = H.length) (hf : ∀ i ∈ List.range H.length, look H' i = look H i) (i : Nat) : look H' i = look H i := by
  rcases Nat.lt_or_ge i H.length with h | h
  · exact hf i (by simpa using h)
  · rw [look_ge h, look_ge (by omega)]
theorem borrow_congr {H H' : Heap} (hf : ∀ i, look H' i = look H i) : ∀ (n : Nat), borrow n H' = borrow n H
  | 0 => by funext p; rfl
  | n + 1 => by
    funext p
    unfold borrow
    rw [borrow_congr hf n]
    simp only [hf]
theorem heap_eq {H H' : Heap} (hl : H'.length = H.length) (hf : ∀ i ∈ List.range H.length, look H' i = look H i) : H' = H := by
  refine List.ext_getElem? fun i => ?_
  have := look_all hl hf i
  unfold look at this
  rcases Nat.lt_or_ge i H.length with h | h
  · have h' : i < H'.length := by omega
    simp only [List.getD, List.getElem?_eq_getElem h, List.getElem?_eq_getElem h', Option.getD_some] at this
    rw [List.getElem?_eq_getElem h, List.getElem?_eq_getElem h', this]
  · rw [List.getElem?_eq_none h, List.getElem?_eq_none (by omega)]
theorem callM_fp {H : Heap} {dst : Option Nat} {F : ObjF} {ms kl : List Nat} {hu : List (Nat × Option Blk)} {bor : Bool} {ps : List PV} {b : Bool} {e : Eff} (h : callM H dst F ms kl hu bor ps = some (b, e)) : e.fp = List.range H.length := by
  unfold callM at h
  split at h
  · split at h
    · obtain ⟨_, rfl⟩ := Prod.mk.inj (Option.some.inj h)
      rfl
    · simp at h
  · simp at h
theorem callO_fp {H : Heap} {dst : Option Nat} {mode : Nat} {F : ObjF} {ps : List PV} {b : Bool} {e : Eff} (h : callO H dst mode F ps = some (b, e)) : e.fp = List.range H.length := by
  unfold callO at h
  split at h
  · rw [callM_fp h, dropH_len]
  · exact callM_fp h
  · exact callM_fp h
theorem callG_fp {H : Heap} {dst : Option Nat} {F : ObjF} {ps : List PV} {b : Bool} {e : Eff} (h : callG H dst F ps = some (b, e)) : e.fp = List.range H.length := by
  unfold callG at h
  split at h
  · rename_i hc
    split at h
    · obtain ⟨_, rfl⟩ := Prod.mk.inj (Option.some.inj h)
      have := callO_fp hc
      exact this
    · simp at h
  · simp at h
theorem callT_local {H H' : Heap} {c : Chain} {dst : Option Nat} {f : FuncId} {ps : List PV} {b : Bool} {e : Eff} (h : callT C H c dst f ps = some (b, e)) (hl : H'.length = H.length) (hf : ∀ i ∈ e.fp, look H' i = look H i) : callT C H' c dst f ps = some (b, e) := by
  unfold callT at h ⊢
  split at h
  · rename_i mode F hO
    split at h
    · rw [callO_fp h] at hf
      rw [heap_eq hl hf]
      exact h
    · split at h
      · rw [callG_fp h] at hf
        rw [heap_eq hl hf]
        exact h
      · simp at h
  · rename_i hO
    split at h
    · rename_i hn
      split at h
      · rename_i hno
        split at h
        · rename_i cd r hG
          obtain ⟨_, rfl⟩ := Prod.mk.inj (Option.some.inj h)
          rw [heap_eq hl hf, hno]
          simp only [hG]
          exact h
        · simp at h
      · simp at h
    · rename_i hn
      split at h
      · exact h
      · rename_i hids
        split at h
        · rename_i cd r hG
          split at h
          · rename_i hs
            obtain ⟨_, rfl⟩ := Prod.mk.inj (Option.some.inj h)
            rw [borrow_congr (look_all hl hf) 8, hG]
            simp only [hs, hl]
            exact h
          · simp at h
        · simp at h
theorem callB_local {H H' : Heap} {dst : Option Nat} {b : Go.Builtin} {ts : List TypeId} {ps : List PV} {e : Eff} (h : callB C H dst b ts ps = some e) (hl : H'.length = H.length) (hf : ∀ i ∈ e.fp, look H' i = look H i) : callB C H' dst b ts ps = some e := by
  unfold callB at h ⊢
  split at h
  · simp only [] at h ⊢
    split at h
    · split at h
      · split at h
        · exact h
        · exact h
        · exact h
        · exact h
        · rename_i i
          split at h
          · rename_i hlk
            obtain rfl := Option.some.inj h
            simp only [hf i (by simp), hlk]
          · simp at h
        · simp at h
      · exact h
      · simp at h
    · simp at h
  · exact h
  · exact h
  · rename_i i src
    have key : look H' i = look H i ∧ ∀ j, src = .own j → look H' j = look H j := by
      split at h
      · split at h
        · split at h
          · split at h
            · split at h
              · obtain rfl := Option.some.inj h
                exact ⟨hf i (by simp), fun j hj => by cases hj⟩
              · simp at h
            · simp at h
          · split at h
            · split at h
              · obtain rfl := Option.some.inj h
                exact ⟨hf i (by simp), fun j hj => by cases hj⟩
              · simp at h
            · simp at h
          · split at h
            · split at h
              · split at h
                · obtain rfl := Option.some.inj h
                  exact ⟨hf i (by simp), fun j hj => by cases hj; exact hf _ (by simp)⟩
                · simp at h
              · simp at h
            · simp at h
          · obtain rfl := Option.some.inj h
            exact ⟨hf i (by simp), fun j hj => by cases hj⟩
          · simp at h
        · simp at h
      · simp at h
    rw [key.1]
    split at h
    · rename_i T e' xs t t' hlk
      split at h
      · rename_i htt ht
        split at h
        · exact h
        · exact h
        · rename_i j hee
          rw [key.2 j rfl]
          exact h
        · exact h
        · simp at h
      · simp at h
    · simp at h
  · split at h
    · split at h
      · split at h
        · split at h
          · split at h
            · split at h
              · split at h
                · rename_i hb
                  simp only [*, dif_pos]
                  exact made_local h hl hf
                · simp at h
              · simp at h
            · simp at h
          · simp at h
        · simp at h
      · simp at h
    · simp at h
  · simp at h

theorem eff_local {T : List PV} {H H' : Heap} {c : Chain} {e : Eff} (h : eff C T H c o = some e) (hl : H'.length = H.length) (hf : ∀ i ∈ e.fp, look H' i = look H i) : eff C T H' c o = some e := by
  cases hop : o.op
  case assign x =>
    simp only [eff, hop] at h ⊢
    split at h
    · split at h
      · split at h
        · rename_i hx h1 _ _ _ h2 _ T' h3
          exact made_local h hl hf
        · simp at h
      · simp at h
    · exact h
  case alloc t =>
    simp only [eff, hop] at h ⊢
    split at h
    · cases hb : has C.ows (lid o.dst) with
      | true => rw [hb] at h; exact made_local h hl hf
      | false => rw [hb] at h; exact made_local h hl hf
    · simp at h
  case box t x =>
    simp only [eff, hop] at h ⊢
    cases hone : (opd C.gl T c x).flat.all PV.one with
    | false => rw [hone] at h; simp at h
    | true =>
      rw [hone] at h
      simp only [] at h ⊢
      cases hb : has C.bxs (lid o.dst) with
      | false => rw [hb] at h; exact h
      | true =>
        rw [hb] at h
        cases c with
        | cons y ys => simp at h
        | nil =>
          cases hst : stale H (lid o.dst) with
          | cons j js => rw [hst] at h; simp at h
          | nil =>
            rw [hst] at h
            simp only [] at h
            have hm := made_local h hl hf
            have : stale H' (lid o.dst) = [] := by
              have hfp : lid o.dst ∈ e.fp := by
                unfold made at h
                split at h
                · obtain rfl := Option.some.inj h; simp
                · simp at h
              unfold stale
              rw [hf _ hfp]
              exact hst
            rw [this]
            exact hm
  case buildSlice t len parts =>
    simp only [eff, hop] at h ⊢
    split at h
    · split at h
      · split at h
        · split at h
          · split at h
            · exact made_local h hl hf
            · simp at h
            · exact h
          · simp at h
        · simp at h
      · simp at h
    · simp at h
  case load t x =>
    simp only [eff, hop] at h ⊢
    split at h
    · split at h
      · exact h
      · rename_i i off hx
        have key : look H' i = look H i := by
          split at h
          · split at h
            · obtain rfl := Option.some.inj h
              exact hf i (by simp)
            · simp at h
          · simp at h
        rw [key]
        exact h
      · rename_i i T' ix off hx
        have key : look H' i = look H i := by
          split at h
          · split at h
            · split at h
              · split at h
                · obtain rfl := Option.some.inj h
                  exact hf i (by simp)
                · simp at h
              · simp at h
            · simp at h
          · simp at h
        rw [key]
        exact h
      · simp at h
    · simp at h
  case store t x y =>
    simp only [eff, hop] at h ⊢
    split at h
    · simp at h
    · simp at h
    · split at h
      · rename_i i off hx
        have key : look H' i = look H i := by
          split at h
          · split at h
            · obtain rfl := Option.some.inj h
              exact hf i (by simp)
            · simp at h
          · simp at h
        rw [key]
        exact h
      · rename_i i T' ix off hx
        have key : look H' i = look H i := by
          split at h
          · split at h
            · split at h
              · split at h
                · split at h
                  · obtain rfl := Option.some.inj h
                    exact hf i (by simp)
                  · simp at h
                · simp at h
              · simp at h
            · simp at h
          · simp at h
        rw [key]
        exact h
      · simp at h
  case indexAddr t x i =>
    simp only [eff, hop] at h ⊢
    split at h
    · split at h
      · exact h
      · rename_i j hx
        have key : look H' j = look H j := by
          split at h
          · split at h
            · split at h
              · obtain rfl := Option.some.inj h
                exact hf j (by simp)
              · simp at h
            · simp at h
          · simp at h
        rw [key]
        exact h
      · simp at h
    · exact h
    · simp at h
  case call cl =>
    obtain ⟨cal, as, ts⟩ := cl
    cases cal with
    | builtin b =>
      simp only [eff, hop] at h ⊢
      split at h
      · simp at h
      · exact callB_local h hl hf
    | value f => simp [eff, hop] at h
    | invoke x nm => simp [eff, hop] at h
  case slice t x lo hi mx =>
    cases lo <;> cases hi <;> cases mx <;> simp only [eff, hop] at h ⊢ <;> exact h
  case typeAssert x s t ok =>
    cases ok <;> simp only [eff, hop] at h ⊢ <;> exact h
  all_goals (simp only [eff, hop] at h ⊢; first | exact h | (simp at h; done))

/-- The same of what is looked up whole. -/
theorem effT_congrT {T T' : List PV} {H : Heap} {c : Chain} (h : ∀ x ∈ o.op.operands.toList, opd C.gl T' c x = opd C.gl T c x) : effT C T' H c o = effT C T H c o := by
  have he := eff_congrT (H := H) h
  generalize hr : opd C.gl T c = r at h
  generalize hr' : opd C.gl T' c = r' at h
  have hm : ∀ {as : Array Operand}, (∀ x ∈ as.toList, r' x = r x) → as.toList.map r' = as.toList.map r := fun h => List.map_congr_left h
  cases hop : o.op <;> rw [hop] at h <;> simp only [Op.operands] at h
  case call cl =>
    obtain ⟨cal, as, ts⟩ := cl
    cases cal with
    | builtin b =>
      simp only [Call.operands] at h
      have := hm (as := as) fun x hx => h x (by simpa using hx)
      cases b <;> simp only [effT, hop, hr, hr', this, he]
    | value f =>
      simp only [Call.operands] at h
      have := hm (as := as) fun x hx => h x (by simp at hx ⊢; exact .inr hx)
      simp only [effT, hop, hr, hr', this, h f (by simp)]
    | invoke x nm =>
      simp only [Call.operands] at h
      have := hm (as := as) fun x hx => h x (by simp at hx ⊢; exact .inr hx)
      simp only [effT, hop, hr, hr', this, h x (by simp)]
  case slice t x lo hi mx =>
    cases lo <;> cases hi <;> cases mx <;> simp only [effT, hop, hr, hr', he]
    rw [h x (by simp), h _ (by simp)]
  case load t x => simp only [effT, hop, hr, hr', he, h x (by simp)]
  case store t x y => simp only [effT, hop, hr, hr', he, h x (by simp), h y (by simp)]
  case binOp op t x y t' => simp only [effT, hop, hr, hr', he, h x (by simp), h y (by simp)]
  case indexAddr t x i => simp only [effT, hop, hr, hr', he, h x (by simp), h i (by simp)]
  case index t x i => simp only [effT, hop, hr, hr', he, h x (by simp), h i (by simp)]
  all_goals simp only [effT, hop, he]
theorem sure_local {T : List PV} {H H' : Heap} {c : Chain} {b : Bool} {e : Eff} (h : sure (eff C T H c o) = some (b, e)) (hl : H'.length = H.length) (hf : ∀ i ∈ e.fp, look H' i = look H i) : sure (eff C T H' c o) = some (b, e) := by
  have hs := sure_some h
  rw [eff_local hs hl hf]
  rw [hs] at h
  exact h
theorem effT_local {T : List PV} {H H' : Heap} {c : Chain} {b : Bool} {e : Eff} (h : effT C T H c o = some (b, e)) (hl : H'.length = H.length) (hf : ∀ i ∈ e.fp, look H' i = look H i) : effT C T H' c o = some (b, e) := by
  cases hop : o.op
  case call cl =>
    obtain ⟨cal, as, ts⟩ := cl
    cases cal with
    | builtin bb =>
      cases bb
      case append =>
        simp only [effT, hop] at h ⊢
        split at h
        · simp at h
        · split at h
          · rename_i i T' ys t t' has hts
            have key : look H' i = look H i := by
              split at h
              · split at h
                · split at h
                  · obtain ⟨_, rfl⟩ := Prod.mk.inj (Option.some.inj h)
                    exact hf i (by simp)
                  · simp at h
                · simp at h
              · simp at h
            rw [key]
            exact h
          · rename_i i T' ys t t' has hts
            have key : look H' i = look H i := by
              split at h
              · split at h
                · split at h
                  · obtain ⟨_, rfl⟩ := Prod.mk.inj (Option.some.inj h)
                    exact hf i (by simp)
                  · simp at h
                · simp at h
              · simp at h
            rw [key]
            exact h
          · exact sure_local h hl hf
      all_goals (simp only [effT, hop] at h ⊢; exact sure_local h hl hf)
    | value f =>
      simp only [effT, hop] at h ⊢
      split at h
      · exact callT_local h hl hf
      · rename_i j hj
        split at h
        · rename_i F hY
          split at h
          · rename_i lb hlk
            split at h
            · rename_i hids hj8 hti
              have hfp := callM_fp h
              rw [hfp] at hf
              rw [heap_eq hl hf, hlk]
              simp only [hids, hj8, hti]
              exact h
            · simp at h
          · simp at h
        · simp at h
      · simp at h
    | invoke x nm =>
      simp only [effT, hop] at h ⊢
      split at h
      · split at h
        · exact callT_local h hl hf
        · simp at h
      · simp at h
  case slice t x lo hi mx =>
    cases lo <;> cases hi <;> cases mx <;> simp only [effT, hop] at h ⊢ <;> first | exact sure_local h hl hf | exact h
  case load t x =>
    simp only [effT, hop] at h ⊢
    split at h
    · rename_i i T' ix off hx
      split at h
      · rename_i ti ht
        have key : look H' i = look H i := by
          split at h
          · split at h
            · split at h
              · obtain ⟨_, rfl⟩ := Prod.mk.inj (Option.some.inj h)
                exact hf i (by simp)
              · simp at h
            · simp at h
          · simp at h
        rw [key]
        exact h
      · simp at h
    · exact sure_local h hl hf
  case store t x y =>
    simp only [effT, hop] at h ⊢
    split at h
    · rename_i i T' ix off hx
      split at h
      · simp at h
      · simp at h
      · have key : look H' i = look H i := by
          split at h
          · split at h
            · split at h
              · split at h
                · obtain ⟨_, rfl⟩ := Prod.mk.inj (Option.some.inj h)
                  exact hf i (by simp)
                · simp at h
              · simp at h
            · simp at h
          · simp at h
        rw [key]
        exact h
    · exact sure_local h hl hf
  case indexAddr t x i =>
    simp only [effT, hop] at h ⊢
    split at h
    · exact h
    · rename_i j hx
      split at h
      · have key : look H' j = look H j := by
          split at h
          · split at h
            · obtain ⟨_, rfl⟩ := Prod.mk.inj (Option.some.inj h)
              exact hf j (by simp)
            · simp at h
          · simp at h
        rw [key]
        exact h
      · simp at h
    · exact sure_local h hl hf
  case index t x i =>
    simp only [effT, hop] at h ⊢
    split at h
    · exact h
    · exact sure_local h hl hf
  case binOp op t x y t' =>
    simp only [effT, hop] at h ⊢
    split at h
    · exact h
    · exact h
    · exact sure_local h hl hf
  all_goals (simp only [effT, hop] at h ⊢; exact sure_local h hl hf)
end

end Go.Proofs.Ytklgaodfakdjpaa.Ev
