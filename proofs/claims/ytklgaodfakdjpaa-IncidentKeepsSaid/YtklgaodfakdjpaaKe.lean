/- Regions that draw their order. -/
import Derived.Test.YtklgaodfakdjpaaKd
import Derived.LoopN
import Derived.Scope
import Derived.ControlIn
import Derived.RangeFuncLeaves
import Derived.RangeFuncRecord
set_option linter.unusedVariables false
set_option linter.unusedSimpArgs false
namespace Go.Proofs.Ytklgaodfakdjpaa.Ev
open Go Go.RowKit

section
variable {C : Cx} {o : Oper} {ops : Array Oper}

theorem looks_op {x : Tmp} (h : Operand.tmp x ∈ o.op.operands.toList) : x ∈ o.looksAt ops := by
  unfold Oper.looksAt
  rw [List.mem_append]
  left
  rw [List.mem_filterMap]
  exact ⟨_, h, rfl⟩
theorem effC_local {T T' : List PV} {H H' : Heap} {c : Chain} {b : Bool} {e : Eff} (hT : ∀ t ∈ o.looksAt ops, T'.getD t .junk = T.getD t .junk) (h : effC C T H c o = some (b, e)) (hl : H'.length = H.length) (hf : ∀ i ∈ e.fp, look H' i = look H i) : effC C T' H' c o = some (b, e) := by
  have ho : ∀ c, ∀ x ∈ o.op.operands.toList, opd C.gl T' c x = opd C.gl T c x := by
    intro c x hx
    cases x with
    | tmp t => simp only [opd]; rw [hT t (looks_op hx)]
    | const v => rfl
    | global g => rfl
    | func f => rfl
  unfold effC at h ⊢
  split at h
  · rename_i ct a b hop
    have hx : ∀ x, x ∈ [Operand.tmp ct, a, b] → x ∈ o.op.operands.toList := by intro x hx; rw [hop]; simpa [Op.operands] using hx
    rw [ho _ _ (hx _ (by simp)), ho _ _ (hx a (by simp)), ho _ _ (hx b (by simp))]
    exact h
  · rw [effT_congrT (ho c)]
    exact effT_local h hl hf
theorem effC_same {T T' : List PV} {H H' : Heap} {c : Chain} (hT : ∀ t ∈ o.looksAt ops, T'.getD t .junk = T.getD t .junk) (hl : H'.length = H.length) (hf : ∀ i, look H' i = look H i) : effC C T' H' c o = effC C T H c o := by
  cases h : effC C T H c o with
  | some x => obtain ⟨b, e⟩ := x; exact effC_local hT h hl fun i _ => hf i
  | none =>
    cases h' : effC C T' H' c o with
    | none => rfl
    | some x =>
      obtain ⟨b, e⟩ := x
      have := effC_local (T' := T) (H' := H) (fun t ht => (hT t ht).symm) h' hl.symm fun i _ => (hf i).symm
      rw [h] at this
      simp at this
theorem dead_local {T T' : List PV} : ∀ {c : Chain}, (∀ x ∈ c, T'.getD x.1 .junk = T.getD x.1 .junk) → dead T' c = dead T c
  | [], _ => rfl
  | (t, b) :: c, h => by
    unfold dead
    rw [h (t, b) (by simp), dead_local fun x hx => h x (by simp [hx])]
theorem deadG_local {T T' : List PV} {c : Chain} (h : ∀ x ∈ c, T'.getD x.1 .junk = T.getD x.1 .junk) : deadG T' c = deadG T c := by
  unfold deadG
  rw [dead_local h]
theorem effG_local {T T' : List PV} {H H' : Heap} {b : Bool} {e : Eff} (hT : ∀ t ∈ rds ops T o, T'.getD t .junk = T.getD t .junk) (h : effG C ops T H o = some (b, e)) (hl : H'.length = H.length) (hf : ∀ i ∈ e.fp, look H' i = look H i) :
    effG C ops T' H' o = some (b, e) ∧ rds ops T' o = rds ops T o := by
  have hlo : ∀ t ∈ o.looksAt ops, T'.getD t .junk = T.getD t .junk := fun t ht => hT t (by unfold rds; simp [ht])
  unfold effG at h ⊢
  cases hg : o.guard with
  | none =>
    rw [hg] at h
    exact ⟨effC_local hlo h hl hf, by simp [rds, hg]⟩
  | some jw =>
    obtain ⟨j, want⟩ := jw
    rw [hg] at h
    simp only [] at h ⊢
    cases hj : (ops[j]?).bind (·.dst) with
    | none => rw [hj] at h; simp at h
    | some gt =>
      rw [hj] at h
      simp only [] at h ⊢
      have hgt : T'.getD gt .junk = T.getD gt .junk := hlo gt (by unfold Oper.looksAt; simp [hg, hj])
      rw [hgt]
      have hch : ∀ x ∈ chainOf (T.getD gt .junk) ++ [(gt, want)], T'.getD x.1 .junk = T.getD x.1 .junk := by
        intro x hx
        rcases List.mem_append.1 hx with hx | hx
        · exact hT _ (by unfold rds; simp only [hg, hj, List.mem_append, List.mem_map]; exact .inr ⟨x, hx, rfl⟩)
        · simp at hx; subst hx; exact hgt
      refine ⟨?_, by simp [rds, hg, hj]; rw [← List.getD_eq_getElem?_getD, ← List.getD_eq_getElem?_getD, hgt]⟩
      rw [deadG_local hch]
      split at h
      · rename_i cd p fp hp
        obtain ⟨h1, rfl⟩ := Prod.mk.inj (Option.some.inj h)
        rw [effC_local hlo hp hl hf]
        simp only [h1]
      · rename_i hne
        obtain ⟨h1, rfl⟩ := Prod.mk.inj (Option.some.inj h)
        rw [effC_same hlo hl (look_all hl hf)]
        split
        · rename_i cd p fp hp
          exact absurd hp (hne cd p fp)
        · rw [hl, h1]

/-- A run of operations, with their effects. -/
def Tr (C : Cx) (ops : Array Oper) : List El → St → St → Prop
  | [], σ, σ' => σ = σ'
  | x :: l, σ, σ' => ∃ o, ops[x.i]? = some o ∧ x.d = o.dst ∧ x.r = rds ops σ.T o ∧ effG C ops σ.T σ.H o = some (true, x.e) ∧ x.q = rdQ ops σ.T σ.H o x.e ∧ Tr C ops l (σ.apply o.dst x.e) σ'

theorem hasO_not {l : List Nat} {d : Nat} (h : hasO l (some d) = false) : d ∉ l := fun hm => by
  have h : has l d = false := h
  rw [(has_iff _ _).2 hm] at h
  simp at h
theorem small_spec {e : Eff} (h : small e = true) : e.kl = [] ∧ ((e.hu = [] ∧ huOf e = none) ∨ ∃ i b, e.hu = [(i, b)] ∧ huOf e = some i) := by
  unfold small at h
  split at h
  · rename_i h1 h2
    exact ⟨h2, .inl ⟨h1, by unfold huOf; rw [h1]⟩⟩
  · rename_i x h1 h2
    obtain ⟨i, b⟩ := x
    exact ⟨h2, .inr ⟨i, b, h1, by unfold huOf; rw [h1]⟩⟩
  · simp at h
theorem kil_spec {e : Eff} (h : kil e = true) : ∃ i b, e.kl = [i] ∧ e.hu = [(i, b)] ∧ huOf e = some i := by
  unfold kil at h
  split at h
  · rename_i i b j h1 h2
    obtain rfl := Nat.eq_of_beq_eq_true h
    exact ⟨i, b, h2, h1, by unfold huOf; rw [h1]⟩
  · simp at h
theorem freeOf_spec {i : Nat} {y : El} (h : freeOf (some i) y = true) : ∃ l, y.q = some l ∧ i ∉ l ∧ i ∉ y.e.p.ids ∧ i ∉ huIds y.e := by
  unfold freeOf at h
  split at h
  · rename_i j l h1 h2
    obtain rfl := Option.some.inj h1
    simp only [Bool.not_eq_true', Bool.or_eq_false_iff] at h
    obtain ⟨⟨a, b⟩, c⟩ := h
    have key : ∀ m : List Nat, has m i = false → i ∉ m := fun m hm hh => by
      rw [(has_iff _ _).2 hh] at hm
      simp at hm
    exact ⟨l, h2, key _ a, key _ b, key _ c⟩
  · simp at h
structure Disj (x y : El) : Prop where
  a1 : hasO y.r x.d = false
  a2 : hasO x.r y.d = false
  a3 : sameO x.d y.d = false
  a4 : hasO y.e.fp (huOf x.e) = false
  a5 : hasO x.e.fp (huOf y.e) = false
  a6 : sameO (huOf x.e) (huOf y.e) = false
theorem indB_spec {x y : El} (h : indB x y = true) : Disj x y ∧ ((small x.e = true ∧ small y.e = true) ∨ (kil x.e = true ∧ small y.e = true ∧ freeOf (huOf x.e) y = true) ∨ (small x.e = true ∧ kil y.e = true ∧ freeOf (huOf y.e) x = true)) := by
  unfold indB at h
  rw [Bool.and_eq_true] at h
  obtain ⟨hd, h⟩ := h
  refine ⟨?_, ?_⟩
  · unfold disj at hd
    simp only [Bool.not_eq_true', Bool.or_eq_false_iff] at hd
    obtain ⟨⟨⟨⟨⟨a, b⟩, c⟩, d⟩, e⟩, f⟩ := hd
    exact ⟨a, b, c, d, e, f⟩
  · cases h1 : small x.e <;> cases h2 : small y.e <;> rw [h1, h2] at h <;> simp at h
    · exact .inr (.inl ⟨h.1, rfl, h.2⟩)
    · exact .inr (.inr ⟨rfl, h.1, h.2⟩)
    · exact .inl ⟨rfl, rfl⟩
theorem apply_T (σ : St) (dst : Option Nat) (e : Eff) : (σ.apply dst e).T = match dst with | some d => (killTs e.kl σ.T).set d e.p | none => killTs e.kl σ.T := by
  unfold St.apply
  rfl
theorem apply_H (σ : St) (dst : Option Nat) (e : Eff) : (σ.apply dst e).H = setHs e.hu (killHs e.kl σ.H) := rfl
theorem apply_len (σ : St) (dst : Option Nat) (e : Eff) : (σ.apply dst e).H.length = σ.H.length := by
  rw [apply_H, setHs_len, killHs_len]
theorem apply_getD {σ : St} {dst : Option Nat} {e : Eff} {r : List Nat} (h : hasO r dst = false) : ∀ t ∈ r, (σ.apply dst e).T.getD t .junk = killPs e.kl (σ.T.getD t .junk) := by
  intro t ht
  rw [apply_T σ dst]
  cases dst with
  | none => exact killTs_getD _ _ _
  | some d =>
    simp only []
    rw [set_getD]
    have : t ≠ d := fun h' => hasO_not h (h' ▸ ht)
    simp only [this, false_and, if_false]
    exact killTs_getD _ _ _
theorem apply_look {σ : St} {dst : Option Nat} {e : Eff} (hk : (∃ i b, e.hu = [(i, b)] ∧ huOf e = some i) ∨ e.hu = []) {fp : List Nat} (h : hasO fp (huOf e) = false) : ∀ i ∈ fp, look (σ.apply dst e).H i = killBs e.kl (look σ.H i) := by
  intro i hi
  rw [apply_H σ dst]
  rcases hk with ⟨p, b, hh, hp⟩ | hh
  · rw [hp] at h
    have hne : i ≠ p := fun h' => hasO_not h (h' ▸ hi)
    rw [hh, setHs_not fun x hx => by
      rw [List.mem_singleton] at hx
      subst hx
      exact fun h => hne h.symm]
    exact killHs_look _ _ _
  · rw [hh]
    exact killHs_look _ _ _
theorem sameO_not {d e : Nat} (h : sameO (some d) (some e) = false) : d ≠ e := by
  intro hh
  subst hh
  have h : Nat.beq d d = false := h
  rw [Nat.beq_refl] at h
  simp at h
theorem killPs1 (i : Nat) (p : PV) : killPs [i] p = killP i p := rfl
theorem killP_free {i : Nat} {p : PV} (h : i ∉ p.ids) : killP i p = p := by
  unfold killP
  cases hh : has p.ids i with
  | true => exact absurd ((has_iff _ _).1 hh) h
  | false => rfl
theorem killP_live {i : Nat} {p : PV} (h : isJunk (killP i p) = false) : killP i p = p := by
  unfold killP at h ⊢
  cases hh : has p.ids i with
  | true => rw [hh] at h; simp [isJunk] at h
  | false => rfl
theorem mem_idsL' {p : PV} {cs : List PV} (hp : p ∈ cs) {i : Nat} (hi : i ∈ p.ids) : i ∈ PV.ids.idsL cs := by
  obtain ⟨j, hj⟩ := List.getElem?_of_mem hp
  exact mem_idsL hj hi
theorem killB_free {i : Nat} {b : Option Blk} (h : i ∉ PV.ids.idsL (blkPs b)) : killB i b = b := by
  cases b with
  | none => rfl
  | some b =>
    cases b with
    | cells t ps =>
      show some (Blk.cells t (ps.map (killP i))) = _
      have : ps.map (killP i) = ps := by
        have : ∀ p ∈ ps, killP i p = p := fun p hp => killP_free fun hi => h (mem_idsL' hp hi)
        calc ps.map (killP i) = ps.map id := List.map_congr_left this
          _ = ps := List.map_id ps
      rw [this]
    | _ => rfl
theorem killB_live {i : Nat} {b : Option Blk} (h : ∀ p ∈ blkPs (killB i b), isJunk p = false) : killB i b = b := by
  cases b with
  | none => rfl
  | some b =>
    cases b with
    | cells t ps =>
      show some (Blk.cells t (ps.map (killP i))) = _
      have : ps.map (killP i) = ps := by
        have : ∀ p ∈ ps, killP i p = p := fun p hp => killP_live (h (killP i p) (List.mem_map.2 ⟨p, hp, rfl⟩))
        calc ps.map (killP i) = ps.map id := List.map_congr_left this
          _ = ps := List.map_id ps
      rw [this]
    | _ => rfl
/-- What is read is the same, so what is told of it is, too. -/
theorem rdQ_congr {T T' : List PV} {H H' : Heap} {o : Oper} {e : Eff} (h1 : rds ops T' o = rds ops T o) (h2 : ∀ t ∈ rds ops T o, T'.getD t .junk = T.getD t .junk) (h3 : ∀ j ∈ e.fp, look H' j = look H j) : rdQ ops T' H' o e = rdQ ops T H o e := by
  have : rdPs ops T' H' o e = rdPs ops T H o e := by
    unfold rdPs
    rw [h1]
    congr 1
    · exact List.map_congr_left h2
    · have : ∀ l : List Nat, (∀ j ∈ l, look H' j = look H j) → l.flatMap (fun j => blkPs (look H' j)) = l.flatMap fun j => blkPs (look H j) := by
        intro l
        induction l with
        | nil => intro _; rfl
        | cons j l ih =>
          intro h
          rw [List.flatMap_cons, List.flatMap_cons, h j (by simp), ih fun k hk => h k (by simp [hk])]
      exact this _ h3
  unfold rdQ
  rw [this]
theorem rdQ_some {T : List PV} {H : Heap} {o : Oper} {e : Eff} {l : List Nat} (h : rdQ ops T H o e = some l) : (∀ p ∈ rdPs ops T H o e, isJunk p = false) ∧ l = PV.ids.idsL (rdPs ops T H o e) := by
  unfold rdQ at h
  cases hj : (rdPs ops T H o e).any isJunk with
  | true => rw [hj] at h; simp at h
  | false =>
    rw [hj] at h
    refine ⟨fun p hp => ?_, (Option.some.inj h).symm⟩
    have := List.any_eq_false.1 hj p hp
    simpa using this
theorem mem_rdT {T : List PV} {H : Heap} {o : Oper} {e : Eff} {t : Nat} (h : t ∈ rds ops T o) : T.getD t .junk ∈ rdPs ops T H o e := List.mem_append_left _ (List.mem_map.2 ⟨t, h, rfl⟩)
theorem mem_rdH {T : List PV} {H : Heap} {o : Oper} {e : Eff} {j : Nat} (h : j ∈ e.fp) {p : PV} (hp : p ∈ blkPs (look H j)) : p ∈ rdPs ops T H o e := List.mem_append_right _ (List.mem_flatMap.2 ⟨j, h, hp⟩)
theorem mem_idsLL {i : Nat} : ∀ {cs ds : List PV}, (∀ p ∈ cs, p ∈ ds) → i ∈ PV.ids.idsL cs → i ∈ PV.ids.idsL ds
  | [], ds, _, h => by simp [PV.ids.idsL] at h
  | c :: cs, ds, hs, h => by
    rw [PV.ids.idsL, List.mem_append] at h
    rcases h with h | h
    · exact mem_idsL' (hs c (by simp)) h
    · exact mem_idsLL (fun p hp => hs p (by simp [hp])) h

theorem killPs0 (p : PV) : killPs [] p = p := rfl
theorem killBs0 (b : Option Blk) : killBs [] b = b := rfl
theorem killBs1 (i : Nat) (b : Option Blk) : killBs [i] b = killB i b := rfl
theorem hu_or {e : Eff} (h : small e = true ∨ kil e = true) : (∃ i b, e.hu = [(i, b)] ∧ huOf e = some i) ∨ e.hu = [] := by
  rcases h with h | h
  · rcases (small_spec h).2 with ⟨h, _⟩ | h
    · exact .inr h
    · exact .inl h
  · obtain ⟨i, b, _, h1, h2⟩ := kil_spec h
    exact .inl ⟨i, b, h1, h2⟩
theorem set_none {T : List PV} {d : Option Nat} {p : PV} (f : PV → PV) (hp : f p = p) : ((match d with | some d => T.set d p | none => T).map f) = match d with | some d => (T.map f).set d p | none => T.map f := by
  cases d with
  | none => rfl
  | some d => show (T.set d p).map f = (T.map f).set d p; rw [List.map_set, hp]
theorem killTs_set {is : List Nat} {T : List PV} {d : Option Nat} {p : PV} (hone : is = [] ∨ ∃ i, is = [i]) (h : ∀ i ∈ is, i ∉ p.ids) : killTs is (match d with | some d => T.set d p | none => T) = match d with | some d => (killTs is T).set d p | none => killTs is T := by
  rcases hone with rfl | ⟨i, rfl⟩
  · cases d <;> rfl
  · exact set_none (killP i) (killP_free (h i (by simp)))
theorem apply_comm {σ : St} {dx dy : Option Nat} {ex ey : Eff} (hd : sameO dx dy = false) (hh : sameO (huOf ex) (huOf ey) = false) (hx : small ex = true ∨ (kil ex = true ∧ ∀ i, huOf ex = some i → i ∉ ey.p.ids ∧ i ∉ huIds ey)) (hy : small ey = true) : (σ.apply dx ex).apply dy ey = (σ.apply dy ey).apply dx ex := by
  have k2 := (small_spec hy).1
  have hs2 := (small_spec hy).2
  have hx' : ∀ i ∈ ex.kl, i ∉ ey.p.ids ∧ i ∉ huIds ey := by
    rcases hx with hx | ⟨hx, hf⟩
    · rw [(small_spec hx).1]; intro i hi; simp at hi
    · obtain ⟨i, b, h1, h2, h3⟩ := kil_spec hx
      rw [h1]
      intro j hj
      rw [List.mem_singleton] at hj
      subst hj
      exact hf j h3
  have hs1 : (∃ i b, ex.hu = [(i, b)] ∧ huOf ex = some i) ∨ ex.hu = [] := hu_or (hx.elim .inl fun h => .inr h.1)
  have hone : ex.kl = [] ∨ ∃ i, ex.kl = [i] := by
    rcases hx with hx | ⟨hx, _⟩
    · exact .inl (small_spec hx).1
    · obtain ⟨i, b, h1, _⟩ := kil_spec hx
      exact .inr ⟨i, h1⟩
  have hkT := fun T => killTs_set (T := T) (d := dy) (p := ey.p) hone fun i hi => (hx' i hi).1
  have hT : ((σ.apply dx ex).apply dy ey).T = ((σ.apply dy ey).apply dx ex).T := by
    rw [apply_T _ dy, apply_T _ dx, apply_T _ dx, apply_T _ dy, k2]
    have e0 : ∀ T, killTs [] T = T := fun T => rfl
    rw [e0, e0, hkT]
    cases dx with
    | none => rfl
    | some d =>
      cases dy with
      | none => rfl
      | some d' => exact List.set_comm _ _ (sameO_not hd)
  have hH : ((σ.apply dx ex).apply dy ey).H = ((σ.apply dy ey).apply dx ex).H := by
    rw [apply_H, apply_H, apply_H, apply_H, k2]
    have e0 : ∀ H, killHs [] H = H := fun H => rfl
    rw [e0, e0]
    have hkH : killHs ex.kl (setHs ey.hu σ.H) = setHs ey.hu (killHs ex.kl σ.H) := by
      rcases hone with h | ⟨i, h⟩
      · rw [h]; rfl
      · rw [h]
        rcases hs2 with ⟨h2, _⟩ | ⟨q, c, h2, hq⟩
        · rw [h2]; rfl
        · rw [h2]
          have hfr := (hx' i (by rw [h]; simp)).2
          unfold huIds at hfr
          rw [h2] at hfr
          have hc : killB i c = c := killB_free (by simpa using hfr)
          show (σ.H.set q c).map (killB i) = (σ.H.map (killB i)).set q c
          rw [List.map_set, hc]
    rw [hkH]
    rcases hs1 with ⟨p, b, h1, hp⟩ | h1
    · rcases hs2 with ⟨h2, _⟩ | ⟨q, c, h2, hq⟩
      · rw [h2]; rfl
      · rw [hp, hq] at hh
        rw [h1, h2]
        exact List.set_comm _ _ (sameO_not hh)
    · rw [h1]; rfl
  generalize (σ.apply dx ex).apply dy ey = s at hT hH
  generalize (σ.apply dy ey).apply dx ex = s' at hT hH
  cases s
  cases s'
  simp only [] at hT hH
  rw [hT, hH]
theorem Tr.swap {x y : El} {l : List El} {σ σ' : St} (h : Tr C ops (x :: y :: l) σ σ') (hi : indB x y = true) : Tr C ops (y :: x :: l) σ σ' := by
  obtain ⟨o, h1, h2, h3, h4, h5, o', k1, k2, k3, k4, k5, hl⟩ := h
  obtain ⟨hd, hi⟩ := indB_spec hi
  have hex : small x.e = true ∨ kil x.e = true := by rcases hi with h | h | h <;> first | exact .inl h.1 | exact .inr h.1
  have hey : small y.e = true ∨ kil y.e = true := by rcases hi with h | h | h <;> first | exact .inl h.2 | exact .inl h.2.1 | exact .inr h.2.1
  -- what y reads is the same before x
  have yT : ∀ t ∈ rds ops (σ.apply o.dst x.e).T o', (σ.apply o.dst x.e).T.getD t .junk = σ.T.getD t .junk := by
    intro t ht
    have hg := apply_getD (σ := σ) (dst := o.dst) (e := x.e) (r := y.r) (by rw [← h2]; exact hd.a1) t (by rw [k3]; exact ht)
    rcases hi with h | ⟨hk, _, hf⟩ | h
    · rw [hg, (small_spec h.1).1]; rfl
    · obtain ⟨i, b, e1, e2, e3⟩ := kil_spec hk
      rw [e3] at hf
      obtain ⟨q, hq, _⟩ := freeOf_spec hf
      rw [k5] at hq
      have := (rdQ_some hq).1 _ (mem_rdT (H := (σ.apply o.dst x.e).H) (e := y.e) ht)
      rw [hg, e1, killPs1] at this ⊢
      exact killP_live this
    · rw [hg, (small_spec h.1).1]; rfl
  have yH : ∀ j ∈ y.e.fp, look (σ.apply o.dst x.e).H j = look σ.H j := by
    intro j hj
    have hg := apply_look (σ := σ) (dst := o.dst) (hu_or hex) hd.a4 j hj
    rcases hi with h | ⟨hk, _, hf⟩ | h
    · rw [hg, (small_spec h.1).1]; rfl
    · obtain ⟨i, b, e1, e2, e3⟩ := kil_spec hk
      rw [e3] at hf
      obtain ⟨q, hq, _⟩ := freeOf_spec hf
      rw [k5] at hq
      rw [hg, e1, killBs1]
      refine killB_live fun p hp => ?_
      refine (rdQ_some hq).1 p (mem_rdH hj ?_)
      rw [hg, e1, killBs1]
      exact hp
    · rw [hg, (small_spec h.1).1]; rfl
  have e1 := effG_local (T' := σ.T) (H' := σ.H) (fun t ht => (yT t ht).symm) k4 (apply_len σ _ _).symm (fun i hi => (yH i hi).symm)
  -- what x reads is the same behind y
  have xT : ∀ t ∈ rds ops σ.T o, (σ.apply o'.dst y.e).T.getD t .junk = σ.T.getD t .junk := by
    intro t ht
    have hg := apply_getD (σ := σ) (dst := o'.dst) (e := y.e) (r := x.r) (by rw [← k2]; exact hd.a2) t (by rw [h3]; exact ht)
    rcases hi with h | h | ⟨_, hk, hf⟩
    · rw [hg, (small_spec h.2).1]; rfl
    · rw [hg, (small_spec h.2.1).1]; rfl
    · obtain ⟨i, b, e1, e2, e3⟩ := kil_spec hk
      rw [e3] at hf
      obtain ⟨q, hq, hn, _⟩ := freeOf_spec hf
      rw [h5] at hq
      rw [hg, e1, killPs1]
      refine killP_free fun hm => hn ?_
      rw [(rdQ_some hq).2]
      exact mem_idsL' (mem_rdT ht) hm
  have xH : ∀ j ∈ x.e.fp, look (σ.apply o'.dst y.e).H j = look σ.H j := by
    intro j hj
    have hg := apply_look (σ := σ) (dst := o'.dst) (hu_or hey) hd.a5 j hj
    rcases hi with h | h | ⟨_, hk, hf⟩
    · rw [hg, (small_spec h.2).1]; rfl
    · rw [hg, (small_spec h.2.1).1]; rfl
    · obtain ⟨i, b, e1, e2, e3⟩ := kil_spec hk
      rw [e3] at hf
      obtain ⟨q, hq, hn, _⟩ := freeOf_spec hf
      rw [h5] at hq
      rw [hg, e1, killBs1]
      refine killB_free fun hm => hn ?_
      rw [(rdQ_some hq).2]
      exact mem_idsLL (fun p hp => mem_rdH hj hp) hm
  have e2 := effG_local (T' := (σ.apply o'.dst y.e).T) (H' := (σ.apply o'.dst y.e).H) xT h4 (apply_len σ _ _) xH
  refine ⟨o', k1, k2, by rw [k3, e1.2], e1.1, ?_, o, h1, h2, by rw [h3, e2.2], e2.1, ?_, ?_⟩
  · rw [k5]
    exact rdQ_congr e1.2.symm (fun t ht => yT t (by rw [← e1.2]; exact ht)) yH
  · rw [h5]
    exact (rdQ_congr e2.2 xT xH).symm
  · have hds : sameO o.dst o'.dst = false := by rw [← h2, ← k2]; exact hd.a3
    have hcomm : (σ.apply o'.dst y.e).apply o.dst x.e = (σ.apply o.dst x.e).apply o'.dst y.e := by
      rcases hi with h | ⟨hk, hs, hf⟩ | ⟨hs, hk, hf⟩
      · exact (apply_comm hds hd.a6 (.inl h.1) h.2).symm
      · refine (apply_comm hds hd.a6 (.inr ⟨hk, fun i hi => ?_⟩) hs).symm
        rw [hi] at hf
        obtain ⟨_, _, _, f1, f2⟩ := freeOf_spec hf
        exact ⟨f1, f2⟩
      · refine apply_comm ?_ ?_ (.inr ⟨hk, fun i hi => ?_⟩) hs
        · cases hx : o.dst <;> cases hy : o'.dst <;> simp only [hx, hy, sameO] at hds ⊢
          exact Bool.eq_false_iff.2 fun hh => by rw [Nat.eq_of_beq_eq_true hh, Nat.beq_refl] at hds; simp at hds
        · have a6 := hd.a6
          cases hx : huOf x.e <;> cases hy : huOf y.e <;> simp only [hx, hy, sameO] at a6 ⊢
          exact Bool.eq_false_iff.2 fun hh => by rw [Nat.eq_of_beq_eq_true hh, Nat.beq_refl] at a6; simp at a6
        · rw [hi] at hf
          obtain ⟨_, _, _, f1, f2⟩ := freeOf_spec hf
          exact ⟨f1, f2⟩
    rw [hcomm]
    exact hl
theorem Tr.front {x : El} {post : List El} {σ' : St} : ∀ (pre : List El) (σ : St), Tr C ops (pre ++ x :: post) σ σ' → (∀ y ∈ pre, indB y x = true) → Tr C ops (x :: (pre ++ post)) σ σ'
  | [], σ, h, _ => h
  | y :: pre, σ, h, hi => by
    obtain ⟨o, h1, h2, h3, h4, h5, hl⟩ := h
    have := Tr.front pre _ hl fun z hz => hi z (by simp [hz])
    exact Tr.swap ⟨o, h1, h2, h3, h4, h5, this⟩ (hi y (by simp))

/-- A region's edges lead back, and one of them to the guard. -/
def backOk (ops : Array Oper) : List Oper → Nat → Bool
  | [], _ => true
  | o :: l, i => (o.after.all fun e => !Region.binds .any e || Nat.ble (e.on + 1) i) && (match o.guard with
    | none => true
    | some (j, _) => o.after.any fun e => Region.binds .any e && Nat.beq e.on j) && backOk ops l (i + 1)
theorem backOk_spec : ∀ (l : List Oper) (k : Nat), (∀ j, l[j]? = ops[k + j]?) → backOk ops l k = true → ∀ i o, ops[i]? = some o → k ≤ i →
    (∀ e ∈ o.after, Region.binds .any e = true → e.on < i) ∧ ∀ j w, o.guard = some (j, w) → ∃ e ∈ o.after, Region.binds .any e = true ∧ e.on = j
  | [], k, hl, _, i, o, ho, hk => by
    have := hl (i - k)
    rw [show k + (i - k) = i by omega, ho] at this
    simp at this
  | o' :: l, k, hl, hb, i, o, ho, hk => by
    simp only [backOk, Bool.and_eq_true] at hb
    obtain ⟨⟨h1, h2⟩, h3⟩ := hb
    by_cases hik : i = k
    · subst hik
      have := hl 0
      simp only [List.getElem?_cons_zero, Nat.add_zero, ho] at this
      obtain rfl := Option.some.inj this
      refine ⟨fun e he hbd => ?_, fun j w hg => ?_⟩
      · have := Array.all_eq_true_iff_forall_mem.1 h1 e he
        rw [hbd] at this
        exact Nat.le_of_ble_eq_true (by simpa using this)
      · rw [hg] at h2
        obtain ⟨e, he, hh⟩ := Array.any_eq_true'.1 h2
        rw [Bool.and_eq_true] at hh
        exact ⟨e, he, hh.1, Nat.eq_of_beq_eq_true hh.2⟩
    · exact backOk_spec l (k + 1) (fun j => by have := hl (j + 1); simpa [Nat.add_assoc, Nat.add_comm 1 j] using this) h3 i o ho (by omega)

def closedL (ops : Array Oper) (listed : Array Bool) : Prop := ∀ j o, ops[j]? = some o → listed.getD j true = true → ∀ e ∈ o.after, Region.binds .any e = true → listed.getD e.on false = true
theorem getD_tf {l : Array Bool} {i : Nat} (h : l.getD i false = true) : l.getD i true = true := by
  rcases Nat.lt_or_ge i l.size with h' | h'
  · simp [h'] at h ⊢; exact h
  · simp [Array.getElem?_eq_none h']
theorem ordD_listed {listed : Array Bool} (hc : closedL ops listed) : ∀ (n j i : Nat), ordD ops n j i = true → (∀ o, ops[i]? = some o → ∀ e ∈ o.after, Region.binds .any e = true → listed.getD e.on false = true) → listed.getD j false = true
  | 0, _, _, h, _ => by simp [ordD] at h
  | n + 1, j, i, h, hd => by
    unfold ordD at h
    split at h
    · rename_i o ho
      obtain ⟨e, he, hh⟩ := Array.any_eq_true'.1 h
      rw [Bool.and_eq_true, Bool.or_eq_true] at hh
      have hl := hd o ho e he hh.1
      rcases hh.2 with h' | h'
      · rw [← Nat.eq_of_beq_eq_true h']; exact hl
      · exact ordD_listed hc n j e.on h' fun o' ho' => hc _ o' ho' (getD_tf hl)
    · simp at h

theorem getD_set' {l : Array Bool} {k i : Nat} (b : Bool) (hk : k < l.size) : (l.setIfInBounds k true).getD i b = if i = k then true else l.getD i b := by
  simp only [Array.getD_eq_getD_getElem?, Array.getElem?_setIfInBounds]
  by_cases h : k = i
  · subst h; simp [hk]
  · have h' : i ≠ k := fun h' => h h'.symm
    simp [h, h']

variable {g : GI} {P : Program}
theorem draw_any (c : CxOk g.P C) (hgl : Same C g) (hb : ∀ i o, ops[i]? = some o → (∀ e ∈ o.after, Region.binds .any e = true → e.on < i) ∧ ∀ j w, o.guard = some (j, w) → ∃ e ∈ o.after, Region.binds .any e = true ∧ e.on = j)
    {Q : Exit → Act → World → Prop} {σ' : St} {rr : Option Nat} {nn : Nat} : ∀ (n : Nat) (us : List El) (listed : Array Bool) (done : List Nat) (σ : St) (a : Act) (w : World), us.length = n → Tr C ops us σ σ' →
      us.Pairwise (fun x y => indB x y = true ∨ ordD ops 5 x.i y.i = true) → us.Pairwise (fun x y => x.i < y.i) → listed.size = ops.size → (∀ i, listed.getD i true = false ↔ ∃ x ∈ us, x.i = i) → closedL ops listed →
      (∀ i o d, ops[i]? = some o → o.dst = some d → listed.getD i false = true → d ∈ done) → (∀ x ∈ us, ∀ d, x.d = some d → d ∉ done) → us.Pairwise (fun x y => ∀ d, x.d = some d → y.d ≠ some d) →
      SInv g done σ a w → (∀ a' w' done', SInv g done' σ' a' w' → Q .normal a' w') → wpAnyIn (Fw rr) nn g.P .any ops Q n listed a w := by
  intro n
  induction n with
  | zero =>
    intro us listed done σ a w hn htr _ _ hsz hun _ _ _ _ hs hq
    have : us = [] := List.eq_nil_of_length_eq_zero hn
    subst this
    have htr : σ = σ' := htr
    subst htr
    refine ⟨?_, hq a w done hs⟩
    refine List.eq_nil_iff_forall_not_mem.2 fun i hi => ?_
    obtain ⟨h1, _⟩ := mem_ready.1 hi
    obtain ⟨x, hx, _⟩ := (hun i).1 h1
    simp at hx
  | succ n ih =>
    intro us listed done σ a w hn htr hpw hso hsz hun hcl hdn hnd hdd hs hq
    have hlt : ∀ {i o}, ops[i]? = some o → i < listed.size := fun ho => by rw [hsz]; exact (Array.getElem?_eq_some_iff.1 ho).1
    -- of what is there, every one is in the row of operations
    have hin : ∀ x ∈ us, ∃ o, ops[x.i]? = some o ∧ x.d = o.dst := by
      have key : ∀ (us : List El) (σ : St), Tr C ops us σ σ' → ∀ x ∈ us, ∃ o, ops[x.i]? = some o ∧ x.d = o.dst := by
        intro us
        induction us with
        | nil => intro σ _ x hx; simp at hx
        | cons y us ih =>
          intro σ h x hx
          obtain ⟨o, h1, h2, _, _, _, h5⟩ := h
          rcases List.mem_cons.1 hx with rfl | hx
          · exact ⟨o, h1, h2⟩
          · exact ih _ h5 x hx
      exact key us σ htr
    refine ⟨fun hr => ?_, fun k hk => ?_⟩
    · -- the first of them is ready
      exfalso
      match us, hn with
      | x :: us', _ =>
        obtain ⟨o, ho, _⟩ := hin x (by simp)
        have hxu : listed.getD x.i true = false := (hun x.i).2 ⟨x, by simp, rfl⟩
        have : x.i ∈ Region.ready .any ops listed := by
          refine mem_ready.2 ⟨hxu, o, ho, fun e he hbd => ?_⟩
          have hlt' := (hb x.i o ho).1 e he hbd
          have hes : e.on < listed.size := Nat.lt_trans hlt' (hlt ho)
          cases hl : listed.getD e.on true with
          | true => simp [hes] at hl ⊢; exact hl
          | false =>
            obtain ⟨y, hy, hyi⟩ := (hun e.on).1 hl
            rcases List.mem_cons.1 hy with rfl | hy
            · omega
            · have := (List.pairwise_cons.1 hso).1 y hy
              omega
        rw [hr] at this
        simp at this
    · obtain ⟨hku, ok, hok, hdep⟩ := mem_ready.1 hk
      obtain ⟨x, hx, rfl⟩ := (hun k).1 hku
      obtain ⟨pre, post, rfl⟩ := List.append_of_mem hx
      have hind : ∀ y ∈ pre, indB y x = true := by
        intro y hy
        have := (List.pairwise_append.1 hpw).2.2 y hy x (by simp)
        rcases this with h | h
        · exact h
        · have := ordD_listed hcl 5 y.i x.i h fun o ho e he hbd => by
            rw [hok] at ho
            obtain rfl := Option.some.inj ho
            exact hdep e he hbd
          have hyu : listed.getD y.i true = false := (hun y.i).2 ⟨y, by simp [hy], rfl⟩
          rw [getD_tf this] at hyu
          simp at hyu
      obtain ⟨o, h1, h2, h3, h4, _, htr'⟩ := Tr.front pre σ htr hind
      rw [hok] at h1
      obtain rfl := Option.some.inj h1
      have hsub : (pre ++ post).Sublist (pre ++ x :: post) := List.Sublist.append_left (List.sublist_cons_self x post) pre
      have hgo : guardOk ops ok done = true := by
        unfold guardOk
        cases hgu : ok.guard with
        | none => rfl
        | some jw =>
          obtain ⟨j, wt⟩ := jw
          simp only []
          obtain ⟨e, he, hbd, rfl⟩ := (hb x.i ok hok).2 j wt hgu
          have hl := hdep e he hbd
          cases hj : (ops[e.on]?).bind (·.dst) with
          | none =>
            simp only []
            unfold effG at h4
            rw [hgu] at h4
            simp only [hj] at h4
            simp at h4
          | some gt =>
            simp only []
            rw [Option.bind_eq_some_iff] at hj
            obtain ⟨oj, hoj, hdj⟩ := hj
            exact (has_iff _ _).2 (hdn _ oj gt hoj hdj hl)
      have hdo : dstOk ok done = true := by
        unfold dstOk
        cases hds : ok.dst with
        | none => rfl
        | some d =>
          have := hnd x hx d (by rw [h2, hds])
          simp only [Bool.not_eq_true']
          cases hh : has done d with
          | false => rfl
          | true => exact absurd ((has_iff _ _).1 hh) this
      have hxs := hlt hok
      have hmem : ∀ y, y ∈ pre ++ post → y ∈ pre ++ x :: post := fun y hy => hsub.subset hy
      have hne : ∀ y ∈ pre ++ post, y.i ≠ x.i := by
        intro y hy
        rcases List.mem_append.1 hy with hy | hy
        · have := (List.pairwise_append.1 hso).2.2 y hy x (by simp)
          omega
        · have := (List.pairwise_cons.1 (List.pairwise_append.1 hso).2.1).1 y hy
          omega
      have step := step_ok (r := rr) (n := nn) (next := wpAnyIn (Fw rr) nn g.P .any ops Q n (listed.setIfInBounds x.i true)) (Q := Q) c hgl hs hgo hdo h4 fun a' w' hs' => by
        refine ih (pre ++ post) _ (dones ok done) _ a' w' ?_ htr' (hpw.sublist hsub) (hso.sublist hsub) (by simp [hsz]) (fun i => ?_) (fun j oj hoj hlj e he hbd => ?_) (fun i oi d hoi hdi hli => ?_) (fun y hy d hyd => ?_) (hdd.sublist hsub) hs' hq
        · simp at hn ⊢; omega
        · rw [getD_set' true hxs]
          by_cases hix : i = x.i
          · subst hix
            simp only [if_true]
            constructor
            · intro h; simp at h
            · rintro ⟨y, hy, hyi⟩
              exact absurd hyi (hne y hy)
          · rw [if_neg hix, hun i]
            constructor
            · rintro ⟨y, hy, hyi⟩
              refine ⟨y, ?_, hyi⟩
              rcases List.mem_append.1 hy with hy | hy
              · simp [hy]
              · rcases List.mem_cons.1 hy with rfl | hy
                · exact absurd hyi.symm hix
                · simp [hy]
            · rintro ⟨y, hy, hyi⟩
              exact ⟨y, hmem y hy, hyi⟩
        · rw [getD_set' true hxs] at hlj
          rw [getD_set' false hxs]
          split
          · rfl
          · by_cases hjx : j = x.i
            · subst hjx
              rw [hok] at hoj
              obtain rfl := Option.some.inj hoj
              exact hdep e he hbd
            · rw [if_neg hjx] at hlj
              exact hcl j oj hoj hlj e he hbd
        · rw [getD_set' false hxs] at hli
          by_cases hix : i = x.i
          · subst hix
            rw [hok] at hoi
            obtain rfl := Option.some.inj hoi
            simp [dones, donesD, hdi]
          · rw [if_neg hix] at hli
            have := hdn i oi d hoi hdi hli
            unfold dones donesD
            split
            · exact List.mem_cons_of_mem _ this
            · exact this
        · have h1 := hnd y (hmem y hy) d hyd
          unfold dones donesD
          cases hds : ok.dst with
          | none => exact h1
          | some d' =>
            simp only [List.mem_cons, not_or]
            refine ⟨fun hdd' => ?_, h1⟩
            subst hdd'
            rcases List.mem_append.1 hy with hy | hy
            · exact (List.pairwise_append.1 hdd).2.2 y hy x (by simp) d hyd (by rw [h2, hds])
            · exact (List.pairwise_cons.1 (List.pairwise_append.1 hdd).2.1).1 y hy d (by rw [h2, hds]) hyd
      unfold wpOpIn
      rw [hok]
      simp only []
      split
      · rename_i hw
        rw [if_pos hw] at step
        exact step
      · rename_i hw
        rw [if_neg hw] at step
        exact ⟨fun _ _ => trivial, step⟩

theorem evDraw_tr {ρ : Type} {kk : St → Option ρ} {x : ρ} : ∀ (l : List Oper) (k : Nat) (acc : List El) (σ : St), (∀ j, l[j]? = ops[k + j]?) → evDraw C ops l k acc σ kk = some x →
    ∃ (us : List El) (σ' : St), us.map (·.i) = List.range' k l.length ∧ Tr C ops us σ σ' ∧ us.Pairwise (fun x y => indB x y = true ∨ ordD ops 5 x.i y.i = true) ∧ (∀ x ∈ acc, ∀ y ∈ us, indB x y = true ∨ ordD ops 5 x.i y.i = true) ∧ us.map (·.d) = l.map (·.dst) ∧
      kk σ' = some x ∧ σ'.T.length = σ.T.length ∧ σ'.H.length = σ.H.length
  | [], k, acc, σ, hl, h => ⟨[], σ, rfl, rfl, .nil, fun _ _ _ hy => by simp at hy, rfl, h, rfl, rfl⟩
  | o :: l, k, acc, σ, hl, h => by
    unfold evDraw at h
    have ho : ops[k]? = some o := by simpa using (hl 0).symm
    cases he : effG C ops σ.T σ.H o with
    | none => rw [he] at h; simp at h
    | some ce =>
      obtain ⟨cd, e⟩ := ce
      rw [he] at h
      simp only [] at h
      cases hok : okAll ops acc ⟨k, o.dst, rds ops σ.T o, e, rdQ ops σ.T σ.H o e⟩ with
      | false => rw [hok] at h; simp at h
      | true =>
        rw [hok] at h
        simp only [] at h
        cases cd with
        | false => simp at h
        | true =>
        simp only [] at h
        obtain ⟨us, σ', h1, h2, h3, h4, h5, h6, h7, h8⟩ := evDraw_tr l (k + 1) _ _ (fun j => by have := hl (j + 1); simpa [Nat.add_assoc, Nat.add_comm 1 j] using this) h
        have hall : ∀ x ∈ acc, indB x ⟨k, o.dst, rds ops σ.T o, e, rdQ ops σ.T σ.H o e⟩ = true ∨ ordD ops 5 x.i k = true := by
          intro x hx
          have := List.all_eq_true.1 hok x hx
          rw [Bool.or_eq_true] at this
          exact this
        have hT : (σ.apply o.dst e).T.length = σ.T.length := by
          rw [apply_eq]
          cases o.dst <;> simp [killTs_len]
        have hH : (σ.apply o.dst e).H.length = σ.H.length := by
          show (setHs e.hu (killHs e.kl σ.H)).length = _
          rw [setHs_len, killHs_len]
        refine ⟨⟨k, o.dst, rds ops σ.T o, e, rdQ ops σ.T σ.H o e⟩ :: us, σ', by simp [h1, List.range'_succ], ⟨o, ho, rfl, rfl, he, rfl, h2⟩, List.pairwise_cons.2 ⟨fun y hy => h4 _ (by simp) y hy, h3⟩, fun x hx y hy => ?_, by simp [h5], h6, h7.trans hT, h8.trans hH⟩
        rcases List.mem_cons.1 hy with rfl | hy
        · exact hall x hx
        · exact h4 x (by simp [hx]) y hy
theorem regOk_dst : ∀ (l : List Oper) (done : List Nat), regOk ops l done = true → (∀ o ∈ l, ∀ d, o.dst = some d → d ∉ done) ∧ (l.map (·.dst)).Pairwise (fun x y => ∀ d, x = some d → y ≠ some d)
  | [], done, _ => ⟨fun o ho => by simp at ho, .nil⟩
  | o :: l, done, h => by
    simp only [regOk, Bool.and_eq_true] at h
    obtain ⟨⟨_, h2⟩, h3⟩ := h
    obtain ⟨i1, i2⟩ := regOk_dst l (dones o done) h3
    refine ⟨fun o' ho' d hd => ?_, ?_⟩
    · rcases List.mem_cons.1 ho' with rfl | ho'
      · unfold dstOk at h2
        rw [hd] at h2
        simp only [Bool.not_eq_true'] at h2
        intro hm
        rw [(has_iff _ _).2 hm] at h2
        simp at h2
      · have := i1 o' ho' d hd
        unfold dones donesD at this
        split at this
        · intro hm; exact this (List.mem_cons_of_mem _ hm)
        · exact this
    · simp only [List.map_cons, List.pairwise_cons]
      refine ⟨fun x hx d hd => ?_, i2⟩
      obtain ⟨o', ho', rfl⟩ := List.mem_map.1 hx
      intro hd'
      have := i1 o' ho' d hd'
      unfold dones donesD at this
      rw [hd] at this
      simp at this
theorem SInv.drawn {σ : St} {a : Act} {w : World} {done : List Nat} (h : SInv g done σ a w) (n : Nat) : SInv g done σ a { w with drawn := n } := by
  obtain ⟨⟨γ, h⟩, hc⟩ := h
  have hb : Below w.heap.size w { w with drawn := n } := ⟨rfl, rfl, rfl, Nat.le_refl _, fun _ _ => rfl⟩
  obtain ⟨m, tr⟩ := h.m.grow hb
  exact ⟨⟨γ, m, fun t => (h.t t).tr (kl := []) (fun p u hp _ => tr p u hp) (fun i hi => by simp at hi), h.sz, h.df.loc (.below hb γ)⟩, hc⟩

theorem region_draw {ρ : Type} {k : St → Option ρ} {x : ρ} {rr : Option Nat} {nn : Nat} (c : CxOk g.P C) (hgl : Same C g) (hm : g.P.follows .mixedOrders = true) (hreg : regOk ops ops.toList [] = true) (hback : backOk ops ops.toList 0 = true) {σ : St} {a : Act} {w : World} {Q : Exit → Act → World → Prop} {id : Nat}
    (hs : SInv g [] σ a w) (he : evDraw C ops ops.toList 0 [] σ k = some x) (hq : ∀ σ' a' w' done', SInv g done' σ' a' w' → σ'.T.length = σ.T.length → σ'.H.length = σ.H.length → k σ' = some x → Q .normal a' w') : (Code.region id ops true).wpIn (Fw rr) nn g.P Q a w := by
  obtain ⟨us, σ', h1, h2, h3, _, h5, h6, h7, h8⟩ := evDraw_tr ops.toList 0 [] σ (fun j => by simp) he
  have hlen : us.length = ops.size := by
    have := congrArg List.length h1
    simpa using this
  have hi : ∀ i, (∃ x ∈ us, x.i = i) ↔ i < ops.size := by
    intro i
    have : (∃ x ∈ us, x.i = i) ↔ i ∈ us.map (·.i) := by simp
    rw [this, h1]
    simp [List.mem_range']
  refine wpIn_region_any hm (draw_any c hgl (fun i o ho => backOk_spec ops.toList 0 (fun j => by simp) hback i o ho (Nat.zero_le _)) ops.size us (Array.replicate ops.size false) [] σ a _ hlen h2 h3 ?_ (by simp) (fun i => ?_) ?_ ?_ (fun x _ d _ => by simp) ?_ (hs.drawn _) fun a' w' d' hs' => hq σ' a' w' d' hs' h7 h8 h6)
  · have : (us.map (·.i)).Pairwise (· < ·) := by rw [h1]; exact List.pairwise_lt_range'
    exact List.pairwise_map.1 this
  · rw [hi i]
    simp only [Array.getD_eq_getD_getElem?, Array.getElem?_replicate]
    by_cases h : i < ops.size <;> simp [h]
  · intro j o hj hl
    have : j < ops.size := (Array.getElem?_eq_some_iff.1 hj).1
    simp [Array.getD_eq_getD_getElem?, Array.getElem?_replicate, this] at hl
  · intro i o d _ _ hl
    simp only [Array.getD_eq_getD_getElem?, Array.getElem?_replicate] at hl
    by_cases h : i < ops.size <;> simp [h] at hl
  · have := (regOk_dst ops.toList [] hreg).2
    rw [← h5] at this
    exact List.pairwise_map.1 this
theorem region_text {ρ : Type} {k : St → Option ρ} {x : ρ} {rr : Option Nat} {nn : Nat} (c : CxOk g.P C) (hgl : Same C g) (hreg : regOk ops ops.toList [] = true) {σ : St} {a : Act} {w : World} {Q : Exit → Act → World → Prop} {id : Nat}
    (hs : SInv g [] σ a w) (he : evOps C ops ops.toList σ k = some x) (hq : ∀ σ' a' w' done', SInv g done' σ' a' w' → σ'.T.length = σ.T.length → σ'.H.length = σ.H.length → k σ' = some x → Q .normal a' w') : (Code.region id ops false).wpIn (Fw rr) nn g.P Q a w :=
  wpIn_region_list (ops_ok c hgl ops.toList [] σ a w hreg hs he hq)
end
end Go.Proofs.Ytklgaodfakdjpaa.Ev
/- The interpreter of code is right. -/
namespace Go.Proofs.Ytklgaodfakdjpaa.Ev
open Go Go.RowKit

/-- May a code's regions be taken so? -/
def okCode : Code → Bool
  | .region _ ops draw => regOk ops ops.toList [] && (match draw with
    | true => backOk ops ops.toList 0
    | false => true)
  | .seq a b => okCode a && okCode b
  | .cond _ a b => okCode a && okCode b
  | .block _ c => okCode c
  | .scope c => okCode c
  | .loop c => okCode c
  | _ => true
/-- All ranges over functions of a code. -/
def rfsOf : Code → List Code
  | .seq a b => rfsOf a ++ rfsOf b
  | .cond _ a b => rfsOf a ++ rfsOf b
  | .block _ c => rfsOf c
  | .scope c => rfsOf c
  | .loop c => rfsOf c
  | .rangeFunc g ps a b => [.rangeFunc g ps a b]
  | _ => []
def toX : Ex → Exit
  | .normal => .normal
  | .exit i => .exit i
  | .ret => .ret
structure CInv (g : GI) (n m : Nat) (σ : St) (a : Act) (w : World) : Prop where
  s : SInv g [] σ a w
  n : σ.T.length = n
  m : σ.H.length = m

section
variable {g : GI} {C : Cx} {w : World} {a : Act} {σ : St}
def ungd : PV → PV
  | .gd _ _ => .junk
  | p => p
theorem unguard_getD (T : List PV) (t : Nat) : (unguard T).getD t .junk = ungd (T.getD t .junk) := by
  unfold unguard
  simp only [List.getD, List.getElem?_map]
  cases T[t]? with
  | none => rfl
  | some p => cases p <;> rfl
theorem unguard_inv {done : List Nat} (h : SInv g done σ a w) : SInv g [] ⟨unguard σ.T, σ.H⟩ a w := by
  obtain ⟨⟨γ, h⟩, hc⟩ := h
  refine ⟨⟨γ, h.m, fun t => ?_, by simpa [unguard] using h.sz, h.df⟩, fun t ch q ht => ?_⟩
  · simp only []
    rw [unguard_getD]
    have := h.t t
    generalize σ.T.getD t .junk = p at this
    cases p <;> first | exact this | exact Rep.junk _
  · simp only [] at ht
    rw [unguard_getD] at ht
    generalize σ.T.getD t .junk = p at ht
    cases p <;> simp [ungd] at ht

/-! ### What is kept -/
theorem setAll_getD {α : Type} (d : α) : ∀ (keep : List Nat) (f : Nat → α) (l : List α) (t : Nat), (setAll keep (keep.map f) l).getD t d = l.getD t d ∨ (t ∈ keep ∧ (setAll keep (keep.map f) l).getD t d = f t)
  | [], f, l, t => .inl rfl
  | i :: is, f, l, t => by
    simp only [List.map_cons, setAll]
    rcases setAll_getD d is f (l.set i (f i)) t with h | ⟨h1, h2⟩
    · rw [h]
      by_cases hti : i = t
      · subst hti
        simp only [List.getD, List.getElem?_set]
        by_cases hl : i < l.length
        · right; simp [hl]
        · left; simp [hl]
      · left
        simp [List.getD, List.getElem?_set, hti]
    · exact .inr ⟨by simp [h1], h2⟩
theorem setAll_len {α : Type} : ∀ (keep : List Nat) (vs : List α) (l : List α), (setAll keep vs l).length = l.length
  | [], vs, l => by simp [setAll]
  | i :: is, [], l => by simp [setAll]
  | i :: is, v :: vs, l => by simp [setAll, setAll_len is vs]
theorem getD_rep {α : Type} (n t : Nat) (d : α) : (List.replicate n d).getD t d = d := by
  simp only [List.getD, List.getElem?_replicate]
  split <;> rfl
theorem mkT_getD (n : Nat) (kp : List Nat × List Nat) (σ : St) (t : Nat) : (mkT n kp.1 (keptT kp σ)).getD t .junk = .junk ∨ (mkT n kp.1 (keptT kp σ)).getD t .junk = cleanP kp.2 (σ.T.getD t .junk) := by
  unfold mkT keptT
  rcases setAll_getD PV.junk kp.1 (fun t => cleanP kp.2 (σ.T.getD t .junk)) (List.replicate n .junk) t with h | ⟨_, h⟩
  · left; rw [h]; exact getD_rep ..
  · right; exact h
theorem setAll_in {α : Type} (d : α) : ∀ (keep : List Nat) (f : Nat → α) (l : List α) (t : Nat), t ∈ keep → t < l.length → (setAll keep (keep.map f) l).getD t d = f t
  | [], f, l, t, h, _ => by simp at h
  | i :: is, f, l, t, h, hl => by
    simp only [List.map_cons, setAll]
    by_cases ht : t ∈ is
    · exact setAll_in d is f _ t ht (by simpa using hl)
    · have hti : t = i := by
        rcases List.mem_cons.1 h with h | h
        · exact h
        · exact absurd h ht
      subst hti
      rcases setAll_getD d is f (l.set t (f t)) t with h' | ⟨h', _⟩
      · rw [h']
        simp [List.getD, List.getElem?_set, hl]
      · exact absurd h' ht
theorem setAll_out {α : Type} (d : α) (keep : List Nat) (f : Nat → α) (l : List α) (t : Nat) (h : t ∉ keep) : (setAll keep (keep.map f) l).getD t d = l.getD t d := by
  rcases setAll_getD d keep f l t with h' | ⟨h', _⟩
  · exact h'
  · exact absurd h' h
theorem mkH_in (kp : List Nat × List Nat) (σ : St) (i : Nat) (h : i ∈ kp.2) : look (mkH σ.H.length kp.2 (keptH kp σ)) i = cleanB kp.2 (look σ.H i) := by
  rcases Nat.lt_or_ge i σ.H.length with hl | hl
  · exact setAll_in none kp.2 (fun i => cleanB kp.2 (look σ.H i)) _ i h (by simpa using hl)
  · rw [look_ge hl, look_ge (by unfold mkH; rw [setAll_len]; simpa using hl)]
    rfl
theorem mkH_out (kp : List Nat × List Nat) (σ : St) (i : Nat) (h : i ∉ kp.2) : look (mkH σ.H.length kp.2 (keptH kp σ)) i = none := by
  have := setAll_out none kp.2 (fun i => cleanB kp.2 (look σ.H i)) (List.replicate σ.H.length none) i h
  exact this.trans (getD_rep ..)
theorem cleanP_rep {w : World} {ok ok' : Nat → Prop} {γ γ' : Nat → Option Value} {keep : List Nat} (hok : ∀ β, ok β → ok' β) (hγ : ∀ i ∈ keep, γ' i = γ i) {p : PV} {v : Value} (h : Rep w ok γ p v) : Rep w ok' γ' (cleanP keep p) v := by
  unfold cleanP
  split
  · rename_i hk
    exact h.mono (fun _ _ => rfl) hok fun i hi => hγ i ((has_iff _ _).1 (List.all_eq_true.1 hk i hi))
  · exact .junk v

/-- Of the state, only a part is kept. -/
theorem weaken (h : SInv g [] σ a w) (keep : List Nat) (H' : Heap) (T' : List PV) (hT : ∀ t, T'.getD t .junk = .junk ∨ T'.getD t .junk = cleanP keep (σ.T.getD t .junk)) (hTl : T'.length = σ.T.length)
    (hH : ∀ i ∈ keep, look H' i = cleanB keep (look σ.H i)) (hH0 : ∀ i, i ∉ keep → look H' i = none) : SInv g [] ⟨T', H'⟩ a w := by
  obtain ⟨⟨γ, h⟩, hc⟩ := h
  let γ' : Nat → Option Value := fun i => if has keep i then γ i else none
  have hin : ∀ i ∈ keep, γ' i = γ i := fun i hi => by simp only [γ']; rw [if_pos ((has_iff _ _).2 hi)]
  have hout : ∀ i, i ∉ keep → γ' i = none := fun i hi => by simp only [γ']; rw [if_neg fun h => hi ((has_iff _ _).1 h)]
  have hsub : ∀ i v, γ' i = some v → γ i = some v := by
    intro i v hv
    simp only [γ'] at hv
    split at hv
    · exact hv
    · simp at hv
  have hok : ∀ β, okOf g w γ β → okOf g w γ' β := fun β hβ => ⟨hβ.1, hβ.2.1, fun i v hv => hβ.2.2 i v (hsub i v hv)⟩
  have hmn : ∀ i, i ∈ keep ∨ i ∉ keep := fun i => Decidable.em _
  have hdf : DfOk g.w0.heap.size w γ' a.defers := h.df.sub hsub
  refine ⟨⟨γ', ⟨fun i hi => ?_, fun i b hi => ?_, fun i j v u β h1 h2 => h.m.apart i j v u β (hsub i v h1) (hsub j u h2), fun i v β h1 => h.m.old i v β (hsub i v h1), h.m.fr, fun n hn => (h.m.glob n hn).mono (fun _ _ => rfl) hok fun _ _ => rfl, fun i v hv => ?_, h.m.fx8⟩, fun t => ?_, by simpa [hTl] using h.sz, hdf⟩, fun t ch q ht => ?_⟩
  · rcases hmn i with hk | hk
    · rw [hin i hk]
      refine h.m.dom i ?_
      have := hH i hk
      rw [show look H' i = none from hi] at this
      cases hl : look σ.H i with
      | none => rfl
      | some b => rw [hl] at this; cases b <;> simp [cleanB] at this
    · exact hout i hk
  · rcases hmn i with hk | hk
    · rw [hin i hk]
      have hi' := hH i hk
      rw [show look H' i = some b from hi] at hi'
      cases hl : look σ.H i with
      | none => rw [hl] at hi'; simp [cleanB] at hi'
      | some b0 =>
        obtain ⟨v, hv, hb⟩ := h.m.blks i b0 hl
        refine ⟨v, hv, ?_⟩
        rw [hl] at hi'
        cases b0 with
        | cells t ps =>
          simp only [cleanB, Option.some.injEq] at hi'
          subst hi'
          obtain ⟨β, vs, h1, h2, h3, h4⟩ := hb
          refine ⟨β, vs, h1, h2, ⟨by simp [h3.1], fun j p hp => ?_⟩, h4⟩
          rw [List.getElem?_map, Option.map_eq_some_iff] at hp
          obtain ⟨q, hq, rfl⟩ := hp
          exact cleanP_rep hok hin (h3.2 j q hq)
        | loop r =>
          simp only [cleanB, Option.some.injEq] at hi'
          subst hi'
          exact hb
        | row T e xs =>
          simp only [cleanB, Option.some.injEq] at hi'
          subst hi'
          obtain ⟨ys, h1, h2, h3, h4⟩ := hb
          exact ⟨ys, h1, h2, fun k x j p hx hp => (h3 k x j p hx hp).mono (fun _ _ => rfl) hok fun i hi => by rw [cells_id hp] at hi; simp at hi, h4⟩
    · rw [hH0 i hk] at hi; simp at hi
  · rcases hmn i with hk | hk
    · rw [hH i hk, hin i hk]
      rcases h.m.fx i v hv with h' | ⟨h1, h2⟩
      · left; rw [h']; rfl
      · right
        refine ⟨?_, h2⟩
        cases hl : look σ.H i with
        | none => rfl
        | some b => rw [hl] at h1; cases b <;> first | rfl | (simp [isRow] at h1)
    · exact .inl (hH0 i hk)
  · simp only []
    rcases hT t with ht | ht
    · rw [ht]; exact Rep.junk _
    · rw [ht]
      have hr := h.t t
      by_cases hgd : ∃ ch q, σ.T.getD t .junk = .gd ch q
      · obtain ⟨ch, q, hq⟩ := hgd
        rw [hq] at hr ⊢
        have hcc := hc t ch q hq
        unfold cleanP
        split
        · rename_i hk
          have hids : ∀ i, i ∈ q.ids → γ' i = γ i := fun i hi => hin i ((has_iff _ _).1 (List.all_eq_true.1 hk i hi))
          rcases hr with ⟨h1, h2⟩ | h1
          · exact .inl ⟨h1, h2.mono (fun _ _ => rfl) hok hids⟩
          · exact .inr h1
        · exact Rep.junk _
      · exact RepG.of (cleanP_rep hok hin (hr.plain fun ch q hq => hgd ⟨ch, q, hq⟩))
  · simp only [] at ht
    rcases hT t with h' | h'
    · rw [h'] at ht; simp at ht
    · rw [h'] at ht
      unfold cleanP at ht
      split at ht
      · exact hc t ch q ht
      · simp at ht
theorem kept_inv {n m : Nat} (h : CInv g n m σ a w) (kp : List Nat × List Nat) : CInv g n m ⟨mkT n kp.1 (keptT kp σ), mkH m kp.2 (keptH kp σ)⟩ a w := by
  obtain ⟨hs, rfl, rfl⟩ := h
  refine ⟨weaken hs kp.2 _ _ (fun t => mkT_getD _ kp σ t) ?_ (fun i hi => mkH_in kp σ i hi) (fun i hi => mkH_out kp σ i hi), ?_, ?_⟩
  · unfold mkT; rw [setAll_len]; simp
  · simp only []; unfold mkT; rw [setAll_len]; simp
  · simp only []; unfold mkH; rw [setAll_len]; simp

/-- Loops are as they are told. -/
def LoopsOk (C : Cx) (K : Keep) (L : Lam) (n m : Nat) (bodies : List Code) : Prop :=
  ∀ b ∈ bodies, ∀ vs hs k r, L b vs hs k = some r → ∃ j, unroll C K L n m b j vs hs k = some r

/-- Ranges over functions are as they are told. -/
def RFOk (g : GI) (L : Lam) (rr : Option Nat) (nn n m : Nat) (rfs : List Code) : Prop :=
  ∀ rc ∈ rfs, ∀ (σ : St) (a : Act) (w : World) (k : Ex → St → Option R) (r : R) (Q : Exit → Act → World → Prop), L rc σ.T σ.H (fun ex vs hs => k ex ⟨vs, hs⟩) = some r → CInv g n m σ a w →
    (∀ ex σ' a' w', CInv g n m σ' a' w' → k ex σ' = some r → Q (toX ex) a' w') → rc.wpIn (Fw rr) nn g.P Q a w
theorem stepR_scope {P : Program} {b : Frame} {a : Act} {k : List Item} {cs : List Frame} {w : World} {c : Code} : step P (lone (b.atR a (.code (.scope c) :: k)) cs w) = .next (lone (b.atR a (.code c :: .inScope c :: k)) cs w) :=
  step_lone_go (by simp [stepG, stepG.exec, Frame.atR])
theorem stepR_inScope {P : Program} {b : Frame} {a : Act} {k : List Item} {cs : List Frame} {w : World} {c : Code} : step P (lone (b.atR a (.inScope c :: k)) cs w) = .next (lone (b.atR a k) cs w) :=
  step_lone_go (by simp [stepG, stepG.exec, Frame.atR])
/-- A scope out of which nothing jumps. -/
theorem wpIn_scope {F : Fence} {n : Nat} {P : Program} {Q : Exit → Act → World → Prop} {a : Act} {w : World} {c : Code} (h : c.wpIn F n P (Exit.noGoto Q) a w) : (Code.scope c).wpIn F n P Q a w := by
  intro b k cs hro hb hr
  have h0 : (lone (b.atR a (.code (.scope c) :: k)) cs w).fenced P F := fenced_calm hb hr rfl
  obtain ⟨e, a₁, w₁, hq, harr⟩ := h b (.inScope c :: k) cs hro hb hr
  cases e with
  | normal => exact ⟨.normal, a₁, w₁, hq, .head h0 stepR_scope (StepsIn.trans harr (.one (fenced_calm hb hr rfl) stepR_inScope))⟩
  | exit id' =>
    have hx : exitTo id' (.inScope c :: k) = exitTo id' k := by simp [exitTo]
    exact ⟨.exit id', a₁, w₁, hq, fun k' hk => .head h0 stepR_scope (harr.1 k' (by rw [hx]; exact hk)),
      fun hr' hk => let ⟨k₁, h1, h2⟩ := harr.2 hr' (by rw [hx]; exact hk); ⟨k₁, h1, .head h0 stepR_scope h2⟩⟩
  | goto l => exact hq.elim
  | ret => exact ⟨_, a₁, w₁, hq, .of_steps (.one h0 stepR_scope) harr⟩
  | panic ch => exact ⟨_, a₁, w₁, hq, .of_steps (.one h0 stepR_scope) harr⟩
  | outgrown => exact ⟨_, a₁, w₁, hq, .of_steps (.one h0 stepR_scope) harr⟩
theorem ev_ok (c : CxOk g.P C) (hgl : Same C g) (hm : g.P.follows .mixedOrders = true) {K : Keep} {L : Lam} {n m : Nat} {rr : Option Nat} {nn : Nat} : ∀ (cd : Code), okCode cd = true → LoopsOk C K L n m (loopsOf cd) → RFOk g L rr nn n m (rfsOf cd) → ∀ (σ : St) (a : Act) (w : World) (k : Ex → St → Option R) (r : R) (Q : Exit → Act → World → Prop),
    ev C K L cd σ k = some r → CInv g n m σ a w → (∀ ex σ' a' w', CInv g n m σ' a' w' → k ex σ' = some r → Q (toX ex) a' w') → cd.wpIn (Fw rr) nn g.P Q a w
  | .skip, _, _, _, σ, a, w, k, r, Q, he, hs, hk => wpIn_skip (hk .normal σ a w hs he)
  | .label l, _, _, _, σ, a, w, k, r, Q, he, hs, hk => wpIn_label (hk .normal σ a w hs he)
  | .exit i, _, _, _, σ, a, w, k, r, Q, he, hs, hk => wpIn_exit (hk (.exit i) σ a w hs he)
  | .ret, _, _, _, σ, a, w, k, r, Q, he, hs, hk => wpIn_ret (hk .ret σ a w hs he)
  | .region id ops draw, hok, _, _, σ, a, w, k, r, Q, he, hs, hk => by
    simp only [okCode, Bool.and_eq_true] at hok
    unfold ev at he
    cases draw with
    | false =>
      simp only [] at he
      exact region_text c hgl hok.1 hs.s he fun σ' a' w' done' hs' h1 h2 h3 => hk .normal _ a' w' ⟨unguard_inv hs', by simp [unguard, h1, hs.n], by simp [h2, hs.m]⟩ h3
    | true =>
      simp only [] at he
      exact region_draw c hgl hm hok.1 hok.2 hs.s he fun σ' a' w' done' hs' h1 h2 h3 => hk .normal _ a' w' ⟨unguard_inv hs', by simp [unguard, h1, hs.n], by simp [h2, hs.m]⟩ h3
  | .seq x y, hok, hl, hrf, σ, a, w, k, r, Q, he, hs, hk => by
    simp only [okCode, Bool.and_eq_true] at hok
    unfold ev at he
    refine wpIn_seq (ev_ok c hgl hm x hok.1 (fun b hb => hl b (by simp [loopsOf, hb])) (fun b hb => hrf b (by simp [rfsOf, hb])) σ a w _ r _ he hs fun ex σ' a' w' hs' hk' => ?_)
    cases ex with
    | normal => exact ev_ok c hgl hm y hok.2 (fun b hb => hl b (by simp [loopsOf, hb])) (fun b hb => hrf b (by simp [rfsOf, hb])) σ' a' w' k r Q hk' hs' hk
    | exit i => exact hk (.exit i) σ' a' w' hs' hk'
    | ret => exact hk .ret σ' a' w' hs' hk'
  | .cond x c1 c2, hok, hl, hrf, σ, a, w, k, r, Q, he, hs, hk => by
    simp only [okCode, Bool.and_eq_true] at hok
    unfold ev at he
    split at he
    · rename_i b hb
      obtain ⟨γ, h⟩ := hs.s.1
      have hx := opd_rep (C := C) holds_nil hgl h.m h.t x
      rw [hb] at hx
      refine wpIn_cond hx.b_inv ?_
      cases b with
      | true => exact ev_ok c hgl hm c1 hok.1 (fun b hb => hl b (by simp [loopsOf, hb])) (fun b hb => hrf b (by simp [rfsOf, hb])) σ a w k r Q he hs hk
      | false => exact ev_ok c hgl hm c2 hok.2 (fun b hb => hl b (by simp [loopsOf, hb])) (fun b hb => hrf b (by simp [rfsOf, hb])) σ a w k r Q he hs hk
    · simp at he
  | .block id x, hok, hl, hrf, σ, a, w, k, r, Q, he, hs, hk => by
    simp only [okCode] at hok
    unfold ev at he
    refine wpIn_block (ev_ok c hgl hm x hok (fun b hb => hl b (by simpa [loopsOf] using hb)) (fun b hb => hrf b (by simpa [rfsOf] using hb)) σ a w _ r _ he hs fun ex σ' a' w' hs' hk' => ?_)
    cases ex with
    | normal => exact hk .normal σ' a' w' hs' hk'
    | ret => exact hk .ret σ' a' w' hs' hk'
    | exit i =>
      simp only [toX, Exit.inBlock]
      simp only [] at hk'
      cases hb : Nat.beq i id with
      | true =>
        rw [hb] at hk'
        rw [if_pos (Nat.eq_of_beq_eq_true hb)]
        exact hk .normal σ' a' w' hs' hk'
      | false =>
        rw [hb] at hk'
        rw [if_neg fun h => by rw [h, Nat.beq_refl] at hb; simp at hb]
        exact hk (.exit i) σ' a' w' hs' hk'
  | .loop x, hok, hl, hrf, σ, a, w, k, r, Q, he, hs, hk => by
    simp only [okCode] at hok
    unfold ev at he
    rw [hs.n, hs.m] at he
    obtain ⟨j, hj⟩ := hl x (by simp [loopsOf]) _ _ _ _ he
    refine wpIn_loop_rounds j ?_
    have key : ∀ (j : Nat) (vs : List PV) (hv : Heap) (a : Act) (w : World), unroll C K L n m x j vs hv (fun ex vs hs => k ex ⟨mkT n (K (loopId x)).1 vs, mkH m (K (loopId x)).2 hs⟩) = some r →
        CInv g n m ⟨mkT n (K (loopId x)).1 vs, mkH m (K (loopId x)).2 hv⟩ a w → Code.roundsIn (Fw rr) nn g.P x Q j a w := by
      intro j
      induction j with
      | zero => intro vs hv a w h _; simp [unroll] at h
      | succ j ih =>
        intro vs hv a w h hs'
        unfold unroll at h
        rw [roundsIn_succ]
        refine ev_ok c hgl hm x hok (fun b hb => hl b (by simp [loopsOf, hb])) (fun b hb => hrf b (by simpa [rfsOf] using hb)) _ a w _ r _ h hs' fun ex σ' a' w' hs'' hk' => ?_
        cases ex with
        | normal => exact ih _ _ a' w' hk' (kept_inv hs'' _)
        | exit i => exact hk (.exit i) _ a' w' (kept_inv hs'' _) hk'
        | ret => exact hk .ret _ a' w' (kept_inv hs'' _) hk'
    exact key j _ _ a w hj (kept_inv hs _)
  | .scope x, hok, hl, hrf, σ, a, w, k, r, Q, he, hs, hk => by
    simp only [okCode] at hok
    unfold ev at he
    refine wpIn_scope (ev_ok c hgl hm x hok (fun b hb => hl b (by simpa [loopsOf] using hb)) (fun b hb => hrf b (by simpa [rfsOf] using hb)) σ a w k r _ he hs fun ex σ' a' w' hs' hk' => ?_)
    cases ex with
    | normal => exact hk .normal σ' a' w' hs' hk'
    | ret => exact hk .ret σ' a' w' hs' hk'
    | exit i => exact hk (.exit i) σ' a' w' hs' hk'
  | .rangeFunc x ps c1 c2, hok, hl, hrf, σ, a, w, k, r, Q, he, hs, hk => by
    unfold ev at he
    exact hrf _ (by simp [rfsOf]) σ a w k r Q he hs hk
  | .goto l, _, _, _, σ, a, w, k, r, Q, he, hs, hk => by simp [ev] at he
  | .refuse .., _, _, _, σ, a, w, k, r, Q, he, hs, hk => by simp [ev] at he
end
end Go.Proofs.Ytklgaodfakdjpaa.Ev
/- Functions: from the interpreter's answer to a call's. -/
namespace Go.Proofs.Ytklgaodfakdjpaa.Ev
open Go Go.RowKit

section
variable {g : GI} {C : Cx} {w : World} {γ : Nat → Option Value} {a : Act} {σ : St} {ok : Nat → Prop}

def resRun (P : Program) (tmps : Array Value) : ResultVar → Sem Value
  | .tmp t => pure (tmps.getD t undef)
  | .cell a t => do loadVar t (← asAddr (tmps.getD a undef))
theorem results_def {P : Program} (fn : Func) (tmps : Array Value) : results fn tmps = (do let vs ← fn.results.mapM (resRun P tmps); pure (if h : vs.size = 1 then vs[0] else .tuple vs) : Sem Value) := by
  unfold results
  congr 1
theorem resOf_run (c : CxOk g.P C) (h : TInv g σ w γ a) {x : ResultVar} {p : PV} (hp : resOf C σ x = some p) : ∃ v, (resRun g.P a.tmps x).run g.P w = .ok v w ∧ Rep w (okOf g w γ) γ p v := by
  have hu : ∀ t, Rep w (okOf g w γ) γ ((σ.T.getD t .junk).under []) (a.tmps.getD t undef) := fun t => under_rep holds_nil (h.t t)
  cases x with
  | tmp t =>
    simp only [resOf, Option.some.injEq] at hp
    subst hp
    exact ⟨_, rfl, hu t⟩
  | cell d t =>
    simp only [resOf] at hp
    split at hp
    · rename_i ti i off ht hx
      split at hp
      · rename_i t' cs hl
        have hr := hu d
        rw [hx] at hr
        obtain ⟨β, vs, hγ, hv, hb, hrep, _⟩ := ref_cells h.m hr hl
        obtain ⟨v, h1, h2⟩ := run_loadVar_part (P := g.P) (w := w) (β := β) (base := 0) (off := off) (c.tab t ti ht) hrep (fun j u hu => cell_of_cells hb hu) hp
        refine ⟨v, ?_, h2⟩
        rw [Nat.zero_add] at h1
        simp only [resRun, hv, asAddr, Sem.run_bind, Sem.run_pure, Result.andThen_ok]
        exact h1
      · simp at hp
    · rename_i ti cs off ht hx
      have hr := hu d
      rw [hx] at hr
      obtain ⟨β, base, vs, hv, _, hrep, hc⟩ := ptr_list hr
      obtain ⟨v, h1, h2⟩ := run_loadVar_part (P := g.P) (w := w) (β := β) (base := base) (off := off) (c.tab t ti ht) hrep hc hp
      refine ⟨v, ?_, h2⟩
      simp only [resRun, hv, asAddr, Sem.run_bind, Sem.run_pure, Result.andThen_ok]
      exact h1
    · simp at hp
theorem resL_run (c : CxOk g.P C) (h : TInv g σ w γ a) : ∀ (xs : List ResultVar) {ps : List PV}, resL C σ xs = some ps → ∃ vs, (xs.mapM (resRun g.P a.tmps)).run g.P w = .ok vs w ∧ RepL w (okOf g w γ) γ ps vs
  | [], ps, hp => by
    simp only [resL, Option.some.injEq] at hp
    subst hp
    exact ⟨[], rfl, .nil⟩
  | x :: xs, ps, hp => by
    unfold resL at hp
    split at hp
    · rename_i p hx
      split at hp
      · rename_i qs hxs
        obtain rfl := Option.some.inj hp
        obtain ⟨v, h1, h2⟩ := resOf_run c h hx
        obtain ⟨vs, h3, h4⟩ := resL_run c h xs hxs
        refine ⟨v :: vs, ?_, .cons h2 h4⟩
        rw [List.mapM_cons]
        simp only [Sem.run_bind, h1, Result.andThen_ok, h3, Sem.run_pure]
      · simp at hp
    · simp at hp
theorem typedR_rep : ∀ (ts : List TypeId) {ps : List PV} {vs : List Value}, RepL w ok γ ps vs → RepL w ok γ (typedR C ts ps) vs
  | [], _, _, h => by unfold typedR; exact h
  | t :: ts, [], _, h => by unfold typedR; exact h
  | t :: ts, p :: ps, vs, h => by
    obtain ⟨v, us, rfl, h1, h2⟩ := h.cons_inv
    unfold typedR
    exact .cons (typed_rep h1) (typedR_rep ts h2)
/-- What the results come to as one value. -/
def tupV (vs : List Value) : Value := if h : vs.toArray.size = 1 then vs.toArray[0] else .tuple vs.toArray
theorem tup_rep {ps : List PV} {vs : List Value} (h : RepL w ok γ ps vs) : Rep w ok γ (tupP ps) (tupV vs) := by
  match ps, h with
  | [p], h =>
    obtain ⟨v, us, rfl, h1, h2⟩ := h.cons_inv
    obtain rfl := h2.nil_inv
    exact h1
  | [], h =>
    obtain rfl := h.nil_inv
    exact Rep.tup' .nil
  | p :: q :: ps, h =>
    have hl := h.1
    have : tupV vs = .tuple vs.toArray := by
      unfold tupV
      rw [dif_neg]
      simp [hl]
    rw [this]
    exact Rep.tup' h
theorem results_run {fn : Func} {vs : List Value} (hvs : (fn.results.toList.mapM (resRun g.P a.tmps)).run g.P w = .ok vs w) : (results fn a.tmps).run g.P w = .ok (tupV vs) w := by
  have : (fn.results.mapM (resRun g.P a.tmps)).run g.P w = .ok vs.toArray w := by
    rw [Array.mapM_eq_mapM_toList]
    simp only [Sem.run_map, hvs]
    rfl
  rw [results_def (P := g.P)]
  simp only [Sem.run_bind, this, Result.andThen_ok, Sem.run_pure]
  rfl
theorem resAll_run (c : CxOk g.P C) (h : TInv g σ w γ a) {fn : Func} {p : PV} (hp : resAll C fn σ = some p) {ok' : Nat → Prop} (b1 : ∀ β, okOf g w γ β → ok' β) (b2 : ∀ i v β, γ i = some v → blk v = some β → ok' β) :
    ∃ v, (results fn a.tmps).run g.P w = .ok v w ∧ Rep w ok' γ0 p v := by
  have hb := borrow_rep' h.m (fun _ _ h => h) b1 (fun i _ v β _ hv hβ => b2 i v β hv hβ) 8
  unfold resAll at hp
  split at hp
  · rename_i ps hq
    obtain rfl := Option.some.inj hp
    obtain ⟨vs, h1, h2⟩ := resL_run c h _ hq
    exact ⟨tupV vs, results_run h1, tup_rep (typedL_rep _ ⟨by simp [h2.1], borrow_list hb h2.2⟩)⟩
  · simp at hp

theorem DfOk.shut {b : Nat} {w : World} {γ : Nat → Option Value} {D : Nat} (o : Obj) : ∀ {ds : List Deferred}, DfOk b w γ ds → (∀ d ∈ ds, d ≠ { target := .collected D, args := #[] }) → DfOk b (w.putObj D o) γ ds
  | [], _, _ => trivial
  | d :: ds, ⟨⟨D', h0, h1, h2, h3, h4⟩, h⟩, hn => by
    refine ⟨⟨D', h0, h1, ?_, h3, h4⟩, h.shut o fun d' hd => hn d' (List.mem_cons_of_mem _ hd)⟩
    rw [World.putObj_heap_other fun e => hn d (List.mem_cons_self ..) (by rw [h1, e])]
    exact h2
/-! ### The mark of a function that was ranged over -/
theorem Rep.shut {D : Nat} {x : Option (List Deferred)} (hD : w.heap[D]? = some (.deferred x)) (o' : Obj) {p : PV} {v : Value} (h : Rep w ok γ p v) : Rep (w.putObj D o') ok γ p v := by
  have hc : ∀ (ad : Addr) (u : Value), w.cell? ad = some u → (w.putObj D o').cell? ad = some u := by
    intro ad u hu
    rw [← hu]
    refine World.cell?_of_block ?_
    refine World.putObj_heap_other fun e => ?_
    unfold World.cell? at hu
    rw [e, hD] at hu
    simp at hu
  induction h with
  | junk v => exact .junk v
  | b x => exact .b x
  | i k x => exact .i k x
  | s x => exact .s x
  | sl T xs A c fn h1 hn hA h2 hfv ih =>
    refine .sl T xs A c fn h1 hn (fun hx => ?_) h2 ih
    obtain ⟨ad, ha, ho, hcell⟩ := hA hx
    exact ⟨ad, ha, ho, fun i j hi hj => hc _ _ (hcell i j hi hj)⟩
  | slz T xs ad c h ih => exact .slz T xs ad c ih
  | nsl e T => exact .nsl e T
  | nils => exact .nils
  | own i v h => exact .own i v h
  | ref i off β h => exact .ref i off β h
  | eref i T ix off β n c h => exact .eref i T ix off β n c h
  | yld i β h => exact .yld i β h
  | ptr cs off β base fn ho h1 hfr ih => exact .ptr cs off β base fn ho (fun j hj => hc _ _ (h1 j hj)) ih
  | nilp => exact .nilp
  | fn k a c fs cs ha h0 h1 h2 ih1 ih2 => exact .fn k a c fs cs ha h0 ih1 ih2
  | nilf => exact .nilf
  | agg xs vs hl ho h ih => exact .agg xs vs hl ho ih
  | tup xs vs hl h ih => exact .tup xs vs hl ih
  | iface t p v h ih => exact .iface t p v ih
  | nili => exact .nili
theorem shut_inv {n m : Nat} (h : TInv g σ w γ a) (hc : ChOk [] σ.T) (h1 : σ.T.length = n) (h2 : σ.H.length = m) {D : Nat} (h0 : g.w0.heap.size ≤ D) (hD : w.heap[D]? = some (.deferred (some []))) (hnD : ∀ i v, γ i = some v → blk v ≠ some D) {ds : List Deferred} (hdf : DfOk g.w0.heap.size (w.putObj D (.deferred none)) γ ds) : CInv g n m σ { a with defers := ds } (w.putObj D (.deferred none)) := by
  have hsz : (w.putObj D (.deferred none)).heap.size = w.heap.size := by simp [World.putObj]
  have hok : ∀ β, okOf g w γ β → okOf g (w.putObj D (.deferred none)) γ β := fun β hβ => ⟨hβ.1, by rw [hsz]; exact hβ.2.1, hβ.2.2⟩
  have tr : ∀ {δ : Nat → Option Value} {p : PV} {u : Value}, Rep w (okOf g w γ) δ p u → Rep (w.putObj D (.deferred none)) (okOf g (w.putObj D (.deferred none)) γ) δ p u := fun h => (h.shut hD _).mono (fun _ _ => rfl) hok fun _ _ => rfl
  have hoth : ∀ k, k ≠ D → (w.putObj D (.deferred none)).heap[k]? = w.heap[k]? := fun k hk => World.putObj_heap_other hk
  refine ⟨⟨⟨γ, ⟨h.m.dom, fun i b hi => ?_, h.m.apart, fun i v β h3 h4 => by rw [hsz]; exact h.m.old i v β h3 h4, ?_, fun n hn => tr (h.m.glob n hn), h.m.fx, h.m.fx8⟩, fun t => ?_, h.sz, hdf⟩, hc⟩, h1, h2⟩
  · obtain ⟨v, hv, hb⟩ := h.m.blks i b hi
    exact ⟨v, hv, hb.tr false 0 (fun p u hp _ => tr hp) fun β hβ => hoth β fun e => hnD i v hv (e ▸ hβ)⟩
  · exact ⟨h.m.fr.os, h.m.fr.tape, h.m.fr.output, by rw [hsz]; exact h.m.fr.size, fun k hk hr => by rw [hoth k (by omega)]; exact h.m.fr.block k hk hr⟩
  · have := h.t t
    generalize σ.T.getD t .junk = p at this
    cases p with
    | gd ch q =>
      rcases this with ⟨h3, h4⟩ | h3
      · exact .inl ⟨h3, tr h4⟩
      · exact .inr h3
    | _ => exact RepG.of (tr this)
end

section
variable {P : Program} {C : Cx}
theorem getD_append_rep {α : Type} (l : List α) (n t : Nat) (d : α) : (l ++ List.replicate n d).getD t d = l.getD t d := by
  simp only [List.getD, List.getElem?_append, List.getElem?_replicate]
  by_cases h : t < l.length
  · simp [h]
  · rw [if_neg h, List.getElem?_eq_none (Nat.le_of_not_lt h)]
    split <;> rfl

/-- A function's call, out of what the interpreter says of its body. -/
theorem calls_of_ev {g : GI} (hP : g.P = P) (c : CxOk P C) (hgl : Same C g) (hm : P.follows .mixedOrders = true) {K : Keep} {L : Lam} {f : FuncId} {fn : Func} {cd : Code} (hf : P.funcs[f]? = some fn) (hb : fn.body = some cd) (hok : okCode cd = true) {n m : Nat}
    (hl : LoopsOk C K L n m (loopsOf cd)) (hrf : RFOk g L none 0 n m (rfsOf cd)) {k : Ex → St → Option R} {rr : R} {σ0 : St} {args : Array Value} {w : World} (hi : CInv g n m σ0 { tmps := args ++ Array.replicate (fn.ntmps - args.size) undef, defers := [] } w)
    (he : ev C K L cd σ0 k = some rr) {Rr : Ending → World → Prop}
    (hk : ∀ ex σ a' w', CInv g n m σ a' w' → k ex σ = some rr → (ex = .normal ∨ ex = .ret) ∧ ∃ v, (results fn a'.tmps).run P w' = .ok v w' ∧ Rr (.returned v) w') : Calls P f args w Rr := by
  subst hP
  refine (callsFw (r := none) (n := 0)).1 (callsIn_of_wp_marks hf hb trivial ?_)
  refine ev_ok (g := g) c hgl hm cd hok hl hrf σ0 _ w k rr _ he hi fun ex σ a' w' hs hkk => ?_
  have fin : LeavesInM (Fw none) 0 g.P fn a'.tmps Rr a'.defers .returning w' := by
    generalize hds : a'.defers = ds
    clear he
    induction ds generalizing a' w' with
    | nil => exact (hk ex σ a' w' hs hkk).2
    | cons d ds ih =>
      obtain ⟨⟨γ, h⟩, hc⟩ := hs.s
      have hdf := h.df
      rw [hds] at hdf
      obtain ⟨⟨D, h0, h1, h2, h3, h4⟩, h5⟩ := hdf
      refine ⟨by simp, .inl ⟨D, _, by rw [h1], run_takeDeferred h2, ?_⟩⟩
      exact ih { a' with defers := ds } _ (shut_inv (ds := ds) h hc hs.n hs.m h0 h2 h3 (h5.shut _ (h1 ▸ h4))) rfl
  obtain ⟨h1, _⟩ := hk ex σ a' w' hs hkk
  rcases h1 with rfl | rfl
  · exact fin
  · exact fin

theorem memOf_look (n : Nat) (os : Heap) (i : Nat) : look (memOf n os) i = look os i := by
  unfold look memOf
  rw [getD_append_rep]
theorem init_inv {g : GI} {w : World} {γ : Nat → Option Value} {os : Heap} (hlen8 : os.length = 8) (m : MInv g os w γ) {ps : List PV} {args : List Value} (hr : RepL w (okOf g w γ) γ ps args) {n : Nat} (hlen : ps.length ≤ n) (hb : g.w0.heap.size ≤ w.heap.size) :
    CInv g n (n + 16) ⟨ps ++ List.replicate (n - ps.length) .junk, memOf n os⟩ { tmps := args.toArray ++ Array.replicate (n - args.toArray.size) undef, defers := [] } w := by
  refine ⟨⟨⟨γ, m.congr fun i => memOf_look n os i, fun t => ?_, ?_, trivial⟩, fun t ch q ht => ?_⟩, ?_, ?_⟩
  · simp only []
    rw [getD_append_rep]
    have hv : (args.toArray ++ Array.replicate (n - args.toArray.size) undef).getD t undef = args.getD t undef := by
      have := getD_append_rep args (n - args.toArray.size) t undef
      rw [← this]
      simp only [Array.getD_eq_getD_getElem?, List.getD, ← Array.getElem?_toList]
      simp
    rw [hv]
    by_cases ht : t < ps.length
    · have := hr.2 t ps[t] (by simp [ht])
      simp only [List.getD, List.getElem?_eq_getElem ht, Option.getD_some]
      exact RepG.of this
    · simp only [List.getD, List.getElem?_eq_none (Nat.le_of_not_lt ht)]
      exact Rep.junk _
  · simp [hr.1]
  · simp only [] at ht
    rw [getD_append_rep] at ht
    by_cases ht' : t < ps.length
    · have := hr.2 t ps[t] (by simp [ht'])
      simp only [List.getD, List.getElem?_eq_getElem ht', Option.getD_some] at ht
      rw [ht] at this
      cases this
    · simp [List.getD, List.getElem?_eq_none (Nat.le_of_not_lt ht')] at ht
  · simp; omega
  · simp [memOf, hlen8]; omega
theorem noObj_look (i : Nat) : look noObjs i = none := by
  unfold look noObjs
  match i with
  | 0 | 1 | 2 | 3 | 4 | 5 | 6 | 7 => rfl
  | i + 8 => simp

/-- A function without objects: what the interpreter says is what a call gives. -/
theorem call_of_ev (c : CxOk P C) (ht : C.ties = []) (hrl : ∀ r, C.rl r) (hm : P.follows .mixedOrders = true) {K : Keep} {L : Lam} {f : FuncId} {fn : Func} {cd : Code} (hf : P.funcs[f]? = some fn) (hb : fn.body = some cd) (hok : okCode cd = true)
    (hl : LoopsOk C K L fn.ntmps (fn.ntmps + 16) (loopsOf cd)) (hrf : ∀ g, g.P = P → g.gl = C.gl → RFOk g L none 0 fn.ntmps (fn.ntmps + 16) (rfsOf cd)) {ps : List PV} {r : PV} (hlen : Nat.ble ps.length fn.ntmps = true) (he : evF C K L fn ps = some r) : CallOk P C.gl f ps r := by
  intro w ok args hokl hgl hrep
  have hlen := Nat.le_of_ble_eq_true hlen
  let g : GI := ⟨P, w, ok, fun _ => False, C.gl, fun _ => none, { state := .ready, pending := none, fn := 0, tmps := #[], params := #[], assign := .skip, body := .skip, defers := 0 }⟩
  unfold evF evFn at he
  rw [hb] at he
  simp only [] at he
  have hoks : ∀ β, ok β → okOf g w γ0 β := fun β hβ => ⟨.inl hβ, hokl β hβ, fun i v h => by simp [γ0] at h⟩
  have minv : MInv g noObjs w γ0 := by
    refine ⟨fun _ _ => rfl, fun i b h => ?_, fun i j v u β h => by simp [γ0] at h, fun i v β h => by simp [γ0] at h, ⟨rfl, rfl, rfl, Nat.le_refl _, fun _ _ _ => rfl⟩, fun n hn => (hgl n hn).mono (fun _ _ => rfl) hoks fun _ _ => rfl, fun i v h => by simp [g] at h, fun i h => rfl⟩
    rw [noObj_look] at h
    simp at h
  have hrep' : RepL w (okOf g w γ0) γ0 ps args := ⟨hrep.1, fun j p hp => (hrep.2 j p hp).mono (fun _ _ => rfl) hoks fun _ _ => rfl⟩
  cases he' : ev C K L cd ⟨ps ++ List.replicate (fn.ntmps - ps.length) .junk, memOf fn.ntmps noObjs⟩ (kFn C fn) with
  | none => rw [he'] at he; simp at he
  | some rr =>
    rw [he'] at he
    simp only [Option.some.injEq] at he
    refine calls_of_ev (g := g) rfl c ⟨rfl, hrl _, by rw [ht]; exact fun x h => by simp at h⟩ hm hf hb hok hl (hrf g rfl rfl) (init_inv rfl minv hrep' hlen (Nat.le_refl _)) he' fun ex σ a' w' hs hk => ?_
    have fin : ∀ p, resAll C fn σ = some p → some (p, ([] : Heap)) = some rr → ∃ v, (results fn a'.tmps).run P w' = .ok v w' ∧ (∃ v', Ending.returned v = .returned v' ∧ Below w.heap.size w w' ∧ Rep w' (fun β => (ok β ∨ w.heap.size ≤ β) ∧ β < w'.heap.size) (fun _ => none) r v') := by
      intro p hp hpr
      obtain rfl := Option.some.inj hpr
      obtain ⟨⟨γ, h⟩, _⟩ := hs.s
      obtain ⟨v, h1, h2⟩ := resAll_run (g := g) c h hp (ok' := fun β => (ok β ∨ w.heap.size ≤ β) ∧ β < w'.heap.size) (fun β hβ => ⟨match hβ.1 with | .inl h => .inl h | .inr (.inl h) => (h : False).elim | .inr (.inr h) => .inr h, hβ.2.1⟩) (fun i v β hv hβ => by
        have := h.m.old i v β hv hβ
        exact ⟨.inr (this.1.resolve_left id), this.2⟩)
      refine ⟨v, h1, v, rfl, ⟨h.m.fr.os, h.m.fr.tape, h.m.fr.output, h.m.fr.size, fun k hk => h.m.fr.block k hk id⟩, ?_⟩
      rw [← he]
      exact h2
    cases ex with
    | exit i => simp [kFn] at hk
    | normal =>
      simp only [kFn] at hk
      cases hr : resAll C fn σ with
      | none => rw [hr] at hk; simp at hk
      | some p => rw [hr] at hk; exact ⟨.inl rfl, fin p hr hk⟩
    | ret =>
      simp only [kFn] at hk
      cases hr : resAll C fn σ with
      | none => rw [hr] at hk; simp at hk
      | some p => rw [hr] at hk; exact ⟨.inr rfl, fin p hr hk⟩
end
end Go.Proofs.Ytklgaodfakdjpaa.Ev
/- Functions that are handed objects, or make some: from the interpreter's answer to a call's. -/
namespace Go.Proofs.Ytklgaodfakdjpaa.Ev
open Go Go.RowKit

section
variable {g : GI} {C : Cx} {w : World} {γ : Nat → Option Value} {a : Act} {σ : St} {ok : Nat → Prop} {H : Heap} {ms : List Nat}

/-- Of the memory, what is kept. -/
theorem keep_inv (m : MInv g H w γ) (hid : IdsOk H ms) {n0 : Nat} (hpre : ∀ i, i < n0 → ms[i]? = some i) (hfx : ∀ i v, g.fx i = some v → i < n0) : MInv g (ms.map fun i => renB (pos ms) (look H i)) w (subγ γ ms) := by
  have hlk : ∀ k, look (ms.map fun i => renB (pos ms) (look H i)) k = (ms[k]?).bind fun i => renB (pos ms) (look H i) := by
    intro k
    unfold look
    simp only [List.getD, List.getElem?_map]
    cases ms[k]? <;> rfl
  have hok : ∀ β, okOf g w γ β → okOf g w (subγ γ ms) β := fun β h => ⟨h.1, h.2.1, fun k v hv => by
    unfold subγ at hv
    rw [Option.bind_eq_some_iff] at hv
    obtain ⟨i, _, hv⟩ := hv
    exact h.2.2 i v hv⟩
  refine ⟨fun k hk => ?_, fun k b hk => ?_, fun k k' v u β h1 h2 h3 h4 => sub_apart m hid h1 h2 h3 h4, fun k v β h1 h2 => ?_, m.fr, fun n hn => (m.glob n hn).mono (fun _ _ => rfl) hok fun _ _ => rfl, fun k v hv => ?_, m.fx8⟩
  · rw [hlk] at hk
    unfold subγ
    cases hi : ms[k]? with
    | none => rfl
    | some i =>
      rw [hi] at hk
      have := (hid.at_ k i hi).2
      simp only [Option.bind_some] at hk
      rw [← renB_isSome (pos ms), hk] at this
      simp at this
  · rw [hlk, Option.bind_eq_some_iff] at hk
    obtain ⟨i, hi, hk⟩ := hk
    cases hl : look H i with
    | none => rw [hl] at hk; simp [renB] at hk
    | some b0 =>
      rw [hl] at hk
      obtain ⟨v, hv, hb⟩ := m.blks i b0 hl
      exact ⟨v, by unfold subγ; rw [hi]; exact hv, BlkOk.ren (g := g) (g' := g) (γ := γ) hb rfl rfl (fun p u h _ => ren_rep hok (fun i' k' hp _ => sub_ids hid hp) h) (fun _ p u hp h => h.free hp hok) hk⟩
  · unfold subγ at h1
    rw [Option.bind_eq_some_iff] at h1
    obtain ⟨i, _, h1⟩ := h1
    exact m.old i v β h1 h2
  · have hk := hpre k (hfx k v hv)
    rw [hlk, hk]
    simp only [Option.bind_some]
    rw [renB_row]
    rcases m.fx k v hv with h | ⟨h1, h2⟩
    · left; rw [h]; rfl
    · exact .inr ⟨h1, by unfold subγ; rw [hk]; exact h2⟩
theorem keep_repL (hid : IdsOk H ms) {ps : List PV} {vs : List Value} (h : RepL w (okOf g w γ) γ ps vs) : RepL w (okOf g w (subγ γ ms)) (subγ γ ms) (ps.map (PV.ren (pos ms))) vs :=
  ren_repL (fun β h => ⟨h.1, h.2.1, fun k v hv => by
    unfold subγ at hv
    rw [Option.bind_eq_some_iff] at hv
    obtain ⟨i, _, hv⟩ := hv
    exact h.2.2 i v hv⟩) (fun i k hp _ => sub_ids hid hp) h

/-- So many empty slices of one's own beside. -/
def extγ (γ : Nat → Option Value) (n k : Nat) (i : Nat) : Option Value := match Nat.ble n i && Nat.ble (i + 1) (n + k) with
  | true => some (.slice none 0 0)
  | false => γ i
theorem extγ_in {n k i : Nat} (h1 : n ≤ i) (h2 : i < n + k) : extγ γ n k i = some (.slice none 0 0) := by
  unfold extγ
  rw [Nat.ble_eq_true_of_le h1, Nat.ble_eq_true_of_le (show i + 1 ≤ n + k from h2)]
  rfl
theorem extγ_out {n k i : Nat} (h : i < n ∨ n + k ≤ i) : extγ γ n k i = γ i := by
  unfold extγ
  have : (Nat.ble n i && Nat.ble (i + 1) (n + k)) = false := by
    rw [Bool.and_eq_false_iff]
    rcases h with h | h
    · left
      cases hb : Nat.ble n i with
      | false => rfl
      | true => have := Nat.le_of_ble_eq_true hb; omega
    · right
      cases hb : Nat.ble (i + 1) (n + k) with
      | false => rfl
      | true => have := Nat.le_of_ble_eq_true hb; omega
  rw [this]
def EmptyRow (C : Cx) (b : Option Blk) : Prop := ∃ e T, b = some (.row T e []) ∧ C.ety e = some T
theorem absL_rep : ∀ {ps : List PV} {n : Nat} {qs : List PV} {bs : List (Option Blk)}, absL C n ps = some (qs, bs) → (∀ b ∈ bs, EmptyRow C b) ∧ qs.length = ps.length ∧
    ∀ {vs : List Value} {ok' : Nat → Prop} {γ' : Nat → Option Value}, RepL w ok γ ps vs → (∀ β, ok β → ok' β) → (∀ i, γ i ≠ none → γ' i = γ i) → (∀ j, j < bs.length → γ' (n + j) = some (.slice none 0 0)) → RepL w ok' γ' qs vs
  | [], n, qs, bs, h => by
    simp only [absL, Option.some.injEq, Prod.mk.injEq] at h
    obtain ⟨rfl, rfl⟩ := h
    exact ⟨fun b hb => by simp at hb, rfl, fun hr _ _ _ => by rw [hr.nil_inv]; exact .nil⟩
  | p :: ps, n, qs, bs, h => by
    by_cases hp : ∃ e T, p = .nsl e T
    · obtain ⟨e, T, rfl⟩ := hp
      unfold absL at h
      cases he : C.ety e with
      | none => rw [he] at h; simp at h
      | some T' =>
        rw [he] at h
        simp only [] at h
        cases hT : decide (T' = T) with
        | false => rw [hT] at h; simp at h
        | true =>
          rw [hT] at h
          have hT : T' = T := by simpa using hT
          subst hT
          simp only [] at h
          cases ha : absL C (n + 1) ps with
          | none => rw [ha] at h; simp at h
          | some x =>
            obtain ⟨qs', bs'⟩ := x
            rw [ha] at h
            simp only [Option.some.injEq, Prod.mk.injEq] at h
            obtain ⟨rfl, rfl⟩ := h
            obtain ⟨h1, h2, h3⟩ := absL_rep ha
            refine ⟨fun b hb => ?_, by simp [h2], fun hr hok hγ hb => ?_⟩
            · rcases List.mem_cons.1 hb with rfl | hb
              · exact ⟨e, T', rfl, he⟩
              · exact h1 b hb
            · obtain ⟨v, us, rfl, k1, k2⟩ := hr.cons_inv
              refine .cons ?_ (h3 k2 hok hγ fun j hj => by have := hb (j + 1) (by simpa using hj); rw [← this]; congr 1; omega)
              cases k1
              exact .own n _ (by have := hb 0 (by simp); simpa using this)
    · have hq : absL C n (p :: ps) = match absL C n ps with | some (qs, bs) => some (p.soft :: qs, bs) | none => none := by
        cases p <;> first | rfl | exact absurd ⟨_, _, rfl⟩ hp
      rw [hq] at h
      cases ha : absL C n ps with
      | none => rw [ha] at h; simp at h
      | some x =>
        obtain ⟨qs', bs'⟩ := x
        rw [ha] at h
        simp only [Option.some.injEq, Prod.mk.injEq] at h
        obtain ⟨rfl, rfl⟩ := h
        obtain ⟨h1, h2, h3⟩ := absL_rep ha
        refine ⟨h1, by simp [h2], fun hr hok hγ hb => ?_⟩
        obtain ⟨v, us, rfl, k1, k2⟩ := hr.cons_inv
        exact .cons (soft_rep (k1.mono (fun _ _ => rfl) hok fun i hi => hγ i (k1.live i hi))) (h3 k2 hok hγ hb)
theorem soft_one {p : PV} (h : p.one = true) : p.soft.one = true := by cases p <;> first | rfl | exact h
theorem absL_one : ∀ {ps : List PV} {n : Nat} {qs : List PV} {bs : List (Option Blk)}, absL C n ps = some (qs, bs) → True := fun _ => trivial
/-- The blocks behind. -/
theorem absB_rep : ∀ {os : List (Option Blk)} {n : Nat} {os' bs : List (Option Blk)}, absB C n os = some (os', bs) → (∀ b ∈ bs, EmptyRow C b) ∧ os'.length = os.length ∧
    ∀ k, (look os' k = look os k ∧ ∀ t ps, look os k ≠ some (.cells t ps)) ∨ ∃ t ps qs, look os k = some (.cells t ps) ∧ look os' k = some (.cells t qs) ∧
      ∀ {vs : List Value} {ok' : Nat → Prop} {γ' : Nat → Option Value}, RepL w ok γ ps vs → (∀ β, ok β → ok' β) → (∀ i, γ i ≠ none → γ' i = γ i) → (∀ j, j < bs.length → γ' (n + j) = some (.slice none 0 0)) → RepL w ok' γ' qs vs
  | [], n, os', bs, h => by
    simp only [absB, Option.some.injEq, Prod.mk.injEq] at h
    obtain ⟨rfl, rfl⟩ := h
    exact ⟨fun b hb => by simp at hb, rfl, fun k => .inl ⟨rfl, fun t ps hh => by simp [look] at hh⟩⟩
  | b :: os, n, os', bs, h => by
    by_cases hc : ∃ t ps, b = some (.cells t ps)
    · obtain ⟨t, ps, rfl⟩ := hc
      unfold absB at h
      cases ha : absL C n ps with
      | none => rw [ha] at h; simp at h
      | some x =>
        obtain ⟨qs, bs1⟩ := x
        rw [ha] at h
        simp only [] at h
        cases hb : absB C (n + bs1.length) os with
        | none => rw [hb] at h; simp at h
        | some y =>
          obtain ⟨os1, bs2⟩ := y
          rw [hb] at h
          simp only [Option.some.injEq, Prod.mk.injEq] at h
          obtain ⟨rfl, rfl⟩ := h
          obtain ⟨h1, h2, h3⟩ := absL_rep (w := w) (ok := ok) (γ := γ) ha
          obtain ⟨k1, k2, k3⟩ := absB_rep hb
          refine ⟨fun b hb => ?_, by simp [k2], fun k => ?_⟩
          · rcases List.mem_append.1 hb with hb | hb
            · exact h1 b hb
            · exact k1 b hb
          · cases k with
            | zero =>
              right
              refine ⟨t, ps, qs, rfl, rfl, fun hr hok hγ hbb => h3 hr hok hγ fun j hj => hbb j (by rw [List.length_append]; omega)⟩
            | succ k =>
              rcases k3 k with h' | ⟨t', ps', qs', e1, e2, e3⟩
              · exact .inl h'
              · exact .inr ⟨t', ps', qs', e1, e2, fun hr hok hγ hbb => e3 hr hok hγ fun j hj => by
                  have := hbb (bs1.length + j) (by rw [List.length_append]; omega)
                  rw [← this]; congr 1; omega⟩
    · have hq : absB C n (b :: os) = match absB C n os with | some (os', bs') => some (b :: os', bs') | none => none := by
        cases b with
        | none => rfl
        | some b => cases b <;> first | rfl | exact absurd ⟨_, _, rfl⟩ hc
      rw [hq] at h
      cases hb : absB C n os with
      | none => rw [hb] at h; simp at h
      | some y =>
        obtain ⟨os1, bs2⟩ := y
        rw [hb] at h
        simp only [Option.some.injEq, Prod.mk.injEq] at h
        obtain ⟨rfl, rfl⟩ := h
        obtain ⟨k1, k2, k3⟩ := absB_rep hb
        refine ⟨k1, by simp [k2], fun k => ?_⟩
        cases k with
        | zero => exact .inl ⟨rfl, fun t ps hh => hc ⟨t, ps, hh⟩⟩
        | succ k => exact k3 k

theorem look_app (xs ys : List (Option Blk)) (k : Nat) : look (xs ++ ys) k = if k < xs.length then look xs k else look ys (k - xs.length) := by
  unfold look
  simp only [List.getD, List.getElem?_append]
  split <;> rfl
theorem look_nones (n k : Nat) : look (List.replicate n none) k = none := by
  unfold look
  simp only [List.getD, List.getElem?_replicate]
  split <;> rfl

theorem packR_ok (c : CxOk g.P C) {n0 : Nat} (m : MInv g σ.H w γ) (hfx : ∀ i v, g.fx i = some v → i < n0) {rs : List PV} {vs : List Value} (h2 : RepL w (okOf g w γ) γ rs vs) {r : PV} {os' : Heap} (hp : packR C n0 rs σ = some (r, os')) :
    ∃ γ', MInv g os' w γ' ∧ Rep w (okOf g w γ') γ' r (tupV vs) := by
  unfold packR at hp
  generalize hms : packIds σ n0 rs = ms at hp
  split at hp
  · rename_i hc
    rw [Bool.and_eq_true] at hc
    have hid := IdsOk.of hc.1
    have hpre : ∀ i, i < n0 → ms[i]? = some i := fun i hi => pos_spec (isAt_spec (List.all_eq_true.1 hc.2 i (by simpa using hi)))
    have k1 := keep_inv m hid hpre hfx
    have k2 := keep_repL (g := g) hid h2
    generalize hos : (ms.map fun i => renB (pos ms) (look σ.H i)) = os at k1 hp
    have hol : os.length = ms.length := by rw [← hos]; simp
    generalize subγ γ ms = γ1 at k1 k2
    cases ha : absL C ms.length (rs.map (PV.ren (pos ms))) with
    | none => rw [ha] at hp; simp at hp
    | some x =>
      obtain ⟨qs, bs⟩ := x
      rw [ha] at hp
      simp only [] at hp
      cases hb : absB C (ms.length + bs.length) os with
      | none => rw [hb] at hp; simp at hp
      | some y =>
        obtain ⟨os1, cs⟩ := y
        rw [hb] at hp
        simp only [packTo] at hp
        split at hp
        · rename_i h8
          have h8 := Nat.le_of_ble_eq_true h8
          obtain ⟨rfl, rfl⟩ := Prod.mk.inj (Option.some.inj hp)
          obtain ⟨a1, a2, a3⟩ := absL_rep (w := w) (ok := okOf g w γ1) (γ := γ1) ha
          obtain ⟨b1, b2, b3⟩ := absB_rep (w := w) (ok := okOf g w γ1) (γ := γ1) hb
          have hdom : ∀ i, ms.length ≤ i → γ1 i = none := fun i hi => k1.dom i (by
            unfold look
            rw [List.getD, List.getElem?_eq_none (by omega)]
            rfl)
          have hext : ∀ i, γ1 i ≠ none → extγ γ1 ms.length (bs.length + cs.length) i = γ1 i := by
            intro i hi
            rcases Nat.lt_or_ge i ms.length with hl | hl
            · exact extγ_out (.inl hl)
            · exact absurd (hdom i hl) hi
          have hblk : ∀ i v β, extγ γ1 ms.length (bs.length + cs.length) i = some v → blk v = some β → γ1 i = some v := by
            intro i v β hi hv
            by_cases hin : ms.length ≤ i ∧ i < ms.length + (bs.length + cs.length)
            · rw [extγ_in hin.1 hin.2] at hi
              obtain rfl := Option.some.inj hi
              simp [blk] at hv
            · rw [extγ_out (by omega)] at hi
              exact hi
          have hok : ∀ β, okOf g w γ1 β → okOf g w (extγ γ1 ms.length (bs.length + cs.length)) β := fun β hβ => ⟨hβ.1, hβ.2.1, fun i v hi hv => hβ.2.2 i v (hblk i v β hi hv) hv⟩
          have tr : ∀ p u, Rep w (okOf g w γ1) γ1 p u → Rep w (okOf g w (extγ γ1 ms.length (bs.length + cs.length))) (extγ γ1 ms.length (bs.length + cs.length)) p u := fun p u hp => hp.mono (fun _ _ => rfl) hok fun i hi => hext i (hp.live i hi)
          have hlk : ∀ k, look (os1 ++ bs ++ cs ++ List.replicate (8 - (os1 ++ bs ++ cs).length) none) k = if k < ms.length then look os1 k else look (bs ++ cs) (k - ms.length) := by
            intro k
            rw [look_app, List.append_assoc, look_app, b2, hol]
            split
            · rfl
            · rename_i hk
              rw [look_nones, if_neg (by simp only [List.length_append] at hk; omega)]
              unfold look
              rw [List.getD, List.getElem?_eq_none (by simp only [List.length_append] at hk ⊢; omega)]
              rfl
          have hrow : ∀ k, ms.length ≤ k → look (bs ++ cs) (k - ms.length) = none ∨ (k < ms.length + (bs.length + cs.length) ∧ EmptyRow C (look (bs ++ cs) (k - ms.length))) := by
            intro k hk
            by_cases hin : k - ms.length < (bs ++ cs).length
            · right
              refine ⟨by simp only [List.length_append] at hin; omega, ?_⟩
              have : look (bs ++ cs) (k - ms.length) = (bs ++ cs)[k - ms.length] := by
                unfold look
                rw [List.getD, List.getElem?_eq_getElem hin]
                rfl
              rw [this]
              rcases List.mem_append.1 (List.getElem_mem hin) with hm | hm
              · exact a1 _ hm
              · exact b1 _ hm
            · left
              unfold look
              rw [List.getD, List.getElem?_eq_none (by omega)]
              rfl
          refine ⟨extγ γ1 ms.length (bs.length + cs.length), ⟨fun k hk => ?_, fun k b hk => ?_, fun i j v u β h3 h4 h5 h6 => k1.apart i j v u β (hblk i v β h3 h5) (hblk j u β h4 h6) h5 h6, fun i v β h3 h4 => k1.old i v β (hblk i v β h3 h4) h4, k1.fr, fun n hn => (k1.glob n hn).mono (fun _ _ => rfl) hok fun _ _ => rfl, fun i v hv => ?_, k1.fx8⟩, ?_⟩
          · rw [hlk] at hk
            split at hk
            · rename_i hkl
              rw [extγ_out (.inl hkl)]
              refine k1.dom k ?_
              rcases b3 k with ⟨e1, _⟩ | ⟨t, ps, qs', e1, e2, _⟩
              · rw [← e1]; exact hk
              · rw [hk] at e2; simp at e2
            · rename_i hkl
              rcases hrow k (by omega) with h' | ⟨_, e, T, h', _⟩
              · by_cases hin : k < ms.length + (bs.length + cs.length)
                · exfalso
                  have hin' : k - ms.length < (bs ++ cs).length := by rw [List.length_append]; omega
                  have hm : EmptyRow C ((bs ++ cs)[k - ms.length]) := by
                    rcases List.mem_append.1 (List.getElem_mem hin') with hm | hm
                    · exact a1 _ hm
                    · exact b1 _ hm
                  have : look (bs ++ cs) (k - ms.length) = (bs ++ cs)[k - ms.length] := by
                    unfold look
                    rw [List.getD, List.getElem?_eq_getElem hin']
                    rfl
                  rw [h'] at this
                  rw [← this] at hm
                  obtain ⟨e, T, he, _⟩ := hm
                  simp at he
                · rw [extγ_out (by omega)]
                  exact hdom k (by omega)
              · rw [hk] at h'; simp at h'
          · rw [hlk] at hk
            split at hk
            · rename_i hkl
              rw [extγ_out (.inl hkl)]
              rcases b3 k with ⟨e1, e2⟩ | ⟨t, ps, qs', e1, e2, e3⟩
              · rw [e1] at hk
                obtain ⟨v, hv, hbk⟩ := k1.blks k b hk
                exact ⟨v, hv, hbk.tr false 0 (fun p u hp _ => tr p u hp) fun _ _ => rfl⟩
              · rw [e2] at hk
                obtain rfl := Option.some.inj hk
                obtain ⟨v, hv, β, us, rfl, h3, h4, h5⟩ := k1.blks k _ e1
                exact ⟨_, hv, β, us, rfl, h3, e3 h4 hok hext (fun j hj => extγ_in (by omega) (by omega)), h5⟩
            · rename_i hkl
              rcases hrow k (by omega) with h' | ⟨hk', e, T, h', he⟩
              · rw [h'] at hk; simp at hk
              · rw [h'] at hk
                obtain rfl := Option.some.inj hk
                exact ⟨.slice none 0 0, extγ_in (by omega) hk', [], by simpa using World.ownsRow_nil w 0 e T.size, c.ety e T he, fun k x j p hx hp => by simp at hx, fun u hu => by simp at hu⟩
          · have hin : i < ms.length := (List.getElem?_eq_some_iff.1 (hpre i (hfx i v hv))).1
            rw [hlk, if_pos hin, extγ_out (.inl hin)]
            rcases b3 i with ⟨e1, e2⟩ | ⟨t, ps, qs', e1, e2, e3⟩
            · rw [e1]; exact k1.fx i v hv
            · rw [e2]
              rcases k1.fx i v hv with h' | ⟨_, h'⟩
              · rw [e1] at h'; simp at h'
              · exact .inr ⟨rfl, h'⟩
          · exact tup_rep (a3 k2 hok hext fun j hj => extγ_in (by omega) (by omega))
        · simp at hp
  · simp at hp

theorem pack_ok (c : CxOk g.P C) {n m n0 : Nat} (hs : CInv g n m σ a w) (hfx : ∀ i v, g.fx i = some v → i < n0) {fn : Func} {r : PV} {os' : Heap} (hp : pack C n0 fn σ = some (r, os')) :
    ∃ v, (results fn a.tmps).run g.P w = .ok v w ∧ ∃ γ', MInv g os' w γ' ∧ Rep w (okOf g w γ') γ' r v := by
  obtain ⟨⟨γ, h⟩, _⟩ := hs.s
  unfold pack at hp
  cases hrs : resL C σ fn.results.toList with
  | none => rw [hrs] at hp; simp at hp
  | some rs =>
    rw [hrs] at hp
    obtain ⟨vs, h1, h2⟩ := resL_run c h _ hrs
    exact ⟨tupV vs, results_run h1, packR_ok c h.m hfx (typedR_rep (C := C) fn.resultTypes.toList h2) hp⟩
end

section
variable {P : Program} {C : Cx}
/-- A function with objects: what the interpreter says is what a call gives. -/
theorem obj_of_ev (c : CxOk P C) (hm : P.follows .mixedOrders = true) {K : Keep} {L : Lam} {f : FuncId} {fn : Func} {cd : Code} (hf : P.funcs[f]? = some fn) (hb : fn.body = some cd) (hok : okCode cd = true)
    (hl : LoopsOk C K L fn.ntmps (fn.ntmps + 16) (loopsOf cd)) (hrf : ∀ g, g.P = P → g.gl = C.gl → RFOk g L none 0 fn.ntmps (fn.ntmps + 16) (rfsOf cd)) {ps : List PV} {os : Heap} {r : PV} {os' : Heap} {n0 : Nat} (hlen : Nat.ble ps.length fn.ntmps = true) (he : evO C K L n0 fn ps os = some (r, os')) : ObjOkT P C.gl C.ties C.rl f ps os r os' := by
  intro g w γ args hP hgl hw hfx hties m hrep
  have hlen := Nat.le_of_ble_eq_true hlen
  unfold evO at he
  split at he
  · rename_i hn
    rw [okN, Bool.and_eq_true] at hn
    have h8 := Nat.eq_of_beq_eq_true hn.1
    rw [hb] at he
    simp only [] at he
    refine calls_of_ev (g := g) hP c ⟨hgl.symm, hties⟩ hm hf hb hok hl (hrf g hP hgl) (init_inv h8 m hrep hlen (by rw [hw]; exact Nat.le_refl _)) he fun ex σ a' w' hs hk => ?_
    have fin : pack C n0 fn σ = some (r, os') → ∃ v, (results fn a'.tmps).run P w' = .ok v w' ∧ ∃ v' γ', Ending.returned v = .returned v' ∧ MInv g os' w' γ' ∧ Rep w' (okOf g w' γ') γ' r v' := by
      intro hp
      subst hP
      obtain ⟨v, h1, γ', h2, h3⟩ := pack_ok c hs (fun i v hv => by
        rw [hfx] at hv
        obtain ⟨h1, _, h3, _⟩ := fixOf_spec hv
        have := List.all_eq_true.1 hn.2 i (by simpa using h1)
        rw [Bool.or_eq_true] at this
        rcases this with h | h
        · exact Nat.le_of_ble_eq_true h
        · cases hl : look os i with
          | none => rw [hl] at h3; simp at h3
          | some b => rw [hl] at h; simp at h) hp
      exact ⟨v, h1, v, γ', rfl, h2, h3⟩
    cases ex with
    | exit i => simp [kObj] at hk
    | normal => exact ⟨.inl rfl, fin hk⟩
    | ret => exact ⟨.inr rfl, fin hk⟩
  · simp at he
end
end Go.Proofs.Ytklgaodfakdjpaa.Ev
