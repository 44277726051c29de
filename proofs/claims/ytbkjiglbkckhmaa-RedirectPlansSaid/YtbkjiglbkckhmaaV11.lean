/- The calculus of values, eleventh text: a region whose order is open, where no operation touches a box: each operation is shown once, at what all come to. -/
import Derived.Orders
import Derived.Test.YtbkjiglbkckhmaaV10
namespace Go.Proofs.YtbkjiglbkckhmaaV
open Go Go.RowKit

/-- The temporaries that an operation reads. -/
def tmpsOf (l : List Operand) : List Tmp := l.filterMap fun | .tmp t => some t | _ => none

/-- Every edge that binds goes to an earlier operation; what an operation reads out of the region, and its guard, it waits for; no two write one temporary. -/
def chk (ops : Array Oper) : Bool :=
  (List.range ops.size).all fun i => match ops[i]? with
    | none => false
    | some o =>
      (o.after.toList.all fun e => !Region.binds .any e || decide (e.on < i)) &&
      ((List.range ops.size).all fun j => match ops[j]? with
        | none => false
        | some p => match p.dst with
          | none => true
          | some t => (j == i || p.dst != o.dst) &&
            (!(tmpsOf o.op.operands.toList).contains t || o.after.toList.any fun e => Region.binds .any e && e.on == j)) &&
      (match o.guard with
        | none => true
        | some (j, _) => o.after.toList.any fun e => Region.binds .any e && e.on == j)

/-- An operation that touches no box, wherever it comes up: what it reads is as it is at last. -/
def PureOp (P : Program) (ops : Array Oper) (o : Oper) (fin : List V) (bs : List Bx) : Prop :=
  ∃ x u, (∀ t, o.dst = some t → fin[t]? = some x) ∧ wantV ops o fin = some u ∧ (u = false → x = .tup []) ∧
    (u = true → ∀ ts, ts.length = fin.length → (∀ t ∈ tmpsOf o.op.operands.toList, ts[t]? = fin[t]?) → OpOk P o (fun ts' bs' => ts' = putV o.dst x ts ∧ bs' = bs) ts bs)

/-- The temporaries when some are listed. -/
def Mid (ops : Array Oper) (fin ts0 ts : List V) (listed : Array Bool) : Prop :=
  ts.length = fin.length ∧ (∀ (j : Nat) o t, ops[j]? = some o → o.dst = some t → listed.getD j true = true → ts[t]? = fin[t]?) ∧
  ∀ t, (∀ (j : Nat) o, ops[j]? = some o → o.dst = some t → listed.getD j true = false) → ts[t]? = ts0[t]?

theorem getD_listed {listed : Array Bool} {i j : Nat} {d : Bool} : (listed.setIfInBounds i true).getD j d = if i = j ∧ i < listed.size then true else listed.getD j d := by
  simp only [Array.getD_eq_getD_getElem?, Array.getElem?_setIfInBounds]
  by_cases h : i = j
  · subst h
    by_cases h2 : i < listed.size
    · simp [h2]
    · simp [h2]
  · simp [h]

theorem count_listed {listed : Array Bool} {i : Nat} (hi : i < listed.size) (hun : listed.getD i true = false) : ∀ l : List Nat, l.Nodup → i ∈ l →
    (l.filter fun j => !listed.getD j true).length = (l.filter fun j => !(listed.setIfInBounds i true).getD j true).length + 1
  | [], _, h => by cases h
  | j :: l, hnd, hmem => by
    have hnd' := List.nodup_cons.1 hnd
    by_cases hij : j = i
    · subst hij
      have hrest : l.filter (fun q => !(listed.setIfInBounds j true).getD q true) = l.filter (fun q => !listed.getD q true) := List.filter_congr fun q hq => by
        have hne : j ≠ q := fun e => hnd'.1 (e ▸ hq)
        rw [getD_listed, if_neg (fun h => hne h.1)]
      have e1 : (!listed.getD j true) = true := by rw [hun]; rfl
      have e2 : (!(listed.setIfInBounds j true).getD j true) = false := by rw [getD_listed, if_pos ⟨rfl, hi⟩]; rfl
      rw [List.filter_cons_of_pos (p := fun j => !listed.getD j true) e1, List.filter_cons_of_neg (by rw [e2]; simp), List.length_cons, hrest]
    · have hmem' : i ∈ l := (List.mem_cons.1 hmem).resolve_left fun h => hij h.symm
      have ih := count_listed hi hun l hnd'.2 hmem'
      have e : (!(listed.setIfInBounds i true).getD j true) = (!listed.getD j true) := by rw [getD_listed, if_neg (fun h => hij h.1.symm)]
      cases hb : (!listed.getD j true) with
      | true => rw [List.filter_cons_of_pos (p := fun j => !listed.getD j true) hb, List.filter_cons_of_pos (p := fun j => !(listed.setIfInBounds i true).getD j true) (e.trans hb), List.length_cons, List.length_cons, ih]
      | false => rw [List.filter_cons_of_neg (by rw [hb]; simp), List.filter_cons_of_neg (by rw [e, hb]; simp), ih]

theorem chk_row {ops : Array Oper} (h : chk ops = true) {i : Nat} {o : Oper} (ho : ops[i]? = some o) :
    (∀ e ∈ o.after.toList, Region.binds .any e = true → e.on < i) ∧
    (∀ (j : Nat) p t, ops[j]? = some p → p.dst = some t → (j = i ∨ p.dst ≠ o.dst) ∧ (t ∈ tmpsOf o.op.operands.toList → ∃ e ∈ o.after.toList, Region.binds .any e = true ∧ e.on = j)) ∧
    (∀ j b, o.guard = some (j, b) → ∃ e ∈ o.after.toList, Region.binds .any e = true ∧ e.on = j) := by
  have hi : i < ops.size := (Array.getElem?_eq_some_iff.1 ho).1
  have h1 := List.all_eq_true.1 h i (List.mem_range.2 hi)
  rw [ho] at h1
  simp only [Bool.and_eq_true] at h1
  obtain ⟨⟨h2, h3⟩, h4⟩ := h1
  refine ⟨fun e he hb => ?_, fun j p t hp ht => ?_, fun j b hg => ?_⟩
  · have := List.all_eq_true.1 h2 e he
    simpa [hb] using this
  · have hj : j < ops.size := (Array.getElem?_eq_some_iff.1 hp).1
    have h5 := List.all_eq_true.1 h3 j (List.mem_range.2 hj)
    rw [hp] at h5
    simp only [ht, Bool.and_eq_true, Bool.or_eq_true, beq_iff_eq, bne_iff_ne, Bool.not_eq_true', List.any_eq_true] at h5
    refine ⟨by rw [ht]; exact h5.1, fun hm => ?_⟩
    rcases h5.2 with h6 | ⟨e, he, h7⟩
    · have : (tmpsOf o.op.operands.toList).contains t = true := List.contains_iff_mem.2 hm
      rw [this] at h6
      cases h6
    · exact ⟨e, he, h7⟩
  · rw [hg] at h4
    simp only [List.any_eq_true, Bool.and_eq_true, beq_iff_eq] at h4
    exact h4

section
variable {P : Program} {m : Nat} {Q : Ex → List V → List Bx → Prop} {bs : List Bx} {ops : Array Oper} {fin ts0 : List V}

theorem any_sound (hc : chk ops = true) (hp : ∀ (i : Nat) o, ops[i]? = some o → PureOp P ops o fin bs) (hl : ts0.length = fin.length) (h0 : ∀ t, (∀ (j : Nat) o, ops[j]? = some o → o.dst ≠ some t) → ts0[t]? = fin[t]?)
    {T : Nat → Prop} {φ0 : List Value} {w0 : World} {K : Exit → Act → World → Prop} (hK : ∀ φ w a, Ext bs φ0 w0 bs φ w → Sim T bs φ w → Tm (okOf T bs φ) w φ fin a → K .normal a w) :
    ∀ (fuel : Nat) (listed : Array Bool) (ts : List V) φ w a, listed.size = ops.size → ((List.range ops.size).filter fun j => !listed.getD j true).length = fuel → Mid ops fin ts0 ts listed →
      Ext bs φ0 w0 bs φ w → Sim T bs φ w → Tm (okOf T bs φ) w φ ts a → wpAny P .any ops K fuel listed a w := by
  intro fuel
  induction fuel with
  | zero =>
    intro listed ts φ w a hsz hcnt hm he hs ht
    have hall : ∀ j, j < ops.size → listed.getD j true = true := fun j hj => by
      have h1 : (List.range ops.size).filter (fun j => !listed.getD j true) = [] := List.eq_nil_of_length_eq_zero hcnt
      have h2 := List.filter_eq_nil_iff.1 h1 j (List.mem_range.2 hj)
      simpa using h2
    refine ⟨?_, ?_⟩
    · unfold Region.ready
      refine List.filter_eq_nil_iff.2 fun j hj => ?_
      rw [hall j (List.mem_range.1 hj)]
      simp
    · have hts : ts = fin := by
        apply List.ext_getElem?
        intro t
        by_cases hd : ∃ (j : Nat) (o : Oper), ops[j]? = some o ∧ o.dst = some t
        · obtain ⟨j, o, ho, hdt⟩ := hd
          exact hm.2.1 j o t ho hdt (hall j (Array.getElem?_eq_some_iff.1 ho).1)
        · have hn : ∀ (j : Nat) o, ops[j]? = some o → o.dst ≠ some t := fun j o ho hdt => hd ⟨j, o, ho, hdt⟩
          exact (hm.2.2 t fun j o ho hdt => absurd hdt (hn j o ho)).trans (h0 t hn)
      subst hts
      exact hK φ w a he hs ht
  | succ fuel ih =>
    intro listed ts φ w a hsz hcnt hm he hs ht
    refine ⟨fun hr => ?_, fun i hi => ?_⟩
    · exfalso
      have hne : ∃ j, j < ops.size ∧ listed.getD j true = false := by
        match hf : (List.range ops.size).filter (fun j => !listed.getD j true) with
        | [] => rw [hf] at hcnt; simp at hcnt
        | j :: r =>
          have h1 : j ∈ (List.range ops.size).filter (fun j => !listed.getD j true) := by rw [hf]; exact List.mem_cons_self
          obtain ⟨h2, h3⟩ := List.mem_filter.1 h1
          exact ⟨j, List.mem_range.1 h2, by simpa using h3⟩
      obtain ⟨j, ⟨hj, hun⟩, hleast⟩ := exists_least hne
      obtain ⟨o, ho⟩ : ∃ o, ops[j]? = some o := ⟨_, Array.getElem?_eq_getElem hj⟩
      have hin : j ∈ Region.ready .any ops listed := by
        unfold Region.ready
        refine List.mem_filter.2 ⟨List.mem_range.2 hj, ?_⟩
        rw [hun, ho]
        simp only [Bool.not_false, Bool.true_and, Option.map_some, Option.getD_some]
        rw [← Array.all_toList]
        refine List.all_eq_true.2 fun e hem => ?_
        by_cases hb : Region.binds .any e = true
        · have hlt := (chk_row hc ho).1 e hem hb
          have hel : listed.getD e.on true = true := by
            cases hg : listed.getD e.on true with
            | true => rfl
            | false => exact absurd (hleast e.on ⟨by omega, hg⟩) (by omega)
          have : e.on < listed.size := by omega
          simp only [Array.getD_eq_getD_getElem?, Array.getElem?_eq_getElem this, Option.getD_some] at hel ⊢
          simp [hel]
        · simp [hb]
      rw [hr] at hin
      cases hin
    · obtain ⟨hun, o, ho, hall⟩ := mem_ready.1 hi
      have hilt : i < ops.size := (Array.getElem?_eq_some_iff.1 ho).1
      obtain ⟨c1, c2, c3⟩ := chk_row hc ho
      obtain ⟨x, u, p1, p2, p3, p4⟩ := hp i o ho
      have hlist : ∀ e ∈ o.after.toList, Region.binds .any e = true → listed.getD e.on true = true := fun e hem hb => by
        have h1 := hall e (by simpa using hem) hb
        have hlt := c1 e hem hb
        have : e.on < listed.size := by omega
        simp only [Array.getD_eq_getD_getElem?, Array.getElem?_eq_getElem this, Option.getD_some] at h1 ⊢
        exact h1
      have hag : ∀ t ∈ tmpsOf o.op.operands.toList, ts[t]? = fin[t]? := fun t htm => by
        by_cases hd : ∃ (j : Nat) (p : Oper), ops[j]? = some p ∧ p.dst = some t
        · obtain ⟨j, p, hpj, hdt⟩ := hd
          obtain ⟨e, hem, hb, rfl⟩ := (c2 j p t hpj hdt).2 htm
          exact hm.2.1 e.on p t hpj hdt (hlist e hem hb)
        · have hn : ∀ (j : Nat) o, ops[j]? = some o → o.dst ≠ some t := fun j o ho hdt => hd ⟨j, o, ho, hdt⟩
          exact (hm.2.2 t fun j o ho hdt => absurd hdt (hn j o ho)).trans (h0 t hn)
      have hwv : wantV ops o ts = some u := by
        rw [← p2]
        unfold wantV
        cases hg : o.guard with
        | none => rfl
        | some q =>
          obtain ⟨j, b⟩ := q
          obtain ⟨e, hem, hb, rfl⟩ := c3 j b hg
          simp only
          cases hd : (ops[e.on]?).bind (·.dst) with
          | none => rfl
          | some t =>
            simp only [Option.bind_some]
            obtain ⟨p, hpj, hdt⟩ := Option.bind_eq_some_iff.1 hd
            rw [hm.2.1 e.on p t hpj hdt (hlist e hem hb)]
      have hw := wantV_sound ht hwv
      have hnext : ∀ φ' w' a', Ext bs φ w bs φ' w' → Sim T bs φ' w' → Tm (okOf T bs φ') w' φ' (putV o.dst x ts) a' → wpAny P .any ops K fuel (listed.setIfInBounds i true) a' w' := by
        intro φ' w' a' he' hs' ht'
        refine ih (listed.setIfInBounds i true) (putV o.dst x ts) φ' w' a' (by simpa using hsz) ?_ ?_ (he.trans he') hs' ht'
        · have := count_listed (by omega) hun (List.range ops.size) List.nodup_range (List.mem_range.2 hilt)
          omega
        · refine ⟨?_, fun j p t hpj hdt hlj => ?_, fun t hno => ?_⟩
          · have := hm.1
            cases o.dst <;> simpa [putV] using this
          · by_cases hij : i = j
            · subst hij
              obtain rfl : o = p := Option.some.inj (ho.symm.trans hpj)
              have hx := p1 t hdt
              have hlt : t < ts.length := by rw [hm.1]; exact (List.getElem?_eq_some_iff.1 hx).1
              rw [hdt, hx]
              simp [putV, hlt]
            · rw [getD_listed, if_neg (fun h => hij h.1)] at hlj
              have h5 := hm.2.1 j p t hpj hdt hlj
              have h6 := (c2 j p t hpj hdt).1.resolve_left (Ne.symm hij)
              cases hd : o.dst with
              | none => exact h5
              | some t' =>
                have : t' ≠ t := fun e => h6 (by rw [hdt, hd, e])
                simp only [putV]
                rw [List.getElem?_set_ne this]
                exact h5
          · have h7 : ∀ (j : Nat) p, ops[j]? = some p → p.dst = some t → listed.getD j true = false := fun j p hpj hdt => by
              have := hno j p hpj hdt
              rw [getD_listed] at this
              split at this
              · cases this
              · exact this
            have h8 : o.dst ≠ some t := fun hdt => by
              have := hno i o ho hdt
              rw [getD_listed, if_pos ⟨rfl, by omega⟩] at this
              cases this
            rw [← hm.2.2 t h7]
            cases hd : o.dst with
            | none => rfl
            | some t' =>
              have : t' ≠ t := fun e => h8 (by rw [hd, e])
              simp only [putV]
              rw [List.getElem?_set_ne this]
      unfold wpOp
      rw [ho]
      simp only
      rw [hw]
      cases u with
      | true =>
        simp only [if_true]
        refine .inl (p4 rfl ts hm.1 hag T φ w a hs ht _ _ ?_)
        rintro ts' bs' φ' a' w' ⟨rfl, rfl⟩ he' hs' ht'
        exact hnext φ' w' a' he' hs' ht'
      | false =>
        obtain rfl := p3 rfl
        simp only [Bool.false_eq_true, if_false]
        exact hnext φ w _ (Ext.refl _ _ _) hs (ht.put rv_skip _)

theorem Ok.draw {id : Nat} {l : List Oper} {ts : List V} (fin : List V) (hm : P.follows .mixedOrders = true) (hc : chk l.toArray = true) (hl : ts.length = fin.length) (h0 : ∀ t, (∀ o ∈ l, o.dst ≠ some t) → ts[t]? = fin[t]?)
    (hp : ∀ o ∈ l, PureOp P l.toArray o fin bs) (h : Q .normal fin bs) : Ok P m (.region id l.toArray true) Q ts bs := by
  intro T φ w a hs ht K hK
  have hd : Ext bs φ w bs φ { w with drawn := w.drawn + 1 } := ⟨rfl, rfl, rfl, Nat.le_refl _, fun _ _ h => h, fun _ _ _ => rfl, fun _ h => .inl h⟩
  have hs' : Sim T bs φ { w with drawn := w.drawn + 1 } := hs.step hd hs.inj hs.len fun k b hb => .inl ⟨hb, fun _ _ _ _ _ => rfl⟩
  refine wp_region_any hm ?_
  refine any_sound (T := T) (φ0 := φ) (w0 := w) (ts0 := ts) hc (fun i o ho => hp o (List.mem_of_getElem? (by simpa using ho))) hl (fun t hno => h0 t fun o ho => ?_) (fun φ' w' a' he hs ht => hK .normal _ _ _ _ _ h he.toM hs ht) _ (Array.replicate l.toArray.size false) ts φ _ a (by simp) ?_ ⟨hl, fun j o t ho hd hj => ?_, fun t _ => rfl⟩ hd hs' (ht.ext hd)
  · obtain ⟨j, hj⟩ := List.mem_iff_getElem?.1 ho
    exact hno j o (by simpa using hj)
  · rw [List.filter_eq_self.2 fun j hj => ?_]
    · simp
    · have := List.mem_range.1 hj
      simp at this
      simp [this]
  · have hlt : j < l.length := by
      have := (Array.getElem?_eq_some_iff.1 ho).1
      simpa using this
    simp [hlt] at hj
end

end Go.Proofs.YtbkjiglbkckhmaaV
