/- The calculus of values, fourteenth text: a region whose order is open, where what touches memory comes in one order. -/
import Derived.Test.YtiefcnghjcafbaaDoorV13
namespace Go.Proofs.YtiefcnghjcafbaaDoorV
open Go Go.RowKit

/-- What an operation waits for is listed. -/
def Wait (o : Oper) (listed : Array Bool) : Prop := ∀ e ∈ o.after.toList, Region.binds .any e = true → listed.getD e.on true = true

/-- What is listed has what it waits for listed. -/
def Clo (ops : Array Oper) (listed : Array Bool) : Prop := ∀ (i : Nat) o, ops[i]? = some o → listed.getD i true = true → Wait o listed

/-- The writer of a temporary waits for an operation. -/
def Late (ops : Array Oper) (i t : Nat) : Prop := ∃ (j : Nat) (p : Oper), ops[j]? = some p ∧ p.dst = some t ∧ ∃ e ∈ p.after.toList, Region.binds .any e = true ∧ e.on = i
/-- What an operation sees of the temporaries. -/
def Sees (ops : Array Oper) (i : Nat) (o : Oper) (fin ts0 ts : List V) : Prop :=
  ∀ t ∈ tmpsOf o.op.operands.toList, (Late ops i t → ts[t]? = ts0[t]?) ∧ (¬ Late ops i t → ts[t]? = fin[t]?)

/-- One operation when it comes up. -/
def StepOp (P : Program) (ops : Array Oper) (i : Nat) (o : Oper) (fin ts0 : List V) (B : Array Bool → List Bx) (listed : Array Bool) : Prop :=
  ∃ x u, (∀ t, o.dst = some t → fin[t]? = some x) ∧ wantV ops o fin = some u ∧ (u = false → x = .tup [] ∧ B (listed.setIfInBounds i true) = B listed) ∧
    (u = true → ∀ ts, ts.length = fin.length → Sees ops i o fin ts0 ts → OpOk P o (fun ts' bs' => ts' = putV o.dst x ts ∧ bs' = B (listed.setIfInBounds i true)) ts (B listed))

theorem clo_set {ops : Array Oper} {listed : Array Bool} (h : Clo ops listed) {i : Nat} {o : Oper} (ho : ops[i]? = some o) (hsz : listed.size = ops.size) (hw : Wait o listed) : Clo ops (listed.setIfInBounds i true) := by
  intro j p hp hj e he hb
  have hup : ∀ q, listed.getD q true = true → (listed.setIfInBounds i true).getD q true = true := fun q hq => by
    rw [getD_listed]
    split
    · rfl
    · exact hq
  rw [getD_listed] at hj
  split at hj
  · rename_i hij
    obtain ⟨rfl, _⟩ := hij
    obtain rfl : o = p := Option.some.inj (ho.symm.trans hp)
    exact hup _ (hw e he hb)
  · exact hup _ (h j p hp hj e he hb)

section
variable {P : Program} {m : Nat} {Q : Ex → List V → List Bx → Prop} {bs : List Bx} {B : Array Bool → List Bx} {ops : Array Oper} {fin ts0 : List V}

theorem any_soundS (hc : chk ops = true) (hp : ∀ (i : Nat) o listed, ops[i]? = some o → Clo ops listed → listed.size = ops.size → listed.getD i true = false → Wait o listed → StepOp P ops i o fin ts0 B listed) (hl : ts0.length = fin.length) (h0 : ∀ t, (∀ (j : Nat) o, ops[j]? = some o → o.dst ≠ some t) → ts0[t]? = fin[t]?)
    {T : Nat → Prop} {φ0 : List Value} {w0 : World} {K : Exit → Act → World → Prop} (hK : ∀ φ w a, Ext bs φ0 w0 (B (Array.replicate ops.size true)) φ w → Sim T (B (Array.replicate ops.size true)) φ w → Tm (okOf T (B (Array.replicate ops.size true)) φ) w φ fin a → K .normal a w) :
    ∀ (fuel : Nat) (listed : Array Bool) (ts : List V) φ w a, listed.size = ops.size → ((List.range ops.size).filter fun j => !listed.getD j true).length = fuel → Mid ops fin ts0 ts listed → Clo ops listed →
      Ext bs φ0 w0 (B listed) φ w → Sim T (B listed) φ w → Tm (okOf T (B listed) φ) w φ ts a → wpAny P .any ops K fuel listed a w := by
  intro fuel
  induction fuel with
  | zero =>
    intro listed ts φ w a hsz hcnt hm hclo he hs ht
    have hall : ∀ j, j < ops.size → listed.getD j true = true := fun j hj => by
      have h1 : (List.range ops.size).filter (fun j => !listed.getD j true) = [] := List.eq_nil_of_length_eq_zero hcnt
      have h2 := List.filter_eq_nil_iff.1 h1 j (List.mem_range.2 hj)
      simpa using h2
    refine ⟨?_, ?_⟩
    · unfold Region.ready
      refine List.filter_eq_nil_iff.2 fun j hj => ?_
      rw [hall j (List.mem_range.1 hj)]
      simp
    · have hts : ts = fin := by
        apply List.ext_getElem?
        intro t
        by_cases hd : ∃ (j : Nat) (o : Oper), ops[j]? = some o ∧ o.dst = some t
        · obtain ⟨j, o, ho, hdt⟩ := hd
          exact hm.2.1 j o t ho hdt (hall j (Array.getElem?_eq_some_iff.1 ho).1)
        · have hn : ∀ (j : Nat) o, ops[j]? = some o → o.dst ≠ some t := fun j o ho hdt => hd ⟨j, o, ho, hdt⟩
          exact (hm.2.2 t fun j o ho hdt => absurd hdt (hn j o ho)).trans (h0 t hn)
      subst hts
      have hli : listed = Array.replicate ops.size true := by
        apply Array.ext
        · simp [hsz]
        · intro j h1 h2
          have := hall j (by omega)
          simpa [Array.getD_eq_getD_getElem?, h1] using this
      subst hli
      exact hK φ w a he hs ht
  | succ fuel ih =>
    intro listed ts φ w a hsz hcnt hm hclo he hs ht
    refine ⟨fun hr => ?_, fun i hi => ?_⟩
    · exfalso
      have hne : ∃ j, j < ops.size ∧ listed.getD j true = false := by
        match hf : (List.range ops.size).filter (fun j => !listed.getD j true) with
        | [] => rw [hf] at hcnt; simp at hcnt
        | j :: r =>
          have h1 : j ∈ (List.range ops.size).filter (fun j => !listed.getD j true) := by rw [hf]; exact List.mem_cons_self
          obtain ⟨h2, h3⟩ := List.mem_filter.1 h1
          exact ⟨j, List.mem_range.1 h2, by simpa using h3⟩
      obtain ⟨j, ⟨hj, hun⟩, hleast⟩ := exists_least hne
      obtain ⟨o, ho⟩ : ∃ o, ops[j]? = some o := ⟨_, Array.getElem?_eq_getElem hj⟩
      have hin : j ∈ Region.ready .any ops listed := by
        unfold Region.ready
        refine List.mem_filter.2 ⟨List.mem_range.2 hj, ?_⟩
        rw [hun, ho]
        simp only [Bool.not_false, Bool.true_and, Option.map_some, Option.getD_some]
        rw [← Array.all_toList]
        refine List.all_eq_true.2 fun e hem => ?_
        by_cases hb : Region.binds .any e = true
        · have hlt := (chk_row hc ho).1 e hem hb
          have hel : listed.getD e.on true = true := by
            cases hg : listed.getD e.on true with
            | true => rfl
            | false => exact absurd (hleast e.on ⟨by omega, hg⟩) (by omega)
          have : e.on < listed.size := by omega
          simp only [Array.getD_eq_getD_getElem?, Array.getElem?_eq_getElem this, Option.getD_some] at hel ⊢
          simp [hel]
        · simp [hb]
      rw [hr] at hin
      cases hin
    · obtain ⟨hun, o, ho, hall⟩ := mem_ready.1 hi
      have hilt : i < ops.size := (Array.getElem?_eq_some_iff.1 ho).1
      obtain ⟨c1, c2, c3⟩ := chk_row hc ho
      have hlist : ∀ e ∈ o.after.toList, Region.binds .any e = true → listed.getD e.on true = true := fun e hem hb => by
        have h1 := hall e (by simpa using hem) hb
        have hlt := c1 e hem hb
        have : e.on < listed.size := by omega
        simp only [Array.getD_eq_getD_getElem?, Array.getElem?_eq_getElem this, Option.getD_some] at h1 ⊢
        exact h1
      obtain ⟨x, u, p1, p2, p3, p4⟩ := hp i o listed ho hclo hsz hun hlist
      have hag : Sees ops i o fin ts0 ts := fun t htm => by
        refine ⟨?_, fun hlate => ?_⟩
        · rintro ⟨j, p, hpj, hdt, e, hem, hb, he⟩
          have hun2 : listed.getD j true = false := by
            cases hg : listed.getD j true with
            | false => rfl
            | true =>
              have := hclo j p hpj hg e hem hb
              rw [he, hun] at this
              cases this
          refine hm.2.2 t fun j' p' hpj' hdt' => ?_
          rcases ((chk_row hc hpj).2.1 j' p' t hpj' hdt').1 with rfl | hne
          · exact hun2
          · exact absurd (hdt'.trans hdt.symm) hne
        by_cases hd : ∃ (j : Nat) (p : Oper), ops[j]? = some p ∧ p.dst = some t
        · obtain ⟨j, p, hpj, hdt⟩ := hd
          rcases (c2 j p t hpj hdt).2 htm with ⟨e, hem, hb, rfl⟩ | hl2
          · exact hm.2.1 e.on p t hpj hdt (hlist e hem hb)
          · exact absurd ⟨j, p, hpj, hdt, hl2⟩ hlate
        · have hn : ∀ (j : Nat) o, ops[j]? = some o → o.dst ≠ some t := fun j o ho hdt => hd ⟨j, o, ho, hdt⟩
          exact (hm.2.2 t fun j o ho hdt => absurd hdt (hn j o ho)).trans (h0 t hn)
      have hwv : wantV ops o ts = some u := by
        rw [← p2]
        unfold wantV
        cases hg : o.guard with
        | none => rfl
        | some q =>
          obtain ⟨j, b⟩ := q
          obtain ⟨e, hem, hb, rfl⟩ := c3 j b hg
          simp only
          cases hd : (ops[e.on]?).bind (·.dst) with
          | none => rfl
          | some t =>
            simp only [Option.bind_some]
            obtain ⟨p, hpj, hdt⟩ := Option.bind_eq_some_iff.1 hd
            rw [hm.2.1 e.on p t hpj hdt (hlist e hem hb)]
      have hw := wantV_sound ht hwv
      have hnext : ∀ φ' w' a', Ext (B listed) φ w (B (listed.setIfInBounds i true)) φ' w' → Sim T (B (listed.setIfInBounds i true)) φ' w' → Tm (okOf T (B (listed.setIfInBounds i true)) φ') w' φ' (putV o.dst x ts) a' → wpAny P .any ops K fuel (listed.setIfInBounds i true) a' w' := by
        intro φ' w' a' he' hs' ht'
        refine ih (listed.setIfInBounds i true) (putV o.dst x ts) φ' w' a' (by simpa using hsz) ?_ ?_ (clo_set hclo ho hsz hlist) (he.trans he') hs' ht'
        · have := count_listed (by omega) hun (List.range ops.size) List.nodup_range (List.mem_range.2 hilt)
          omega
        · refine ⟨?_, fun j p t hpj hdt hlj => ?_, fun t hno => ?_⟩
          · have := hm.1
            cases o.dst <;> simpa [putV] using this
          · by_cases hij : i = j
            · subst hij
              obtain rfl : o = p := Option.some.inj (ho.symm.trans hpj)
              have hx := p1 t hdt
              have hlt : t < ts.length := by rw [hm.1]; exact (List.getElem?_eq_some_iff.1 hx).1
              rw [hdt, hx]
              simp [putV, hlt]
            · rw [getD_listed, if_neg (fun h => hij h.1)] at hlj
              have h5 := hm.2.1 j p t hpj hdt hlj
              have h6 := (c2 j p t hpj hdt).1.resolve_left (Ne.symm hij)
              cases hd : o.dst with
              | none => exact h5
              | some t' =>
                have : t' ≠ t := fun e => h6 (by rw [hdt, hd, e])
                simp only [putV]
                rw [List.getElem?_set_ne this]
                exact h5
          · have h7 : ∀ (j : Nat) p, ops[j]? = some p → p.dst = some t → listed.getD j true = false := fun j p hpj hdt => by
              have := hno j p hpj hdt
              rw [getD_listed] at this
              split at this
              · cases this
              · exact this
            have h8 : o.dst ≠ some t := fun hdt => by
              have := hno i o ho hdt
              rw [getD_listed, if_pos ⟨rfl, by omega⟩] at this
              cases this
            rw [← hm.2.2 t h7]
            cases hd : o.dst with
            | none => rfl
            | some t' =>
              have : t' ≠ t := fun e => h8 (by rw [hd, e])
              simp only [putV]
              rw [List.getElem?_set_ne this]
      unfold wpOp
      rw [ho]
      simp only
      rw [hw]
      cases u with
      | true =>
        simp only [if_true]
        refine .inl (p4 rfl ts hm.1 hag T φ w a hs ht _ _ ?_)
        rintro ts' bs' φ' a' w' ⟨rfl, rfl⟩ he' hs' ht'
        exact hnext φ' w' a' he' hs' ht'
      | false =>
        obtain ⟨rfl, hB⟩ := p3 rfl
        simp only [Bool.false_eq_true, if_false]
        refine hnext φ w _ ?_ ?_ ?_
        · rw [hB]
          exact Ext.refl _ _ _
        · rw [hB]
          exact hs
        · rw [hB]
          exact ht.put rv_skip _

theorem Ok.drawS {id : Nat} {l : List Oper} {ts : List V} (fin : List V) (B : Array Bool → List Bx) (hm : P.follows .mixedOrders = true) (hc : chk l.toArray = true) (hl : ts.length = fin.length) (h0 : ∀ t, (∀ o ∈ l, o.dst ≠ some t) → ts[t]? = fin[t]?)
    (hp : ∀ (i : Nat) o listed, l.toArray[i]? = some o → Clo l.toArray listed → listed.size = l.toArray.size → listed.getD i true = false → Wait o listed → StepOp P l.toArray i o fin ts B listed)
    (hB0 : B (Array.replicate l.toArray.size false) = bs) (h : Q .normal fin (B (Array.replicate l.toArray.size true))) : Ok P m (.region id l.toArray true) Q ts bs := by
  intro T φ w a hs ht K hK
  have hd : Ext bs φ w bs φ { w with drawn := w.drawn + 1 } := ⟨rfl, rfl, rfl, Nat.le_refl _, fun _ _ h => h, fun _ _ _ => rfl, fun _ h => .inl h⟩
  have hs' : Sim T bs φ { w with drawn := w.drawn + 1 } := hs.step hd hs.inj hs.len fun k b hb => .inl ⟨hb, fun _ _ _ _ _ => rfl⟩
  refine wp_region_any hm ?_
  refine any_soundS (B := B) (T := T) (bs := bs) (φ0 := φ) (w0 := w) (ts0 := ts) hc hp hl (fun t hno => h0 t fun o ho => ?_) (fun φ' w' a' he hs ht => hK .normal _ _ _ _ _ h he.toM hs ht) _ (Array.replicate l.toArray.size false) ts φ _ a (by simp) ?_ ⟨hl, fun j o t ho hd hj => ?_, fun t _ => rfl⟩ (fun j o ho hj => ?_) (by rw [hB0]; exact hd) (by rw [hB0]; exact hs') (by rw [hB0]; exact ht.ext hd)
  · obtain ⟨j, hj⟩ := List.mem_iff_getElem?.1 ho
    exact hno j o (by simpa using hj)
  · rw [List.filter_eq_self.2 fun j hj => ?_]
    · simp
    · have := List.mem_range.1 hj
      simp at this
      simp [this]
  · have hlt : j < l.length := by
      have := (Array.getElem?_eq_some_iff.1 ho).1
      simpa using this
    simp [hlt] at hj
  · have hlt : j < l.length := by
      have := (Array.getElem?_eq_some_iff.1 ho).1
      simpa using this
    simp [hlt] at hj
end

end Go.Proofs.YtiefcnghjcafbaaDoorV
