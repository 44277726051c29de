/- The calculus of values, seventeenth text: a region in an open order comes to what it comes to in line. -/
import Derived.Test.YtiefcnghjcafbaaDoorV16
namespace Go.Proofs.YtiefcnghjcafbaaDoorV
open Go Go.RowKit

section
variable {P : Program} {m : Nat} {L : Lay} {C : CallT} {G : FuncId → Bool} {Q : Ex → List V → List Bx → Prop} {ops : Array Oper}

/-- What holds on the way, in line. -/
def Way (L : Lay) (C : CallT) (ops : Array Oper) (o : Oper) (u : Bool) (v : V) (ts ts1 : List V) (bs bs1 : List Bx) : Prop :=
  wantV ops o ts = some u ∧ (u = true → evX L C o.op ts bs = some (v, bs1)) ∧ (u = false → v = .tup [] ∧ bs1 = bs) ∧ ts1 = putV o.dst v ts

theorem states : ∀ (l : List Oper) (ts : List V) (bs : List Bx) ts' bs', runX L C ops l ts bs = some (ts', bs') →
    ∃ (tf : Nat → List V) (bf : Nat → List Bx) (uf : Nat → Bool) (vf : Nat → V), tf 0 = ts ∧ bf 0 = bs ∧ tf l.length = ts' ∧ bf l.length = bs' ∧ ∀ (i : Nat) o, l[i]? = some o → Way L C ops o (uf i) (vf i) (tf i) (tf (i + 1)) (bf i) (bf (i + 1))
  | [], ts, bs, ts', bs', h => by
    cases h
    exact ⟨fun _ => ts, fun _ => bs, fun _ => true, fun _ => .nils, rfl, rfl, rfl, rfl, fun i o h => by simp at h⟩
  | o :: r, ts, bs, ts', bs', h => by
    obtain ⟨u, v, bs1, hw, h1, h2, h3⟩ := runX_step h
    obtain ⟨tf, bf, uf, vf, k1, k2, k3, k4, k5⟩ := states r _ _ _ _ h3
    refine ⟨fun | 0 => ts | i + 1 => tf i, fun | 0 => bs | i + 1 => bf i, fun | 0 => u | i + 1 => uf i, fun | 0 => v | i + 1 => vf i, rfl, rfl, k3, k4, fun i p hp => ?_⟩
    cases i with
    | zero =>
      obtain rfl : o = p := by simpa using hp
      exact ⟨hw, by simpa only [k2] using h1, by simpa only [k2] using h2, k1⟩
    | succ i => exact k5 i p (by simpa using hp)

def fu (G : FuncId → Bool) (ops : Array Oper) (listed : Array Bool) : Nat := ((List.range ops.size).find? fun j => ((ops[j]?).map (isEff G)).getD false && !listed.getD j true).getD ops.size

theorem fu_is {listed : Array Bool} {m : Nat} (h1 : ∀ j p, j < m → ops[j]? = some p → isEff G p = true → listed.getD j true = true) (hm : m ≤ ops.size) (h2 : m = ops.size ∨ ∃ p, ops[m]? = some p ∧ isEff G p = true ∧ listed.getD m true = false) : fu G ops listed = m := by
  unfold fu
  rcases h2 with rfl | ⟨p, hp, he, hl⟩
  · rw [List.find?_eq_none.2]
    · rfl
    · intro j hj
      have hj := List.mem_range.1 hj
      obtain ⟨p, hp⟩ : ∃ p, ops[j]? = some p := ⟨_, Array.getElem?_eq_getElem hj⟩
      rw [hp]
      simp only [Option.map_some, Option.getD_some, Bool.and_eq_true, Bool.not_eq_true', not_and]
      intro he
      rw [h1 j p hj hp he]
      simp
  · have hlt : m < ops.size := (Array.getElem?_eq_some_iff.1 hp).1
    have : (List.range ops.size).find? (fun j => ((ops[j]?).map (isEff G)).getD false && !listed.getD j true) = some m := by
      rw [List.find?_range_eq_some]
      refine ⟨by rw [hp]; simp [he, hl], List.mem_range.2 hlt, fun j hj => ?_⟩
      obtain ⟨q, hq⟩ : ∃ q, ops[j]? = some q := ⟨_, Array.getElem?_eq_getElem (by omega)⟩
      rw [hq]
      simp only [Option.map_some, Option.getD_some]
      cases he2 : isEff G q with
      | false => rfl
      | true => rw [h1 j q hj hq he2]; rfl
    rw [this]
    rfl

theorem fu_le {listed : Array Bool} : fu G ops listed ≤ ops.size := by
  unfold fu
  cases h : (List.range ops.size).find? (fun j => ((ops[j]?).map (isEff G)).getD false && !listed.getD j true) with
  | none => exact Nat.le_refl _
  | some j => exact Nat.le_of_lt (List.mem_range.1 (List.mem_of_find?_eq_some h))

theorem fu_before {listed : Array Bool} {j : Nat} {p : Oper} (hj : j < fu G ops listed) (hp : ops[j]? = some p) (he : isEff G p = true) : listed.getD j true = true := by
  have hlt : j < ops.size := (Array.getElem?_eq_some_iff.1 hp).1
  cases hl : listed.getD j true with
  | true => rfl
  | false =>
    exfalso
    unfold fu at hj
    cases h : (List.range ops.size).find? (fun j => ((ops[j]?).map (isEff G)).getD false && !listed.getD j true) with
    | none =>
      have := List.find?_eq_none.1 h j (List.mem_range.2 hlt)
      rw [hp] at this
      simp [he, hl] at this
    | some m =>
      rw [h] at hj
      have := (List.find?_range_eq_some.1 h).2.2 j hj
      rw [hp] at this
      simp [he, hl] at this

theorem fu_at {listed : Array Bool} (h : fu G ops listed < ops.size) : ∃ p, ops[fu G ops listed]? = some p ∧ isEff G p = true ∧ listed.getD (fu G ops listed) true = false := by
  unfold fu at h ⊢
  cases hf : (List.range ops.size).find? (fun j => ((ops[j]?).map (isEff G)).getD false && !listed.getD j true) with
  | none => rw [hf] at h; simp at h
  | some m =>
    have h1 := (List.find?_range_eq_some.1 hf).1
    rw [hf] at h
    simp only [Option.getD_some] at h ⊢
    obtain ⟨q, hq⟩ : ∃ q, ops[m]? = some q := ⟨_, Array.getElem?_eq_getElem h⟩
    rw [hq] at h1
    simp only [Option.map_some, Option.getD_some, Bool.and_eq_true, Bool.not_eq_true'] at h1
    exact ⟨q, hq, h1.1, h1.2⟩

theorem Ok.regionD (hm : P.follows .mixedOrders = true) (hL : LayOk P L) (hC : Good P C) (hG : Calm G C) {id : Nat} {l : List Oper} {ts : List V} {bs : List Bx} {ts' : List V} {bs' : List Bx} (hc : chkD G l.toArray = true)
    (hdst : (l.all fun o => match o.dst with | none => true | some t => decide (t < ts.length)) = true)
    (h : runX L C l.toArray l ts bs = some (ts', bs')) (hQ : Q .normal ts' bs') : Ok P m (.region id l.toArray true) Q ts bs := by
  obtain ⟨tf, bf, uf, vf, t0, b0, tn, bn, way⟩ := states l ts bs ts' bs' h
  generalize hops : l.toArray = ops at hc way h
  have hget : ∀ i : Nat, ops[i]? = l[i]? := fun i => by rw [← hops]; simp
  have hsize : ops.size = l.length := by rw [← hops]; simp
  have hchk : chk ops = true := by unfold chkD at hc; rw [Bool.and_eq_true] at hc; exact hc.1
  have hin : ∀ (i : Nat) o t, ops[i]? = some o → o.dst = some t → t < ts.length := fun i o t ho hd => by
    have := List.all_eq_true.1 hdst o (List.mem_of_getElem? ((hget i).symm.trans ho))
    rw [hd] at this
    simpa using this
  have way' : ∀ (i : Nat) o, ops[i]? = some o → Way L C ops o (uf i) (vf i) (tf i) (tf (i + 1)) (bf i) (bf (i + 1)) := fun i o ho => way i o ((hget i).symm.trans ho)
  have hlen : ∀ i, i ≤ ops.size → (tf i).length = ts.length := by
    intro i
    induction i with
    | zero => intro _; rw [t0]
    | succ i ih =>
      intro hi
      obtain ⟨o, ho⟩ : ∃ o, ops[i]? = some o := ⟨_, Array.getElem?_eq_getElem (by omega)⟩
      rw [(way' i o ho).2.2.2, ← ih (by omega)]
      cases o.dst <;> simp [putV]
  have hwrote : ∀ (j : Nat) p t, ops[j]? = some p → p.dst = some t → ∀ i, j < i → i ≤ ops.size → (tf i)[t]? = some (vf j) := by
    intro j p t hp hd i
    induction i with
    | zero => intro h; omega
    | succ i ih =>
      intro hji hi
      obtain ⟨o, ho⟩ : ∃ o, ops[i]? = some o := ⟨_, Array.getElem?_eq_getElem (by omega)⟩
      rw [(way' i o ho).2.2.2]
      by_cases hij : j = i
      · subst hij
        obtain rfl : p = o := Option.some.inj (hp.symm.trans ho)
        rw [hd]
        have : t < (tf j).length := by rw [hlen j (by omega)]; exact hin j p t hp hd
        simp [putV, this]
      · have hne := ((chk_row hchk ho).2.1 j p t hp hd).1.resolve_left hij
        have h1 := ih (by omega) (by omega)
        cases hd2 : o.dst with
        | none => exact h1
        | some t2 =>
          have : t2 ≠ t := fun e => hne (by rw [hd, hd2, e])
          simp only [putV]
          rw [List.getElem?_set_ne this]
          exact h1
  have hnot : ∀ t, (∀ (j : Nat) p, ops[j]? = some p → p.dst ≠ some t) → ∀ i, i ≤ ops.size → (tf i)[t]? = ts[t]? := by
    intro t hno i
    induction i with
    | zero => intro _; rw [t0]
    | succ i ih =>
      intro hi
      obtain ⟨o, ho⟩ : ∃ o, ops[i]? = some o := ⟨_, Array.getElem?_eq_getElem (by omega)⟩
      rw [(way' i o ho).2.2.2]
      cases hd2 : o.dst with
      | none => exact ih (by omega)
      | some t2 =>
        have : t2 ≠ t := fun e => hno i o ho (by rw [hd2, e])
        simp only [putV]
        rw [List.getElem?_set_ne this]
        exact ih (by omega)
  have htn : tf ops.size = ts' := by rw [hsize]; exact tn
  have hbn : bf ops.size = bs' := by rw [hsize]; exact bn
  have hyet : ∀ (t i : Nat), i ≤ ops.size → (∀ (j : Nat) p, j < i → ops[j]? = some p → p.dst ≠ some t) → (tf i)[t]? = ts[t]? := by
    intro t i
    induction i with
    | zero => intro _ _; rw [t0]
    | succ i ih =>
      intro hi hno
      obtain ⟨o, ho⟩ : ∃ o, ops[i]? = some o := ⟨_, Array.getElem?_eq_getElem (by omega)⟩
      rw [(way' i o ho).2.2.2]
      cases hd2 : o.dst with
      | none => exact ih (by omega) fun j p hj => hno j p (by omega)
      | some t2 =>
        have : t2 ≠ t := fun e => hno i o (by omega) ho (by rw [hd2, e])
        simp only [putV]
        rw [List.getElem?_set_ne this]
        exact ih (by omega) fun j p hj => hno j p (by omega)
  have hsees : ∀ (i : Nat) o, ops[i]? = some o → ∀ t ∈ tmpsOf o.op.operands.toList, Late ops i t → (tf i)[t]? = ts[t]? := by
    rintro i o ho t htm ⟨j, p, hp, hdt, e, hem, hb, he⟩
    have hi : i < ops.size := (Array.getElem?_eq_some_iff.1 ho).1
    have hlt := (chk_row hchk hp).1 e hem hb
    refine hyet t i (by omega) fun j' p' hj' hp' hdt' => ?_
    rcases ((chk_row hchk hp).2.1 j' p' t hp' hdt').1 with rfl | hne
    · omega
    · exact hne (hdt'.trans hdt.symm)
  have hread : ∀ (i : Nat) o, ops[i]? = some o → ∀ t ∈ tmpsOf o.op.operands.toList, ¬ Late ops i t → (tf i)[t]? = ts'[t]? := by
    intro i o ho t htm hlate
    have hi : i < ops.size := (Array.getElem?_eq_some_iff.1 ho).1
    by_cases hd : ∃ (j : Nat) (p : Oper), ops[j]? = some p ∧ p.dst = some t
    · obtain ⟨j, p, hp, hdt⟩ := hd
      rcases ((chk_row hchk ho).2.1 j p t hp hdt).2 htm with ⟨e, hem, hb, rfl⟩ | hl2
      · have hlt := (chk_row hchk ho).1 e hem hb
        rw [hwrote e.on p t hp hdt i hlt (by omega), ← htn, hwrote e.on p t hp hdt ops.size (by omega) (Nat.le_refl _)]
      · exact absurd ⟨j, p, hp, hdt, hl2⟩ hlate
    · have hn : ∀ (j : Nat) p, ops[j]? = some p → p.dst ≠ some t := fun j p hp hdt => hd ⟨j, p, hp, hdt⟩
      rw [hnot t hn i (by omega), ← htn, hnot t hn ops.size (Nat.le_refl _)]
  have hwant : ∀ (i : Nat) o, ops[i]? = some o → wantV ops o ts' = some (uf i) := by
    intro i o ho
    have hi : i < ops.size := (Array.getElem?_eq_some_iff.1 ho).1
    rw [← (way' i o ho).1]
    unfold wantV
    cases hg : o.guard with
    | none => rfl
    | some q =>
      obtain ⟨j, b⟩ := q
      obtain ⟨e, hem, hb, rfl⟩ := (chk_row hchk ho).2.2 j b hg
      have hlt := (chk_row hchk ho).1 e hem hb
      simp only
      cases hd : (ops[e.on]?).bind (·.dst) with
      | none => rfl
      | some t =>
        simp only [Option.bind_some]
        obtain ⟨p, hp, hdt⟩ := Option.bind_eq_some_iff.1 hd
        rw [hwrote e.on p t hp hdt i hlt (by omega), ← htn, hwrote e.on p t hp hdt ops.size (by omega) (Nat.le_refl _)]
  have hkeep : ∀ (i : Nat) o, ops[i]? = some o → isEff G o = false → bf (i + 1) = bf i := by
    intro i o ho he
    obtain ⟨_, h1, h2, _⟩ := way' i o ho
    cases hu : uf i with
    | false => exact (h2 hu).2
    | true =>
      have h3 := h1 hu
      cases hk : kindOf G o.op with
      | free => exact (ev_free hG hk h3).1
      | read => exact (ev_read hk h3).1
      | grow => simp [isEff, hk] at he
      | touch => simp [isEff, hk] at he
  have hgrow : ∀ (i : Nat) o, ops[i]? = some o → isTouch G o = false → ∃ q, bf (i + 1) = bf i ++ q := by
    intro i o ho he
    obtain ⟨_, h1, h2, _⟩ := way' i o ho
    cases hu : uf i with
    | false => exact ⟨[], by rw [(h2 hu).2]; simp⟩
    | true =>
      have h3 := h1 hu
      cases hk : kindOf G o.op with
      | free => exact ⟨[], by rw [(ev_free hG hk h3).1]; simp⟩
      | read => exact ⟨[], by rw [(ev_read hk h3).1]; simp⟩
      | grow => exact ev_grow hk h3
      | touch => simp [isTouch, hk] at he
  have hkeeps : ∀ (i d : Nat), i + d ≤ ops.size → (∀ j p, i ≤ j → j < i + d → ops[j]? = some p → isEff G p = false) → bf (i + d) = bf i := by
    intro i d
    induction d with
    | zero => intro _ _; rfl
    | succ d ih =>
      intro hi hno
      obtain ⟨o, ho⟩ : ∃ o, ops[i + d]? = some o := ⟨_, Array.getElem?_eq_getElem (by omega)⟩
      have h1 := hkeep (i + d) o ho (hno (i + d) o (by omega) (by omega) ho)
      have h2 := ih (by omega) fun j p h1 h2 h3 => hno j p h1 (by omega) h3
      exact h1.trans h2
  have hgrows : ∀ (i d : Nat), i + d ≤ ops.size → (∀ j p, i ≤ j → j < i + d → ops[j]? = some p → isTouch G p = false) → ∃ q, bf (i + d) = bf i ++ q := by
    intro i d
    induction d with
    | zero => intro _ _; exact ⟨[], by simp⟩
    | succ d ih =>
      intro hi hno
      obtain ⟨o, ho⟩ : ∃ o, ops[i + d]? = some o := ⟨_, Array.getElem?_eq_getElem (by omega)⟩
      obtain ⟨q1, h1⟩ := hgrow (i + d) o ho (hno (i + d) o (by omega) (by omega) ho)
      obtain ⟨q2, h2⟩ := ih (by omega) fun j p h1 h2 h3 => hno j p h1 (by omega) h3
      exact ⟨q2 ++ q1, by rw [show i + (d + 1) = i + d + 1 from rfl, h1, h2, List.append_assoc]⟩
  have hB1 : bf (fu G ops (Array.replicate ops.size true)) = bs' := by
    rw [fu_is (m := ops.size) (fun j p hj hp _ => by simp [hj]) (Nat.le_refl _) (.inl rfl)]
    exact hbn
  have hB0 : bf (fu G ops (Array.replicate ops.size false)) = bs := by
    have : ∀ j p, 0 ≤ j → j < 0 + fu G ops (Array.replicate ops.size false) → ops[j]? = some p → isEff G p = false := by
      intro j p _ hj hp
      have hlt : j < ops.size := (Array.getElem?_eq_some_iff.1 hp).1
      cases he : isEff G p with
      | false => rfl
      | true =>
        have := fu_before (G := G) (listed := Array.replicate ops.size false) (by omega) hp he
        simp [hlt] at this
    have := hkeeps 0 (fu G ops (Array.replicate ops.size false)) (by have := fu_le (G := G) (ops := ops) (listed := Array.replicate ops.size false); omega) this
    rw [Nat.zero_add] at this
    rw [this, b0]
  have hstep : ∀ (i : Nat) o listed, ops[i]? = some o → Clo ops listed → listed.size = ops.size → listed.getD i true = false → Wait o listed → StepOp P ops i o ts' ts (fun z => bf (fu G ops z)) listed := by
    intro i o listed ho hclo hsz hun hwt
    have hi : i < ops.size := (Array.getElem?_eq_some_iff.1 ho).1
    have hset : ∀ j, (listed.setIfInBounds i true).getD j true = if j = i then true else listed.getD j true := fun j => by
      rw [getD_listed]
      by_cases hji : j = i
      · subst hji
        rw [if_pos ⟨rfl, by omega⟩, if_pos rfl]
      · rw [if_neg (fun h => hji h.1.symm), if_neg hji]
    obtain ⟨w1, w2, w3, w4⟩ := way' i o ho
    have hB : (isEff G o = true → bf (fu G ops listed) = bf i ∧ bf (fu G ops (listed.setIfInBounds i true)) = bf (i + 1)) ∧ (isEff G o = false → fu G ops (listed.setIfInBounds i true) = fu G ops listed) := by
      constructor
      · intro he
        have h1 : fu G ops listed = i := fu_is (fun j p hj hp hep => (ancB_listed hclo _ j i o ho hwt ((chkD_row hc ho hp).1 hj hep (.inl he))).1) (by omega) (.inr ⟨o, ho, he, hun⟩)
        refine ⟨by rw [h1], ?_⟩
        have hge : i + 1 ≤ fu G ops (listed.setIfInBounds i true) := by
          rcases Nat.lt_or_ge i (fu G ops (listed.setIfInBounds i true)) with h | h
          · exact h
          · exfalso
            obtain ⟨p, hp, hep, hlp⟩ := fu_at (G := G) (ops := ops) (listed := listed.setIfInBounds i true) (by omega)
            rw [hset] at hlp
            split at hlp
            · cases hlp
            · rename_i hne
              have h2 : fu G ops (listed.setIfInBounds i true) < fu G ops listed := by omega
              have := fu_before h2 hp hep
              rw [this] at hlp
              cases hlp
        have hle := fu_le (G := G) (ops := ops) (listed := listed.setIfInBounds i true)
        have := hkeeps (i + 1) (fu G ops (listed.setIfInBounds i true) - (i + 1)) (by omega) fun j p h1 h2 hp => by
          cases hep : isEff G p with
          | false => rfl
          | true =>
            exfalso
            have h3 := fu_before (G := G) (listed := listed.setIfInBounds i true) (by omega) hp hep
            rw [hset, if_neg (by omega)] at h3
            have h4 := (ancB_listed hclo _ i j p hp (hclo j p hp h3) ((chkD_row hc hp ho).1 (by omega) he (.inl hep))).1
            rw [hun] at h4
            cases h4
        rwa [show i + 1 + (fu G ops (listed.setIfInBounds i true) - (i + 1)) = fu G ops (listed.setIfInBounds i true) from by omega] at this
      · intro he
        refine fu_is (fun j p hj hp hep => ?_) fu_le ?_
        · rw [hset]
          split
          · rfl
          · exact fu_before hj hp hep
        · rcases Nat.lt_or_ge (fu G ops listed) ops.size with h | h
          · obtain ⟨p, hp, hep, hlp⟩ := fu_at h
            refine .inr ⟨p, hp, hep, ?_⟩
            rw [hset, if_neg (fun e => ?_)]
            · exact hlp
            · rw [e, ho] at hp
              obtain rfl := Option.some.inj hp
              rw [he] at hep
              cases hep
          · exact .inl (Nat.le_antisymm fu_le h)
    refine ⟨vf i, uf i, fun t hd => ?_, hwant i o ho, fun hu => ⟨(w3 hu).1, ?_⟩, fun hu tx hlx hag => ?_⟩
    · rw [← htn]
      exact hwrote i o t ho hd ops.size hi (Nat.le_refl _)
    · cases he : isEff G o with
      | true =>
        obtain ⟨k1, k2⟩ := hB.1 he
        show bf _ = bf _
        rw [k1, k2, (w3 hu).2]
      | false =>
        show bf _ = bf _
        rw [hB.2 he]
    · have hev := w2 hu
      have hgo : ∀ b1 b2, evX L C o.op (tf i) b1 = some (vf i, b2) → OpOk P o (fun ts' bs' => ts' = putV o.dst (vf i) tx ∧ bs' = b2) tx b1 := fun b1 b2 hx => by
        refine evX_sound hL hC ?_
        rw [evX_congr (ts' := tf i)]
        · exact hx
        · intro t ht
          by_cases hlate : Late ops i t
          · exact ((hag t ht).1 hlate).trans (hsees i o ho t ht hlate).symm
          · exact ((hag t ht).2 hlate).trans (hread i o ho t ht hlate).symm
      cases he : isEff G o with
      | true =>
        obtain ⟨k1, k2⟩ := hB.1 he
        show OpOk P o (fun ts' bs' => ts' = putV o.dst (vf i) tx ∧ bs' = bf _) tx (bf _)
        rw [k1, k2]
        exact hgo _ _ hev
      | false =>
        show OpOk P o (fun ts' bs' => ts' = putV o.dst (vf i) tx ∧ bs' = bf _) tx (bf _)
        rw [hB.2 he]
        refine hgo _ _ ?_
        cases hk : kindOf G o.op with
        | free => exact (ev_free hG hk hev).2 _
        | grow => simp [isEff, hk] at he
        | touch => simp [isEff, hk] at he
        | read =>
          have hr : isRead G o = true := by simp [isRead, hk]
          have hge : i ≤ fu G ops listed := by
            rcases Nat.lt_or_ge (fu G ops listed) i with h | h
            · exfalso
              obtain ⟨p, hp, hep, hlp⟩ := fu_at (G := G) (ops := ops) (listed := listed) (by omega)
              have := (ancB_listed hclo _ _ i o ho hwt ((chkD_row hc ho hp).1 h hep (.inr hr))).1
              rw [this] at hlp
              cases hlp
            · exact h
          have hle := fu_le (G := G) (ops := ops) (listed := listed)
          obtain ⟨q, hq⟩ := hgrows i (fu G ops listed - i) (by omega) fun j p h1 h2 hp => by
            cases htp : isTouch G p with
            | false => rfl
            | true =>
              exfalso
              have hep : isEff G p = true := by
                unfold isTouch at htp
                unfold isEff
                split at htp
                · rename_i hk2
                  rw [hk2]
                · cases htp
              have h3 := fu_before (G := G) (listed := listed) (by omega) hp hep
              have hne : i ≠ j := fun e => by
                subst e
                rw [hun] at h3
                cases h3
              have h4 := (ancB_listed hclo _ i j p hp (hclo j p hp h3) ((chkD_row hc ho hp).2 (by omega) htp hr)).1
              rw [hun] at h4
              cases h4
          rw [show i + (fu G ops listed - i) = fu G ops listed from by omega] at hq
          rw [hq]
          exact (ev_read hk hev).2 q
  subst hops
  refine Ok.drawS ts' (fun z => bf (fu G l.toArray z)) hm hchk ?_ ?_ hstep hB0 (by show Q .normal ts' (bf _); rw [hB1]; exact hQ)
  · rw [← htn, hlen _ (Nat.le_refl _)]
  · intro t hno
    rw [← htn, hnot t (fun j p hp => hno p (List.mem_of_getElem? ((hget j).symm.trans hp))) _ (Nat.le_refl _)]
end

end Go.Proofs.YtiefcnghjcafbaaDoorV
