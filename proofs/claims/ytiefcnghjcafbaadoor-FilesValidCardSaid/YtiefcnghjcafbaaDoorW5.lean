/- The calculus of values: a region in an open order where what is read is read as it lay at the start. -/
import Derived.Test.YtiefcnghjcafbaaDoorW4
namespace Go.Proofs.YtiefcnghjcafbaaDoorV
open Go Go.RowKit

/-- One operation of such a region: reads as it lay at the start, slices built are made fast. -/
def evD (L : Lay) (C : CallT) (bz : List Bx) (op : Op) (ts : List V) (bs : List Bx) : Option (V × List Bx) := match op with
  | .buildSlice t n ps => match L.sl t with
    | none => none
    | some (e, sz) => match evPs ts ps.toList, L.zero e with
      | some vs, some z => match fillV (fun i => some (i * sz, sz)) (List.replicate n z).flatten vs with
        | none => none
        | some res => match downs res with
          | none => none
          | some l => if z.length = sz ∧ l.length = n * sz ∧ n * sz ≤ 16777216 then some (.sl (chunk sz n l), bs) else none
      | _, _ => none
  | .load t x => (evX L C (.load t x) ts bz).map fun r => (r.1, bs)
  | .indexAddr t x i => (evX L C (.indexAddr t x i) ts bz).map fun r => (r.1, bs)
  | .call c => match c.callee with
    | .builtin .len => (evX L C (.call c) ts bz).map fun r => (r.1, bs)
    | _ => evX L C (.call c) ts bs
  | op => evX L C op ts bs

def kindH (G H : FuncId → Bool) (op : Op) : Kind := match op with
  | .buildSlice _ _ _ => .free
  | .call c => match c.callee with
    | .builtin .len => .read
    | .value (.func f) => if G f then .free else if H f then .grow else .touch
    | _ => .touch
  | op => kindOf G op

def special : Op → Bool
  | .buildSlice _ _ _ | .load _ _ | .indexAddr _ _ _ | .call _ => true
  | _ => false
theorem evD_plain {L : Lay} {C : CallT} {bz bs : List Bx} {ts : List V} {op : Op} (h : special op = false) : evD L C bz op ts bs = evX L C op ts bs := by
  cases op <;> first | rfl | cases h
theorem kindH_plain {G H : FuncId → Bool} {op : Op} (h : special op = false) : kindH G H op = kindOf G op := by
  cases op <;> first | rfl | cases h

/-- Calls that hand over new boxes at the end. -/
def Grows (H : FuncId → Bool) (C : CallT) : Prop := ∀ f vs bs v bs', H f = true → C f vs bs = some (v, bs') → ∃ l, bs' = bs ++ l

def isEffH (G H : FuncId → Bool) (o : Oper) : Bool := match kindH G H o.op with
  | .grow => true
  | .touch => true
  | _ => false
def isTouchH (G H : FuncId → Bool) (o : Oper) : Bool := match kindH G H o.op with
  | .touch => true
  | _ => false
def isReadH (G H : FuncId → Bool) (o : Oper) : Bool := match kindH G H o.op with
  | .read => true
  | _ => false

/-- What makes or touches memory comes in one order; a read comes ahead of all that touches. -/
def chkG (G H : FuncId → Bool) (ops : Array Oper) : Bool := chk ops && (List.range ops.size).all fun i => match ops[i]? with
  | none => false
  | some o => (List.range ops.size).all fun j => match ops[j]? with
    | none => false
    | some p => (!(decide (j < i) && isEffH G H p && isEffH G H o) || ancB ops ops.size j i) && (!(isTouchH G H p && isReadH G H o) || ancB ops ops.size i j)

theorem chkG_row {G H : FuncId → Bool} {ops : Array Oper} (h : chkG G H ops = true) {i j : Nat} {o p : Oper} (ho : ops[i]? = some o) (hp : ops[j]? = some p) :
    (j < i → isEffH G H p = true → isEffH G H o = true → ancB ops ops.size j i = true) ∧ (isTouchH G H p = true → isReadH G H o = true → ancB ops ops.size i j = true) := by
  unfold chkG at h
  rw [Bool.and_eq_true] at h
  have hi : i < ops.size := (Array.getElem?_eq_some_iff.1 ho).1
  have hj : j < ops.size := (Array.getElem?_eq_some_iff.1 hp).1
  have h1 := List.all_eq_true.1 h.2 i (List.mem_range.2 hi)
  rw [ho] at h1
  have h2 := List.all_eq_true.1 h1 j (List.mem_range.2 hj)
  rw [hp] at h2
  simp only [Bool.and_eq_true] at h2
  refine ⟨fun hlt he hr => ?_, fun he hr => ?_⟩
  · simpa [hlt, he, hr] using h2.1
  · simpa [he, hr] using h2.2

/-- Operations in line. -/
def runD (L : Lay) (C : CallT) (bz : List Bx) (ops : Array Oper) : List Oper → List V → List Bx → Option (List V × List Bx)
  | [], ts, bs => some (ts, bs)
  | o :: r, ts, bs => match wantV ops o ts with
    | some true => match evD L C bz o.op ts bs with
      | some (v, bs') => frcV v fun v => frcB bs' fun bs' => frcS (putV o.dst v ts) fun ts' => runD L C bz ops r ts' bs'
      | none => none
    | some false => frcS (putV o.dst (.tup []) ts) fun ts' => runD L C bz ops r ts' bs
    | none => none

section
variable {P : Program} {m : Nat} {L : Lay} {C : CallT} {G H : FuncId → Bool} {Q : Ex → List V → List Bx → Prop} {ops : Array Oper} {bz : List Bx}

theorem runD_cons {o : Oper} {r : List Oper} {ts : List V} {bs : List Bx} : runD L C bz ops (o :: r) ts bs = (match wantV ops o ts with
    | some true => match evD L C bz o.op ts bs with
      | some (v, bs') => runD L C bz ops r (putV o.dst v ts) bs'
      | none => none
    | some false => runD L C bz ops r (putV o.dst (.tup []) ts) bs
    | none => none) := by
  conv => lhs; unfold runD
  split
  · split
    · rw [frcV_eq, frcB_eq, frcS_eq]
    · rfl
  · rw [frcS_eq]
  · rfl
theorem runD_step {o : Oper} {r : List Oper} {ts ts' : List V} {bs bs' : List Bx} (h : runD L C bz ops (o :: r) ts bs = some (ts', bs')) :
    ∃ u v bs1, wantV ops o ts = some u ∧ (u = true → evD L C bz o.op ts bs = some (v, bs1)) ∧ (u = false → v = .tup [] ∧ bs1 = bs) ∧ runD L C bz ops r (putV o.dst v ts) bs1 = some (ts', bs') := by
  rw [runD_cons] at h
  split at h
  · rename_i hw
    split at h
    · rename_i v bs1 he
      exact ⟨true, v, bs1, hw, fun _ => he, fun h => (by cases h), h⟩
    · cases h
  · rename_i hw
    exact ⟨false, .tup [], bs, hw, fun h => (by cases h), fun _ => ⟨rfl, rfl⟩, h⟩
  · cases h

theorem evD_congr {ts ts' : List V} {bs : List Bx} {op : Op} (h : Agree ts ts' op.operands.toList) : evD L C bz op ts bs = evD L C bz op ts' bs := by
  cases hs : special op with
  | false => rw [evD_plain hs, evD_plain hs, evX_congr h]
  | true =>
  cases op with
  | buildSlice t n ps =>
    have k : ∀ x ∈ (Op.buildSlice t n ps).operands.toList, evO ts x = evO ts' x := fun x hx => evO_congr h hx
    have := evPs_congr (ts := ts) (ts' := ts') (l := ps.toList) (fun x hx => k x (by simpa [Op.operands] using hx))
    simp only [evD, this]
  | load t x => simp only [evD]; rw [evX_congr h]
  | indexAddr t x i => simp only [evD]; rw [evX_congr h]
  | call c =>
    unfold evD
    simp only
    split
    · rw [evX_congr h]
    · rw [evX_congr h]
  | _ => cases hs

/-- A free operation leaves the boxes and does not look at them. -/
theorem evD_free (hG : Calm G C) {ts : List V} {bs bs' : List Bx} {op : Op} {v : V} (hk : kindH G H op = .free) (h : evD L C bz op ts bs = some (v, bs')) : bs' = bs ∧ ∀ bs2, evD L C bz op ts bs2 = some (v, bs2) := by
  cases hs : special op with
  | false =>
    rw [evD_plain hs] at h
    rw [kindH_plain hs] at hk
    obtain ⟨h1, h2⟩ := ev_free hG hk h
    exact ⟨h1, fun bs2 => by rw [evD_plain hs]; exact h2 bs2⟩
  | true =>
  cases op with
  | buildSlice t n ps =>
    simp only [evD] at h ⊢
    repeat' split at h
    all_goals first
      | (cases h; done)
      | skip
    cases h
    refine ⟨rfl, fun bs2 => ?_⟩
    simp_all
  | load t x => cases hk
  | indexAddr t x i => cases hk
  | call c =>
    obtain ⟨cal, args, tys⟩ := c
    cases cal with
    | value f0 =>
      cases f0 with
      | func f =>
        have hg : G f = true := by
          simp only [kindH] at hk
          split at hk
          · assumption
          · split at hk <;> cases hk
        have hk2 : kindOf G (.call { callee := .value (.func f), args := args, argTypes := tys }) = .free := by simp [kindOf, hg]
        exact ev_free (L := L) (op := .call { callee := .value (.func f), args := args, argTypes := tys }) hG hk2 h
      | _ => cases hk
    | invoke r m => cases hk
    | builtin b => cases b <;> cases hk
  | _ => cases hs

theorem evD_read {ts : List V} {bs bs' : List Bx} {op : Op} {v : V} (hk : kindH G H op = .read) (h : evD L C bz op ts bs = some (v, bs')) : bs' = bs ∧ ∀ l, evX L C op ts (bz ++ l) = some (v, bz ++ l) := by
  cases hs : special op with
  | false =>
    rw [kindH_plain hs] at hk
    exfalso
    unfold kindOf at hk
    cases op <;> simp [special] at hs hk
  | true =>
  cases op with
  | load t x =>
    simp only [evD] at h
    obtain ⟨⟨v', b'⟩, hr, he⟩ := Option.map_eq_some_iff.1 h
    cases he
    obtain ⟨rfl, h2⟩ := ev_read (G := G) rfl hr
    exact ⟨rfl, h2⟩
  | indexAddr t x i =>
    simp only [evD] at h
    obtain ⟨⟨v', b'⟩, hr, he⟩ := Option.map_eq_some_iff.1 h
    cases he
    obtain ⟨rfl, h2⟩ := ev_read (G := G) rfl hr
    exact ⟨rfl, h2⟩
  | call c =>
    obtain ⟨cal, args, tys⟩ := c
    cases cal with
    | value f0 =>
      cases f0 with
      | func f =>
        simp only [kindH] at hk
        repeat' split at hk
        all_goals cases hk
      | _ => cases hk
    | invoke r m => cases hk
    | builtin b =>
      cases b with
      | len =>
        simp only [evD] at h
        obtain ⟨⟨v', b'⟩, hr, he⟩ := Option.map_eq_some_iff.1 h
        cases he
        obtain ⟨rfl, h2⟩ := ev_read (G := G) rfl hr
        exact ⟨rfl, h2⟩
      | _ => cases hk
  | buildSlice t n ps => cases hk
  | _ => cases hs

theorem evD_grow (hH : Grows H C) {ts : List V} {bs bs' : List Bx} {op : Op} {v : V} (hk : kindH G H op = .grow) (h : evD L C bz op ts bs = some (v, bs')) : ∃ l, bs' = bs ++ l := by
  cases hs : special op with
  | false =>
    rw [evD_plain hs] at h
    rw [kindH_plain hs] at hk
    exact ev_grow hk h
  | true =>
  cases op with
  | call c =>
    obtain ⟨cal, args, tys⟩ := c
    cases cal with
    | value f0 =>
      cases f0 with
      | func f =>
        have hg : H f = true := by
          simp only [kindH] at hk
          split at hk
          · cases hk
          · split at hk
            · assumption
            · cases hk
        simp only [evD, evX, evO] at h
        split at h
        · rename_i f2 vs hf hv
          cases hf
          exact hH _ _ _ _ _ hg h
        · rename_i f2 c0 cap vs hf hv
          cases hf
        · cases h
      | _ => cases hk
    | invoke r m => cases hk
    | builtin b => cases b <;> cases hk
  | buildSlice t n ps => cases hk
  | load t x => cases hk
  | indexAddr t x i => cases hk
  | _ => cases hs

/-- What it comes to. -/
theorem evD_sound (hL : LayOk P L) (hC : Good P C) {ts : List V} {bs bs' : List Bx} {o : Oper} {v : V} (hr : isReadH G H o = true → ∃ l, bs = bz ++ l) (h : evD L C bz o.op ts bs = some (v, bs')) : Comes1 P o ts bs v bs' := by
  cases hk : kindH G H o.op with
  | read =>
    obtain ⟨l, rfl⟩ := hr (by simp [isReadH, hk])
    obtain ⟨rfl, h2⟩ := evD_read hk h
    exact evX_sound hL hC (h2 l)
  | _ =>
    all_goals
      generalize ho : o.op = op at h hk
      cases hs : special op with
      | false =>
        rw [evD_plain hs] at h
        exact evX_sound hL hC (by rw [ho]; exact h)
      | true =>
      cases op with
      | buildSlice t n ps =>
        simp only [evD] at h
        split at h
        · cases h
        · rename_i e sz hsl
          split at h
          · rename_i vs z hp hz
            split at h
            · cases h
            · rename_i res hf
              split at h
              · cases h
              · rename_i l hd
                split at h
                · rename_i hc
                  cases h
                  exact op_rowsF hL ho hp hsl hz hf hd hc.1 hc.2.1 hc.2.2
                · cases h
          · cases h
      | load t x => cases hk
      | indexAddr t x i => cases hk
      | call c =>
        refine evX_sound hL hC ?_
        rw [ho]
        unfold evD at h
        simp only at h
        split at h
        · rename_i hb
          exfalso
          obtain ⟨cal, args, tys⟩ := c
          simp only at hb
          subst hb
          cases hk
        · exact h
      | _ => cases hs

theorem evD_read2 {ts : List V} {bs bs' : List Bx} {op : Op} {v : V} (hk : kindH G H op = .read) (h : evD L C bz op ts bs = some (v, bs')) : bs' = bs ∧ ∀ bs2, evD L C bz op ts bs2 = some (v, bs2) := by
  cases hs : special op with
  | false =>
    rw [kindH_plain hs] at hk
    exfalso
    unfold kindOf at hk
    cases op <;> simp [special] at hs hk
  | true =>
  cases op with
  | load t x =>
    simp only [evD] at h ⊢
    obtain ⟨⟨v', b'⟩, hr, he⟩ := Option.map_eq_some_iff.1 h
    cases he
    exact ⟨rfl, fun bs2 => by rw [hr]; rfl⟩
  | indexAddr t x i =>
    simp only [evD] at h ⊢
    obtain ⟨⟨v', b'⟩, hr, he⟩ := Option.map_eq_some_iff.1 h
    cases he
    exact ⟨rfl, fun bs2 => by rw [hr]; rfl⟩
  | call c =>
    obtain ⟨cal, args, tys⟩ := c
    cases cal with
    | value f0 =>
      cases f0 with
      | func f =>
        simp only [kindH] at hk
        repeat' split at hk
        all_goals cases hk
      | _ => cases hk
    | invoke r m => cases hk
    | builtin b =>
      cases b with
      | len =>
        simp only [evD] at h ⊢
        obtain ⟨⟨v', b'⟩, hr, he⟩ := Option.map_eq_some_iff.1 h
        cases he
        exact ⟨rfl, fun bs2 => by rw [hr]; rfl⟩
      | _ => cases hk
  | buildSlice t n ps => cases hk
  | _ => cases hs

/-- What holds on the way, in line. -/
def WayD (L : Lay) (C : CallT) (bz : List Bx) (ops : Array Oper) (o : Oper) (u : Bool) (v : V) (ts ts1 : List V) (bs bs1 : List Bx) : Prop :=
  wantV ops o ts = some u ∧ (u = true → evD L C bz o.op ts bs = some (v, bs1)) ∧ (u = false → v = .tup [] ∧ bs1 = bs) ∧ ts1 = putV o.dst v ts

theorem statesD : ∀ (l : List Oper) (ts : List V) (bs : List Bx) ts' bs', runD L C bz ops l ts bs = some (ts', bs') →
    ∃ (tf : Nat → List V) (bf : Nat → List Bx) (uf : Nat → Bool) (vf : Nat → V), tf 0 = ts ∧ bf 0 = bs ∧ tf l.length = ts' ∧ bf l.length = bs' ∧ ∀ (i : Nat) o, l[i]? = some o → WayD L C bz ops o (uf i) (vf i) (tf i) (tf (i + 1)) (bf i) (bf (i + 1))
  | [], ts, bs, ts', bs', h => by
    cases h
    exact ⟨fun _ => ts, fun _ => bs, fun _ => true, fun _ => .nils, rfl, rfl, rfl, rfl, fun i o h => by simp at h⟩
  | o :: r, ts, bs, ts', bs', h => by
    obtain ⟨u, v, bs1, hw, h1, h2, h3⟩ := runD_step h
    obtain ⟨tf, bf, uf, vf, k1, k2, k3, k4, k5⟩ := statesD r _ _ _ _ h3
    refine ⟨fun | 0 => ts | i + 1 => tf i, fun | 0 => bs | i + 1 => bf i, fun | 0 => u | i + 1 => uf i, fun | 0 => v | i + 1 => vf i, rfl, rfl, k3, k4, fun i p hp => ?_⟩
    cases i with
    | zero =>
      obtain rfl : o = p := by simpa using hp
      exact ⟨hw, by simpa only [k2] using h1, by simpa only [k2] using h2, k1⟩
    | succ i => exact k5 i p (by simpa using hp)

def fuH (G H : FuncId → Bool) (ops : Array Oper) (listed : Array Bool) : Nat := ((List.range ops.size).find? fun j => ((ops[j]?).map (isEffH G H)).getD false && !listed.getD j true).getD ops.size

theorem fuH_is {listed : Array Bool} {m : Nat} (h1 : ∀ j p, j < m → ops[j]? = some p → isEffH G H p = true → listed.getD j true = true) (hm : m ≤ ops.size) (h2 : m = ops.size ∨ ∃ p, ops[m]? = some p ∧ isEffH G H p = true ∧ listed.getD m true = false) : fuH G H ops listed = m := by
  unfold fuH
  rcases h2 with rfl | ⟨p, hp, he, hl⟩
  · rw [List.find?_eq_none.2]
    · rfl
    · intro j hj
      have hj := List.mem_range.1 hj
      obtain ⟨p, hp⟩ : ∃ p, ops[j]? = some p := ⟨_, Array.getElem?_eq_getElem hj⟩
      rw [hp]
      simp only [Option.map_some, Option.getD_some, Bool.and_eq_true, Bool.not_eq_true', not_and]
      intro he
      rw [h1 j p hj hp he]
      simp
  · have hlt : m < ops.size := (Array.getElem?_eq_some_iff.1 hp).1
    have : (List.range ops.size).find? (fun j => ((ops[j]?).map (isEffH G H)).getD false && !listed.getD j true) = some m := by
      rw [List.find?_range_eq_some]
      refine ⟨by rw [hp]; simp [he, hl], List.mem_range.2 hlt, fun j hj => ?_⟩
      obtain ⟨q, hq⟩ : ∃ q, ops[j]? = some q := ⟨_, Array.getElem?_eq_getElem (by omega)⟩
      rw [hq]
      simp only [Option.map_some, Option.getD_some]
      cases he2 : isEffH G H q with
      | false => rfl
      | true => rw [h1 j q hj hq he2]; rfl
    rw [this]
    rfl

theorem fuH_le {listed : Array Bool} : fuH G H ops listed ≤ ops.size := by
  unfold fuH
  cases h : (List.range ops.size).find? (fun j => ((ops[j]?).map (isEffH G H)).getD false && !listed.getD j true) with
  | none => exact Nat.le_refl _
  | some j => exact Nat.le_of_lt (List.mem_range.1 (List.mem_of_find?_eq_some h))

theorem fuH_before {listed : Array Bool} {j : Nat} {p : Oper} (hj : j < fuH G H ops listed) (hp : ops[j]? = some p) (he : isEffH G H p = true) : listed.getD j true = true := by
  have hlt : j < ops.size := (Array.getElem?_eq_some_iff.1 hp).1
  cases hl : listed.getD j true with
  | true => rfl
  | false =>
    exfalso
    unfold fuH at hj
    cases h : (List.range ops.size).find? (fun j => ((ops[j]?).map (isEffH G H)).getD false && !listed.getD j true) with
    | none =>
      have := List.find?_eq_none.1 h j (List.mem_range.2 hlt)
      rw [hp] at this
      simp [he, hl] at this
    | some m =>
      rw [h] at hj
      have := (List.find?_range_eq_some.1 h).2.2 j hj
      rw [hp] at this
      simp [he, hl] at this

theorem fuH_at {listed : Array Bool} (h : fuH G H ops listed < ops.size) : ∃ p, ops[fuH G H ops listed]? = some p ∧ isEffH G H p = true ∧ listed.getD (fuH G H ops listed) true = false := by
  unfold fuH at h ⊢
  cases hf : (List.range ops.size).find? (fun j => ((ops[j]?).map (isEffH G H)).getD false && !listed.getD j true) with
  | none => rw [hf] at h; simp at h
  | some m =>
    have h1 := (List.find?_range_eq_some.1 hf).1
    rw [hf] at h
    simp only [Option.getD_some] at h ⊢
    obtain ⟨q, hq⟩ : ∃ q, ops[m]? = some q := ⟨_, Array.getElem?_eq_getElem h⟩
    rw [hq] at h1
    simp only [Option.map_some, Option.getD_some, Bool.and_eq_true, Bool.not_eq_true'] at h1
    exact ⟨q, hq, h1.1, h1.2⟩

theorem Ok.regionG (hm : P.follows .mixedOrders = true) (hL : LayOk P L) (hC : Good P C) (hG : Calm G C) (hH : Grows H C) {id : Nat} {l : List Oper} {ts : List V} {bs : List Bx} {ts' : List V} {bs' : List Bx} (hc : chkG G H l.toArray = true)
    (hdst : (l.all fun o => match o.dst with | none => true | some t => decide (t < ts.length)) = true)
    (h : runD L C bs l.toArray l ts bs = some (ts', bs')) (hQ : Q .normal ts' bs') : Ok P m (.region id l.toArray true) Q ts bs := by
  obtain ⟨tf, bf, uf, vf, t0, b0, tn, bn, way⟩ := statesD l ts bs ts' bs' h
  generalize hops : l.toArray = ops at hc way h
  have hget : ∀ i : Nat, ops[i]? = l[i]? := fun i => by rw [← hops]; simp
  have hsize : ops.size = l.length := by rw [← hops]; simp
  have hchk : chk ops = true := by unfold chkG at hc; rw [Bool.and_eq_true] at hc; exact hc.1
  have hin : ∀ (i : Nat) o t, ops[i]? = some o → o.dst = some t → t < ts.length := fun i o t ho hd => by
    have := List.all_eq_true.1 hdst o (List.mem_of_getElem? ((hget i).symm.trans ho))
    rw [hd] at this
    simpa using this
  have way' : ∀ (i : Nat) o, ops[i]? = some o → WayD L C bs ops o (uf i) (vf i) (tf i) (tf (i + 1)) (bf i) (bf (i + 1)) := fun i o ho => way i o ((hget i).symm.trans ho)
  have hlen : ∀ i, i ≤ ops.size → (tf i).length = ts.length := by
    intro i
    induction i with
    | zero => intro _; rw [t0]
    | succ i ih =>
      intro hi
      obtain ⟨o, ho⟩ : ∃ o, ops[i]? = some o := ⟨_, Array.getElem?_eq_getElem (by omega)⟩
      rw [(way' i o ho).2.2.2, ← ih (by omega)]
      cases o.dst <;> simp [putV]
  have hwrote : ∀ (j : Nat) p t, ops[j]? = some p → p.dst = some t → ∀ i, j < i → i ≤ ops.size → (tf i)[t]? = some (vf j) := by
    intro j p t hp hd i
    induction i with
    | zero => intro h; omega
    | succ i ih =>
      intro hji hi
      obtain ⟨o, ho⟩ : ∃ o, ops[i]? = some o := ⟨_, Array.getElem?_eq_getElem (by omega)⟩
      rw [(way' i o ho).2.2.2]
      by_cases hij : j = i
      · subst hij
        obtain rfl : p = o := Option.some.inj (hp.symm.trans ho)
        rw [hd]
        have : t < (tf j).length := by rw [hlen j (by omega)]; exact hin j p t hp hd
        simp [putV, this]
      · have hne := ((chk_row hchk ho).2.1 j p t hp hd).1.resolve_left hij
        have h1 := ih (by omega) (by omega)
        cases hd2 : o.dst with
        | none => exact h1
        | some t2 =>
          have : t2 ≠ t := fun e => hne (by rw [hd, hd2, e])
          simp only [putV]
          rw [List.getElem?_set_ne this]
          exact h1
  have hnot : ∀ t, (∀ (j : Nat) p, ops[j]? = some p → p.dst ≠ some t) → ∀ i, i ≤ ops.size → (tf i)[t]? = ts[t]? := by
    intro t hno i
    induction i with
    | zero => intro _; rw [t0]
    | succ i ih =>
      intro hi
      obtain ⟨o, ho⟩ : ∃ o, ops[i]? = some o := ⟨_, Array.getElem?_eq_getElem (by omega)⟩
      rw [(way' i o ho).2.2.2]
      cases hd2 : o.dst with
      | none => exact ih (by omega)
      | some t2 =>
        have : t2 ≠ t := fun e => hno i o ho (by rw [hd2, e])
        simp only [putV]
        rw [List.getElem?_set_ne this]
        exact ih (by omega)
  have htn : tf ops.size = ts' := by rw [hsize]; exact tn
  have hbn : bf ops.size = bs' := by rw [hsize]; exact bn
  have hyet : ∀ (t i : Nat), i ≤ ops.size → (∀ (j : Nat) p, j < i → ops[j]? = some p → p.dst ≠ some t) → (tf i)[t]? = ts[t]? := by
    intro t i
    induction i with
    | zero => intro _ _; rw [t0]
    | succ i ih =>
      intro hi hno
      obtain ⟨o, ho⟩ : ∃ o, ops[i]? = some o := ⟨_, Array.getElem?_eq_getElem (by omega)⟩
      rw [(way' i o ho).2.2.2]
      cases hd2 : o.dst with
      | none => exact ih (by omega) fun j p hj => hno j p (by omega)
      | some t2 =>
        have : t2 ≠ t := fun e => hno i o (by omega) ho (by rw [hd2, e])
        simp only [putV]
        rw [List.getElem?_set_ne this]
        exact ih (by omega) fun j p hj => hno j p (by omega)
  have hsees : ∀ (i : Nat) o, ops[i]? = some o → ∀ t ∈ tmpsOf o.op.operands.toList, Late ops i t → (tf i)[t]? = ts[t]? := by
    rintro i o ho t htm ⟨j, p, hp, hdt, e, hem, hb, he⟩
    have hi : i < ops.size := (Array.getElem?_eq_some_iff.1 ho).1
    have hlt := (chk_row hchk hp).1 e hem hb
    refine hyet t i (by omega) fun j' p' hj' hp' hdt' => ?_
    rcases ((chk_row hchk hp).2.1 j' p' t hp' hdt').1 with rfl | hne
    · omega
    · exact hne (hdt'.trans hdt.symm)
  have hread : ∀ (i : Nat) o, ops[i]? = some o → ∀ t ∈ tmpsOf o.op.operands.toList, ¬ Late ops i t → (tf i)[t]? = ts'[t]? := by
    intro i o ho t htm hlate
    have hi : i < ops.size := (Array.getElem?_eq_some_iff.1 ho).1
    by_cases hd : ∃ (j : Nat) (p : Oper), ops[j]? = some p ∧ p.dst = some t
    · obtain ⟨j, p, hp, hdt⟩ := hd
      rcases ((chk_row hchk ho).2.1 j p t hp hdt).2 htm with ⟨e, hem, hb, rfl⟩ | hl2
      · have hlt := (chk_row hchk ho).1 e hem hb
        rw [hwrote e.on p t hp hdt i hlt (by omega), ← htn, hwrote e.on p t hp hdt ops.size (by omega) (Nat.le_refl _)]
      · exact absurd ⟨j, p, hp, hdt, hl2⟩ hlate
    · have hn : ∀ (j : Nat) p, ops[j]? = some p → p.dst ≠ some t := fun j p hp hdt => hd ⟨j, p, hp, hdt⟩
      rw [hnot t hn i (by omega), ← htn, hnot t hn ops.size (Nat.le_refl _)]
  have hwant : ∀ (i : Nat) o, ops[i]? = some o → wantV ops o ts' = some (uf i) := by
    intro i o ho
    have hi : i < ops.size := (Array.getElem?_eq_some_iff.1 ho).1
    rw [← (way' i o ho).1]
    unfold wantV
    cases hg : o.guard with
    | none => rfl
    | some q =>
      obtain ⟨j, b⟩ := q
      obtain ⟨e, hem, hb, rfl⟩ := (chk_row hchk ho).2.2 j b hg
      have hlt := (chk_row hchk ho).1 e hem hb
      simp only
      cases hd : (ops[e.on]?).bind (·.dst) with
      | none => rfl
      | some t =>
        simp only [Option.bind_some]
        obtain ⟨p, hp, hdt⟩ := Option.bind_eq_some_iff.1 hd
        rw [hwrote e.on p t hp hdt i hlt (by omega), ← htn, hwrote e.on p t hp hdt ops.size (by omega) (Nat.le_refl _)]
  have hkeep : ∀ (i : Nat) o, ops[i]? = some o → isEffH G H o = false → bf (i + 1) = bf i := by
    intro i o ho he
    obtain ⟨_, h1, h2, _⟩ := way' i o ho
    cases hu : uf i with
    | false => exact (h2 hu).2
    | true =>
      have h3 := h1 hu
      cases hk : kindH G H o.op with
      | free => exact (evD_free hG hk h3).1
      | read => exact (evD_read2 hk h3).1
      | grow => simp [isEffH, hk] at he
      | touch => simp [isEffH, hk] at he
  have hgrow : ∀ (i : Nat) o, ops[i]? = some o → isTouchH G H o = false → ∃ q, bf (i + 1) = bf i ++ q := by
    intro i o ho he
    obtain ⟨_, h1, h2, _⟩ := way' i o ho
    cases hu : uf i with
    | false => exact ⟨[], by rw [(h2 hu).2]; simp⟩
    | true =>
      have h3 := h1 hu
      cases hk : kindH G H o.op with
      | free => exact ⟨[], by rw [(evD_free hG hk h3).1]; simp⟩
      | read => exact ⟨[], by rw [(evD_read2 hk h3).1]; simp⟩
      | grow => exact evD_grow hH hk h3
      | touch => simp [isTouchH, hk] at he
  have hkeeps : ∀ (i d : Nat), i + d ≤ ops.size → (∀ j p, i ≤ j → j < i + d → ops[j]? = some p → isEffH G H p = false) → bf (i + d) = bf i := by
    intro i d
    induction d with
    | zero => intro _ _; rfl
    | succ d ih =>
      intro hi hno
      obtain ⟨o, ho⟩ : ∃ o, ops[i + d]? = some o := ⟨_, Array.getElem?_eq_getElem (by omega)⟩
      have h1 := hkeep (i + d) o ho (hno (i + d) o (by omega) (by omega) ho)
      have h2 := ih (by omega) fun j p h1 h2 h3 => hno j p h1 (by omega) h3
      exact h1.trans h2
  have hgrows : ∀ (i d : Nat), i + d ≤ ops.size → (∀ j p, i ≤ j → j < i + d → ops[j]? = some p → isTouchH G H p = false) → ∃ q, bf (i + d) = bf i ++ q := by
    intro i d
    induction d with
    | zero => intro _ _; exact ⟨[], by simp⟩
    | succ d ih =>
      intro hi hno
      obtain ⟨o, ho⟩ : ∃ o, ops[i + d]? = some o := ⟨_, Array.getElem?_eq_getElem (by omega)⟩
      obtain ⟨q1, h1⟩ := hgrow (i + d) o ho (hno (i + d) o (by omega) (by omega) ho)
      obtain ⟨q2, h2⟩ := ih (by omega) fun j p h1 h2 h3 => hno j p h1 (by omega) h3
      exact ⟨q2 ++ q1, by rw [show i + (d + 1) = i + d + 1 from rfl, h1, h2, List.append_assoc]⟩
  have hB1 : bf (fuH G H ops (Array.replicate ops.size true)) = bs' := by
    rw [fuH_is (m := ops.size) (fun j p hj hp _ => by simp [hj]) (Nat.le_refl _) (.inl rfl)]
    exact hbn
  have hB0 : bf (fuH G H ops (Array.replicate ops.size false)) = bs := by
    have : ∀ j p, 0 ≤ j → j < 0 + fuH G H ops (Array.replicate ops.size false) → ops[j]? = some p → isEffH G H p = false := by
      intro j p _ hj hp
      have hlt : j < ops.size := (Array.getElem?_eq_some_iff.1 hp).1
      cases he : isEffH G H p with
      | false => rfl
      | true =>
        have := fuH_before (G := G) (H := H) (listed := Array.replicate ops.size false) (by omega) hp he
        simp [hlt] at this
    have := hkeeps 0 (fuH G H ops (Array.replicate ops.size false)) (by have := fuH_le (G := G) (H := H) (ops := ops) (listed := Array.replicate ops.size false); omega) this
    rw [Nat.zero_add] at this
    rw [this, b0]
  have hstep : ∀ (i : Nat) o listed, ops[i]? = some o → Clo ops listed → listed.size = ops.size → listed.getD i true = false → Wait o listed → StepOp P ops i o ts' ts (fun z => bf (fuH G H ops z)) listed := by
    intro i o listed ho hclo hsz hun hwt
    have hi : i < ops.size := (Array.getElem?_eq_some_iff.1 ho).1
    have hset : ∀ j, (listed.setIfInBounds i true).getD j true = if j = i then true else listed.getD j true := fun j => by
      rw [getD_listed]
      by_cases hji : j = i
      · subst hji
        rw [if_pos ⟨rfl, by omega⟩, if_pos rfl]
      · rw [if_neg (fun h => hji h.1.symm), if_neg hji]
    obtain ⟨w1, w2, w3, w4⟩ := way' i o ho
    have hB : (isEffH G H o = true → bf (fuH G H ops listed) = bf i ∧ bf (fuH G H ops (listed.setIfInBounds i true)) = bf (i + 1)) ∧ (isEffH G H o = false → fuH G H ops (listed.setIfInBounds i true) = fuH G H ops listed) := by
      constructor
      · intro he
        have h1 : fuH G H ops listed = i := fuH_is (fun j p hj hp hep => (ancB_listed hclo _ j i o ho hwt ((chkG_row hc ho hp).1 hj hep he)).1) (by omega) (.inr ⟨o, ho, he, hun⟩)
        refine ⟨by rw [h1], ?_⟩
        have hge : i + 1 ≤ fuH G H ops (listed.setIfInBounds i true) := by
          rcases Nat.lt_or_ge i (fuH G H ops (listed.setIfInBounds i true)) with h | h
          · exact h
          · exfalso
            obtain ⟨p, hp, hep, hlp⟩ := fuH_at (G := G) (H := H) (ops := ops) (listed := listed.setIfInBounds i true) (by omega)
            rw [hset] at hlp
            split at hlp
            · cases hlp
            · rename_i hne
              have h2 : fuH G H ops (listed.setIfInBounds i true) < fuH G H ops listed := by omega
              have := fuH_before h2 hp hep
              rw [this] at hlp
              cases hlp
        have hle := fuH_le (G := G) (H := H) (ops := ops) (listed := listed.setIfInBounds i true)
        have := hkeeps (i + 1) (fuH G H ops (listed.setIfInBounds i true) - (i + 1)) (by omega) fun j p h1 h2 hp => by
          cases hep : isEffH G H p with
          | false => rfl
          | true =>
            exfalso
            have h3 := fuH_before (G := G) (H := H) (listed := listed.setIfInBounds i true) (by omega) hp hep
            rw [hset, if_neg (by omega)] at h3
            have h4 := (ancB_listed hclo _ i j p hp (hclo j p hp h3) ((chkG_row hc hp ho).1 (by omega) he hep)).1
            rw [hun] at h4
            cases h4
        rwa [show i + 1 + (fuH G H ops (listed.setIfInBounds i true) - (i + 1)) = fuH G H ops (listed.setIfInBounds i true) from by omega] at this
      · intro he
        refine fuH_is (fun j p hj hp hep => ?_) fuH_le ?_
        · rw [hset]
          split
          · rfl
          · exact fuH_before hj hp hep
        · rcases Nat.lt_or_ge (fuH G H ops listed) ops.size with h | h
          · obtain ⟨p, hp, hep, hlp⟩ := fuH_at h
            refine .inr ⟨p, hp, hep, ?_⟩
            rw [hset, if_neg (fun e => ?_)]
            · exact hlp
            · rw [e, ho] at hp
              obtain rfl := Option.some.inj hp
              rw [he] at hep
              cases hep
          · exact .inl (Nat.le_antisymm fuH_le h)
    refine ⟨vf i, uf i, fun t hd => ?_, hwant i o ho, fun hu => ⟨(w3 hu).1, ?_⟩, fun hu tx hlx hag => ?_⟩
    · rw [← htn]
      exact hwrote i o t ho hd ops.size hi (Nat.le_refl _)
    · cases he : isEffH G H o with
      | true =>
        obtain ⟨k1, k2⟩ := hB.1 he
        show bf _ = bf _
        rw [k1, k2, (w3 hu).2]
      | false =>
        show bf _ = bf _
        rw [hB.2 he]
    · have hev := w2 hu
      have hgo : ∀ b1 b2, (isReadH G H o = true → ∃ q, b1 = bs ++ q) → evD L C bs o.op (tf i) b1 = some (vf i, b2) → OpOk P o (fun ts' bs' => ts' = putV o.dst (vf i) tx ∧ bs' = b2) tx b1 := fun b1 b2 hrd hx => by
        refine evD_sound hL hC hrd ?_
        rw [evD_congr (ts' := tf i)]
        · exact hx
        · intro t ht
          by_cases hlate : Late ops i t
          · exact ((hag t ht).1 hlate).trans (hsees i o ho t ht hlate).symm
          · exact ((hag t ht).2 hlate).trans (hread i o ho t ht hlate).symm
      cases he : isEffH G H o with
      | true =>
        obtain ⟨k1, k2⟩ := hB.1 he
        show OpOk P o (fun ts' bs' => ts' = putV o.dst (vf i) tx ∧ bs' = bf _) tx (bf _)
        rw [k1, k2]
        exact hgo _ _ (fun hr => by
          unfold isEffH at he
          unfold isReadH at hr
          cases hk : kindH G H o.op <;> simp [hk] at he hr) hev
      | false =>
        show OpOk P o (fun ts' bs' => ts' = putV o.dst (vf i) tx ∧ bs' = bf _) tx (bf _)
        rw [hB.2 he]
        cases hk : kindH G H o.op with
        | free => exact hgo _ _ (fun hr => by simp [isReadH, hk] at hr) ((evD_free hG hk hev).2 _)
        | grow => simp [isEffH, hk] at he
        | touch => simp [isEffH, hk] at he
        | read =>
          have hr : isReadH G H o = true := by simp [isReadH, hk]
          obtain ⟨q, hq⟩ := hgrows 0 (fuH G H ops listed) (by have := fuH_le (G := G) (H := H) (ops := ops) (listed := listed); omega) fun j p h1 h2 hp => by
            cases htp : isTouchH G H p with
            | false => rfl
            | true =>
              exfalso
              have hep : isEffH G H p = true := by
                unfold isTouchH at htp
                unfold isEffH
                split at htp
                · rename_i hk2
                  rw [hk2]
                · cases htp
              have h3 := fuH_before (G := G) (H := H) (listed := listed) (by omega) hp hep
              have h4 := (ancB_listed hclo _ i j p hp (hclo j p hp h3) ((chkG_row hc ho hp).2 htp hr)).1
              rw [hun] at h4
              cases h4
          rw [Nat.zero_add, b0] at hq
          exact hgo _ _ (fun _ => ⟨q, hq⟩) ((evD_read2 hk hev).2 _)
  subst hops
  refine Ok.drawS ts' (fun z => bf (fuH G H l.toArray z)) hm hchk ?_ ?_ hstep hB0 (by show Q .normal ts' (bf _); rw [hB1]; exact hQ)
  · rw [← htn, hlen _ (Nat.le_refl _)]
  · intro t hno
    rw [← htn, hnot t (fun j p hp => hno p (List.mem_of_getElem? ((hget j).symm.trans hp))) _ (Nat.le_refl _)]
end

end Go.Proofs.YtiefcnghjcafbaaDoorV
