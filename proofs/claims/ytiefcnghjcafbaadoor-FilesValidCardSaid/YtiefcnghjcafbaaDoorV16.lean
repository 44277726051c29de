/- The calculus of values, sixteenth text: regions in line and in an open order, computed. -/
import Derived.Test.YtiefcnghjcafbaaDoorV15
namespace Go.Proofs.YtiefcnghjcafbaaDoorV
open Go Go.RowKit

/-! ### What is at hand is brought into plain form before one goes on -/
def frcS {α β : Type} : List α → (List α → β) → β
  | [], k => k []
  | x :: r, k => frcS r fun r => k (x :: r)
theorem frcS_eq {α β : Type} : ∀ (l : List α) (k : List α → β), frcS l k = k l
  | [], _ => rfl
  | x :: r, k => by unfold frcS; rw [frcS_eq r]

def frcN {β : Type} : Nat → (Nat → β) → β
  | 0, k => k 0
  | n + 1, k => k (n + 1)
theorem frcN_eq {β : Type} (n : Nat) (k : Nat → β) : frcN n k = k n := by cases n <;> rfl

def frcA {β : Type} : V → (V → β) → β
  | .val v, k => k (.val v)
  | .nils, k => k .nils
  | .sl xs, k => k (.sl xs)
  | .eptr cs, k => k (.eptr cs)
  | .row j, k => frcN j fun j => k (.row j)
  | .ptr j o, k => frcN j fun j => frcN o fun o => k (.ptr j o)
  | .rptr j a b c, k => frcN j fun j => frcN a fun a => frcN b fun b => frcN c fun c => k (.rptr j a b c)
  | .win j a b c d, k => frcN j fun j => frcN a fun a => frcN b fun b => frcN c fun c => frcN d fun d => k (.win j a b c d)
  | .fn f c, k => k (.fn f c)
  | .agg c, k => k (.agg c)
  | .tup c, k => k (.tup c)
  | .gone, k => k .gone
theorem frcA_eq {β : Type} (v : V) (k : V → β) : frcA v k = k v := by cases v <;> simp [frcA, frcN_eq]

def frcL {β : Type} : List V → (List V → β) → β
  | [], k => k []
  | x :: r, k => frcA x fun x => frcL r fun r => k (x :: r)
theorem frcL_eq {β : Type} : ∀ (l : List V) (k : List V → β), frcL l k = k l
  | [], _ => rfl
  | x :: r, k => by unfold frcL; rw [frcA_eq, frcL_eq r]

def frcV {β : Type} : V → (V → β) → β
  | .agg c, k => frcL c fun c => k (.agg c)
  | .tup c, k => frcL c fun c => k (.tup c)
  | .fn f c, k => frcL c fun c => k (.fn f c)
  | v, k => frcA v k
theorem frcV_eq {β : Type} (v : V) (k : V → β) : frcV v k = k v := by cases v <;> simp [frcV, frcL_eq, frcA, frcN_eq]

def frcB {β : Type} : List Bx → (List Bx → β) → β
  | [], k => k []
  | b :: r, k => frcB r fun r => match b with
    | .cells cs => frcL cs fun cs => k (.cells cs :: r)
    | .dead => k (.dead :: r)
    | .row e sz xs => k (.row e sz xs :: r)
    | .iter s p => k (.iter s p :: r)
theorem frcB_eq {β : Type} : ∀ (l : List Bx) (k : List Bx → β), frcB l k = k l
  | [], _ => rfl
  | b :: r, k => by unfold frcB; rw [frcB_eq r]; cases b <;> simp [frcL_eq]

/-- Operations in line. -/
def runX (L : Lay) (C : CallT) (ops : Array Oper) : List Oper → List V → List Bx → Option (List V × List Bx)
  | [], ts, bs => some (ts, bs)
  | o :: r, ts, bs => match wantV ops o ts with
    | some true => match evX L C o.op ts bs with
      | some (v, bs') => frcV v fun v => frcB bs' fun bs' => frcS (putV o.dst v ts) fun ts' => runX L C ops r ts' bs'
      | none => none
    | some false => frcS (putV o.dst (.tup []) ts) fun ts' => runX L C ops r ts' bs
    | none => none

section
variable {P : Program} {L : Lay} {C : CallT} {N : List V → List Bx → Prop} {Q : Ex → List V → List Bx → Prop}

theorem runX_cons {ops : Array Oper} {o : Oper} {r : List Oper} {ts : List V} {bs : List Bx} : runX L C ops (o :: r) ts bs = (match wantV ops o ts with
    | some true => match evX L C o.op ts bs with
      | some (v, bs') => runX L C ops r (putV o.dst v ts) bs'
      | none => none
    | some false => runX L C ops r (putV o.dst (.tup []) ts) bs
    | none => none) := by
  conv => lhs; unfold runX
  split
  · split
    · rw [frcV_eq, frcB_eq, frcS_eq]
    · rfl
  · rw [frcS_eq]
  · rfl

theorem runX_step {ops : Array Oper} {o : Oper} {r : List Oper} {ts ts' : List V} {bs bs' : List Bx} (h : runX L C ops (o :: r) ts bs = some (ts', bs')) :
    ∃ u v bs1, wantV ops o ts = some u ∧ (u = true → evX L C o.op ts bs = some (v, bs1)) ∧ (u = false → v = .tup [] ∧ bs1 = bs) ∧ runX L C ops r (putV o.dst v ts) bs1 = some (ts', bs') := by
  rw [runX_cons] at h
  split at h
  · rename_i hw
    split at h
    · rename_i v bs1 he
      exact ⟨true, v, bs1, hw, fun _ => he, fun h => (by cases h), h⟩
    · cases h
  · rename_i hw
    exact ⟨false, .tup [], bs, hw, fun h => (by cases h), fun _ => ⟨rfl, rfl⟩, h⟩
  · cases h

theorem runX_sound (hL : LayOk P L) (hC : Good P C) {ops : Array Oper} : ∀ (l : List Oper) (ts : List V) (bs : List Bx) ts' bs', runX L C ops l ts bs = some (ts', bs') → N ts' bs' → Ops P ops N l ts bs
  | [], ts, bs, ts', bs', h, hN => by
    cases h
    exact hN
  | o :: r, ts, bs, ts', bs', h, hN => by
    obtain ⟨u, v, bs1, hw, h1, h2, h3⟩ := runX_step h
    refine ⟨u, hw, fun hu => (evX_sound hL hC (h1 hu)).mono ?_, fun hu => ?_⟩
    · rintro _ _ ⟨rfl, rfl⟩
      exact runX_sound hL hC r _ _ _ _ h3 hN
    · obtain ⟨rfl, rfl⟩ := h2 hu
      exact runX_sound hL hC r _ _ _ _ h3 hN

/-! ### An open order -/
def ancB (ops : Array Oper) : Nat → Nat → Nat → Bool
  | 0, _, _ => false
  | n + 1, a, i => match ops[i]? with
    | none => false
    | some o => o.after.toList.any fun e => Region.binds .any e && (e.on == a || ancB ops n a e.on)

theorem ancB_listed {ops : Array Oper} {listed : Array Bool} (hc : Clo ops listed) : ∀ (n a i : Nat) o, ops[i]? = some o → Wait o listed → ancB ops n a i = true → listed.getD a true = true ∧ True := by
  intro n
  induction n with
  | zero => intro a i o _ _ h; cases h
  | succ n ih =>
    intro a i o ho hw h
    unfold ancB at h
    rw [ho] at h
    simp only [List.any_eq_true, Bool.and_eq_true, Bool.or_eq_true, beq_iff_eq] at h
    obtain ⟨e, he, hb, h1⟩ := h
    have hl := hw e he hb
    rcases h1 with rfl | h1
    · exact ⟨hl, trivial⟩
    · cases hp : ops[e.on]? with
      | none =>
        cases n with
        | zero => cases h1
        | succ n =>
          have : ancB ops (n + 1) a e.on = false := by
            conv => lhs; unfold ancB
            simp only [hp]
          rw [this] at h1
          cases h1
      | some p => exact ih a e.on p hp (hc e.on p hp hl) h1

def isEff (G : FuncId → Bool) (o : Oper) : Bool := match kindOf G o.op with
  | .grow => true
  | .touch => true
  | _ => false
def isTouch (G : FuncId → Bool) (o : Oper) : Bool := match kindOf G o.op with
  | .touch => true
  | _ => false
def isRead (G : FuncId → Bool) (o : Oper) : Bool := match kindOf G o.op with
  | .read => true
  | _ => false

/-- What touches memory comes in one order; a read is ordered against all that could change what it sees. -/
def chkD (G : FuncId → Bool) (ops : Array Oper) : Bool := chk ops && (List.range ops.size).all fun i => match ops[i]? with
  | none => false
  | some o => (List.range ops.size).all fun j => match ops[j]? with
    | none => false
    | some p => if j < i then !isEff G p || !(isEff G o || isRead G o) || ancB ops ops.size j i else if i < j then !(isTouch G p && isRead G o) || ancB ops ops.size i j else true

theorem chkD_row {G : FuncId → Bool} {ops : Array Oper} (h : chkD G ops = true) {i j : Nat} {o p : Oper} (ho : ops[i]? = some o) (hp : ops[j]? = some p) :
    (j < i → isEff G p = true → (isEff G o = true ∨ isRead G o = true) → ancB ops ops.size j i = true) ∧ (i < j → isTouch G p = true → isRead G o = true → ancB ops ops.size i j = true) := by
  unfold chkD at h
  rw [Bool.and_eq_true] at h
  have hi : i < ops.size := (Array.getElem?_eq_some_iff.1 ho).1
  have hj : j < ops.size := (Array.getElem?_eq_some_iff.1 hp).1
  have h1 := List.all_eq_true.1 h.2 i (List.mem_range.2 hi)
  rw [ho] at h1
  have h2 := List.all_eq_true.1 h1 j (List.mem_range.2 hj)
  rw [hp] at h2
  simp only at h2
  constructor
  · intro hlt he hr
    rw [if_pos hlt] at h2
    rcases hr with hr | hr <;> simpa [he, hr] using h2
  · intro hlt he hr
    rw [if_neg (by omega), if_pos hlt] at h2
    simpa [he, hr] using h2
end

end Go.Proofs.YtiefcnghjcafbaaDoorV
