/- The calculus of values, second text: what it says that a piece of code, an operation, a call of a Go function comes to, and the rules of control. -/
import Derived.Deep.LoopGhost
import Derived.Test.YtiefcnghjcafbaaDoorV1
namespace Go.Proofs.YtiefcnghjcafbaaDoorV
open Go Go.RowKit

/-- The temporaries. -/
def Tm (ok : Nat → Prop) (w : World) (φ : List Value) (ts : List V) (a : Act) : Prop :=
  ts.length = a.tmps.size ∧ a.defers = [] ∧ ∀ (i : Nat) c, ts[i]? = some c → RV ok w φ c (a.tmps.getD i Go.undef)

inductive Ex where
  | normal
  | exit (id : Nat)
  | ret

def Ex.out : Ex → Exit
  | .normal => .normal
  | .exit id => .exit id
  | .ret => .ret

/-- What code comes to. -/
def Ok (P : Program) (m : Nat) (c : Code) (Q : Ex → List V → List Bx → Prop) (ts : List V) (bs : List Bx) : Prop :=
  ∀ (T : Nat → Prop) φ w a, Sim T bs φ w → Tm (okOf T bs φ) w φ ts a → ∀ K : Exit → Act → World → Prop,
    (∀ e ts' bs' φ' a' w', Q e ts' bs' → ExtM m bs φ w bs' φ' w' → Sim T bs' φ' w' → Tm (okOf T bs' φ') w' φ' ts' a' → K e.out a' w') → c.wp P K a w

/-- What an operation comes to. -/
def OpOk (P : Program) (o : Oper) (N : List V → List Bx → Prop) (ts : List V) (bs : List Bx) : Prop :=
  ∀ (T : Nat → Prop) φ w a, Sim T bs φ w → Tm (okOf T bs φ) w φ ts a → ∀ (K : Act → World → Prop) (Qx : Exit → Act → World → Prop),
    (∀ ts' bs' φ' a' w', N ts' bs' → Ext bs φ w bs' φ' w' → Sim T bs' φ' w' → Tm (okOf T bs' φ') w' φ' ts' a' → K a' w') → o.wp P a w K Qx

/-- Arguments, or other values, beside their places in memory. -/
def RVs (ok : Nat → Prop) (w : World) (φ : List Value) (xs : List V) (vs : Array Value) : Prop :=
  xs.length = vs.size ∧ ∀ (i : Nat) c, xs[i]? = some c → RV ok w φ c (vs.getD i Go.undef)

/-- What a call of a Go function comes to. -/
def FnOk (P : Program) (f : FuncId) (args : List V) (bs : List Bx) (Q : V → List Bx → Prop) : Prop :=
  ∀ (T : Nat → Prop) φ w vargs, Sim T bs φ w → RVs (okOf T bs φ) w φ args vargs →
    Calls P f vargs w fun e w' => ∃ v r bs' φ', e = .returned v ∧ Q r bs' ∧ Ext bs φ w bs' φ' w' ∧ Sim T bs' φ' w' ∧ RV (okOf T bs' φ') w' φ' r v

section
variable {P : Program} {m : Nat} {Q Q' : Ex → List V → List Bx → Prop} {N N' : List V → List Bx → Prop} {ts : List V} {bs : List Bx} {c x y : Code} {o : Oper}

theorem Tm.ext {T : Nat → Prop} {bs bs' : List Bx} {φ φ' : List Value} {w w' : World} {a : Act} (h : Tm (okOf T bs φ) w φ ts a) (e : Ext bs φ w bs' φ' w') : Tm (okOf T bs' φ') w' φ' ts a :=
  ⟨h.1, h.2.1, fun i c hc => (h.2.2 i c hc).ext e⟩

theorem Ok.mono (h : Ok P m c Q ts bs) (hq : ∀ e ts' bs', Q e ts' bs' → Q' e ts' bs') : Ok P m c Q' ts bs :=
  fun T φ w a hs ht K hK => h T φ w a hs ht K fun e ts' bs' φ' a' w' q => hK e ts' bs' φ' a' w' (hq _ _ _ q)

theorem OpOk.mono (h : OpOk P o N ts bs) (hq : ∀ ts' bs', N ts' bs' → N' ts' bs') : OpOk P o N' ts bs :=
  fun T φ w a hs ht K Qx hK => h T φ w a hs ht K Qx fun ts' bs' φ' a' w' q => hK ts' bs' φ' a' w' (hq _ _ q)

theorem FnOk.mono {f : FuncId} {args : List V} {R R' : V → List Bx → Prop} (h : FnOk P f args bs R) (hq : ∀ r bs', R r bs' → R' r bs') : FnOk P f args bs R' :=
  fun T φ w vargs hs ha => (h T φ w vargs hs ha).mono fun _ _ ⟨v, r, bs', φ', he, q, rest⟩ => ⟨v, r, bs', φ', he, hq _ _ q, rest⟩

theorem Ok.skip (h : Q .normal ts bs) : Ok P m .skip Q ts bs := fun _ _ _ _ hs ht _ hK => wp_skip (hK _ _ _ _ _ _ h (ExtM.refl _ _ _ _) hs ht)
theorem Ok.ret (h : Q .ret ts bs) : Ok P m .ret Q ts bs := fun _ _ _ _ hs ht _ hK => wp_ret (hK _ _ _ _ _ _ h (ExtM.refl _ _ _ _) hs ht)
theorem Ok.exit {id : Nat} (h : Q (.exit id) ts bs) : Ok P m (.exit id) Q ts bs := fun _ _ _ _ hs ht _ hK => wp_exit (hK _ _ _ _ _ _ h (ExtM.refl _ _ _ _) hs ht)

/-- What follows in line. -/
def thn (next : List V → List Bx → Prop) (Q : Ex → List V → List Bx → Prop) : Ex → List V → List Bx → Prop
  | .normal, ts, bs => next ts bs
  | e, ts, bs => Q e ts bs

theorem Ok.seq (h : Ok P m x (thn (Ok P m y Q) Q) ts bs) : Ok P m (.seq x y) Q ts bs := by
  intro T φ w a hs ht K hK
  refine wp_seq (h T φ w a hs ht _ ?_)
  intro e ts' bs' φ' a' w' q he hs' ht'
  cases e with
  | normal => exact q T φ' w' a' hs' ht' K fun e2 ts2 bs2 φ2 a2 w2 q2 he2 => hK e2 ts2 bs2 φ2 a2 w2 q2 (he.trans he2)
  | exit id => exact hK _ _ _ _ _ _ q he hs' ht'
  | ret => exact hK _ _ _ _ _ _ q he hs' ht'

def blk (id : Nat) (Q : Ex → List V → List Bx → Prop) : Ex → List V → List Bx → Prop
  | .exit id', ts, bs => if id' = id then Q .normal ts bs else Q (.exit id') ts bs
  | e, ts, bs => Q e ts bs

theorem Ok.block {id : Nat} (h : Ok P m c (blk id Q) ts bs) : Ok P m (.block id c) Q ts bs := by
  intro T φ w a hs ht K hK
  refine wp_block (h T φ w a hs ht _ ?_)
  intro e ts' bs' φ' a' w' q he hs' ht'
  cases e with
  | normal => exact hK _ _ _ _ _ _ q he hs' ht'
  | ret => exact hK _ _ _ _ _ _ q he hs' ht'
  | exit id' =>
    by_cases hid : id' = id
    · simp only [blk, hid, if_true] at q
      simp only [Ex.out, Exit.inBlock, hid, if_true]
      exact hK .normal _ _ _ _ _ q he hs' ht'
    · simp only [blk, hid, if_false] at q
      simp only [Ex.out, Exit.inBlock, hid, if_false]
      exact hK (.exit id') _ _ _ _ _ q he hs' ht'

/-- A scope through which the run goes without a jump. -/
theorem Ok.scope (h : Ok P m c Q ts bs) : Ok P m (.scope c) Q ts bs := by
  intro T φ w a hs ht K hK
  refine wp_scope_straight (h T φ w a hs ht _ ?_)
  intro e ts' bs' φ' a' w' q he hs' ht'
  cases e with
  | normal => exact hK .normal _ _ _ _ _ q he hs' ht'
  | exit id => exact hK (.exit id) _ _ _ _ _ q he hs' ht'
  | ret => exact hK .ret _ _ _ _ _ q he hs' ht'
theorem Ok.label {l : Nat} (h : Q .normal ts bs) : Ok P m (.label l) Q ts bs := fun _ _ _ _ hs ht _ hK => wp_label (hK _ _ _ _ _ _ h (ExtM.refl _ _ _ _) hs ht)

/-- A loop: what holds at each round's head, with a number that goes down. -/
theorem Ok.loop (I : Nat → List V → List Bx → Prop) (n : Nat) (h0 : I n ts bs)
    (round : ∀ n ts bs, I n ts bs → Ok P m c (thn (fun ts' bs' => ∃ n', n' < n ∧ I n' ts' bs') Q) ts bs) : Ok P m (.loop c) Q ts bs := by
  intro T φ w a hs ht K hK
  refine wp_loop_ghost (fun n a' w' => ∃ ts' bs' φ', I n ts' bs' ∧ ExtM m bs φ w bs' φ' w' ∧ Sim T bs' φ' w' ∧ Tm (okOf T bs' φ') w' φ' ts' a') n ⟨ts, bs, φ, h0, ExtM.refl _ _ _ _, hs, ht⟩ ?_
  rintro n a1 w1 ⟨ts1, bs1, φ1, hI, he1, hs1, ht1⟩
  refine round n ts1 bs1 hI T φ1 w1 a1 hs1 ht1 _ ?_
  intro e ts' bs' φ' a' w' q he hs' ht'
  cases e with
  | normal =>
    obtain ⟨n', hlt, hI'⟩ := q
    exact ⟨n', hlt, ts', bs', φ', hI', he1.trans he, hs', ht'⟩
  | exit id => exact hK _ _ _ _ _ _ q (he1.trans he) hs' ht'
  | ret => exact hK _ _ _ _ _ _ q (he1.trans he) hs' ht'

/-- A constant. -/
def conV : Value → Option V
  | .slice none 0 0 => some .nils
  | v => if scalar v then some (.val v) else none

def evO (ts : List V) : Operand → Option V
  | .tmp t => ts[t]?
  | .const v => conV v
  | .global _ => none
  | .func f => some (.fn f [])

theorem conV_sound {ok : Nat → Prop} {w : World} {φ : List Value} {v : Value} {r : V} (h : conV v = some r) : RV ok w φ r v := by
  unfold conV at h
  split at h
  · obtain rfl := Option.some.inj h
    exact .nils
  · split at h
    · obtain rfl := Option.some.inj h
      exact .val _ ‹_›
    · cases h

theorem evO_sound {ok : Nat → Prop} {w : World} {φ : List Value} {a : Act} (ht : Tm ok w φ ts a) {o : Operand} {r : V} (h : evO ts o = some r) : RV ok w φ r (a.eval o) := by
  cases o with
  | tmp t => exact ht.2.2 t r h
  | const v => exact conV_sound h
  | global g => cases h
  | func f =>
    obtain rfl := Option.some.inj h
    exact .fn f [] #[] rfl (fun i c hc => by simp at hc)

theorem RV.bool_of {ok : Nat → Prop} {w : World} {φ : List Value} {u v : Value} (h : RV ok w φ (.val u) v) : v = u := by
  cases h
  rfl

theorem Ok.cond {p : Operand} {b : Bool} (hp : evO ts p = some (.val (.bool b))) (ht : b = true → Ok P m x Q ts bs) (hf : b = false → Ok P m y Q ts bs) : Ok P m (.cond p x y) Q ts bs := by
  intro T φ w a hs hm K hK
  have hv := RV.bool_of (evO_sound hm hp)
  exact wp_cond_split hv (fun e => ht e T φ w a hs hm K hK) (fun e => hf e T φ w a hs hm K hK)
end

end Go.Proofs.YtiefcnghjcafbaaDoorV
