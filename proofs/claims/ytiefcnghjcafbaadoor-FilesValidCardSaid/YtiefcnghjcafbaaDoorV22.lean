/- The calculus of values, twenty-second text: a loop that counts through a slice. -/
import Derived.Test.YtiefcnghjcafbaaDoorV21
namespace Go.Proofs.YtiefcnghjcafbaaDoorV
open Go Go.RowKit

/-- What a round of a counting loop comes to. -/
def Round (id ti tj N : Nat) (J : Nat → List V → List Bx → Prop) (Q : Ex → List V → List Bx → Prop) (k : Nat) : Ex → List V → List Bx → Prop
  | .normal, ts, bs => ts[ti]? = some (.val (.int .i64 (k : Int))) ∧ tj < ts.length ∧ J (k + 1) ((ts.set tj (.val (.int .i64 ((k + 1 : Nat) : Int)))).set ti (.val (.int .i64 ((k + 1 : Nat) : Int)))) bs
  | e, ts, bs => blk id Q e ts bs

theorem Ok.range {P : Program} {m : Nat} {L : Lay} (hL : LayOk P L) {id r1 r2 ti tn tc tj : Nat} {t t1 t2 t3 : TypeId} {o1 o2 o3 : Oper} {body : Code} {Q : Ex → List V → List Bx → Prop} {ts : List V} {bs : List Bx} (N : Nat) (J : Nat → List V → List Bx → Prop)
    (h1 : o1.dst = some tc) (g1 : o1.guard = none) (p1 : o1.op = .binOp .lss t (.tmp ti) (.tmp tn) t1) (h2 : o2.dst = some tj) (g2 : o2.guard = none) (p2 : o2.op = .binOp .add t2 (.tmp ti) (.const (.int .i64 1)) t3) (h3 : o3.dst = some ti) (g3 : o3.guard = none) (p3 : o3.op = .move (.tmp tj))
    (hN : N < 9223372036854775807) (hJ0 : J 0 ts bs)
    (hi : ∀ k ts bs, J k ts bs → ts[ti]? = some (.val (.int .i64 (k : Int))) ∧ ts[tn]? = some (.val (.int .i64 (N : Int))) ∧ tc < ts.length ∧ k ≤ N)
    (hb : ∀ k ts bs, k < N → J k ts bs → Ok P m body (Round id ti tj N J Q k) (ts.set tc (.val (.bool true))) bs)
    (hd : ∀ ts bs, J N ts bs → Q .normal (ts.set tc (.val (.bool false))) bs) :
    Ok P m (.block id (.loop (.seq (.region r1 #[o1] false) (.seq (.cond (.tmp tc) .skip (.exit id)) (.seq body (.region r2 #[o2, o3] false)))))) Q ts bs := by
  refine Ok.block (Ok.loop (fun n ts bs => ∃ k, n = N - k ∧ J k ts bs) N ⟨0, rfl, hJ0⟩ ?_)
  rintro n ts bs ⟨k, rfl, hJ⟩
  obtain ⟨q1, q2, q3, q4⟩ := hi k ts bs hJ
  refine Ok.seq (Ok.region (l := [o1]) ⟨true, by unfold wantV; rw [g1], fun _ => (op_bin hL p1 q1 q2 (v := .bool (decide ((k : Int) < N))) rfl).mono ?_, fun h => (by cases h)⟩)
  rintro _ _ ⟨rfl, rfl⟩
  rw [h1]
  show Ok P m _ _ (ts.set tc _) _
  refine Ok.seq (Ok.cond (p := .tmp tc) (b := decide ((k : Int) < N)) (by show (ts.set tc _)[tc]? = _; rw [List.getElem?_set_self q3]) (fun hlt => Ok.skip ?_) (fun hge => Ok.exit ?_))
  · have hlt' : k < N := by simpa using hlt
    rw [hlt]
    refine Ok.seq ((hb k ts _ hlt' hJ).mono ?_)
    intro e ts' bs' he
    cases e with
    | exit i => exact he
    | ret => exact he
    | normal =>
      obtain ⟨e1, e2, e3⟩ := he
      refine Ok.region (l := [o2, o3]) ⟨true, by unfold wantV; rw [g2], fun _ => (op_bin hL p2 e1 rfl (v := .int .i64 (IntKind.i64.wrap ((k : Int) + 1))) rfl).mono ?_, fun h => (by cases h)⟩
      rintro _ _ ⟨rfl, rfl⟩
      rw [h2, wrap_nat (by omega)]
      refine ⟨true, by unfold wantV; rw [g3], fun _ => (op_move (x := .val (.int .i64 ((k + 1 : Nat) : Int))) (.inl p3) (by show (ts'.set tj _)[tj]? = _; rw [List.getElem?_set_self e2])).mono ?_, fun h => (by cases h)⟩
      rintro _ _ ⟨rfl, rfl⟩
      rw [h3]
      exact ⟨N - (k + 1), by omega, k + 1, rfl, e3⟩
  · have hge' : k = N := by
      have : ¬ ((k : Int) < N) := by simpa using hge
      omega
    subst hge'
    rw [hge]
    show (if id = id then Q .normal _ _ else _)
    rw [if_pos rfl]
    exact hd ts _ hJ

end Go.Proofs.YtiefcnghjcafbaaDoorV
