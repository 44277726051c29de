/- The calculus of values, twenty-third text: operations with plain forms in between; calls that are known by a relation. -/
import Derived.Test.YtiefcnghjcafbaaDoorV22
namespace Go.Proofs.YtiefcnghjcafbaaDoorV
open Go Go.RowKit

section
variable {L : Lay} {C : CallT} {ops : Array Oper} {N : List V → List Bx → Prop} {o : Oper} {r : List Oper} {ts ts' : List V} {bs : List Bx}
theorem wstepN {v : V} {bs1 : List Bx} (h1 : wantV ops o ts = some true) (h2 : evX L C o.op ts bs = some (v, bs1)) (h3 : putV o.dst v ts = ts') (h : Wp L C ops N r ts' bs1) : Wp L C ops N (o :: r) ts bs := wstep h1 h2 (by rw [h3]; exact h)
theorem eq_int {op : BinOp} {t t' : TypeId} {x y : Operand} {b : Int} (ho : op = .eql) (hx : evO ts x = some (.val (.int .i64 b))) (hy : evO ts y = some (.val (.int .i64 b))) : evX L C (.binOp op t x y t') ts bs = some (.val (.bool true), bs) := by
  subst ho
  simp [evX, ev, hx, hy, evB]
theorem eq_str {op : BinOp} {t t' : TypeId} {x y : Operand} {b : ByteArray} (ho : op = .eql) (hx : evO ts x = some (.val (.string b))) (hy : evO ts y = some (.val (.string b))) : evX L C (.binOp op t x y t') ts bs = some (.val (.bool true), bs) := by
  subst ho
  simp [evX, ev, hx, hy, evB]
end
section
variable {L : Lay} {C : CallT} {ops : Array Oper} {N : List V → List Bx → Prop} {o : Oper} {r : List Oper} {ts ts' : List V} {bs : List Bx}
theorem wskipN (h1 : wantV ops o ts = some false) (h3 : putV o.dst (.tup []) ts = ts') (h : Wp L C ops N r ts' bs) : Wp L C ops N (o :: r) ts bs := wskip h1 (by rw [h3]; exact h)
theorem leq_is {op : BinOp} {t t' : TypeId} {x y : Operand} {a b : Int} {v : Bool} (hab : decide (a ≤ b) = v) (ho : op = .leq) (hx : evO ts x = some (.val (.int .i64 a))) (hy : evO ts y = some (.val (.int .i64 b))) : evX L C (.binOp op t x y t') ts bs = some (.val (.bool v), bs) := by
  subst ho
  simp [evX, ev, hx, hy, evB, hab]
end

open Classical in
/-- Calls that are known, by a relation. -/
noncomputable def TabP (R : FuncId → List V → V → Prop) : CallT := fun f vs bs => if h : ∃ v, R f vs v then some (h.choose, bs) else none
theorem TabP_hit {R : FuncId → List V → V → Prop} {f : FuncId} {vs : List V} {v : V} {bs : List Bx} (hf : ∀ v', R f vs v' → v' = v) (h : R f vs v) : TabP R f vs bs = some (v, bs) := by
  unfold TabP
  rw [dif_pos ⟨v, h⟩, hf _ (Exists.choose_spec (⟨v, h⟩ : ∃ v, R f vs v))]
theorem TabP_good {P : Program} {R : FuncId → List V → V → Prop} (h : ∀ f vs v, R f vs v → FnOk P f vs [] (fun x bs' => fr bs' x = v) ∧ vs.all clean = true ∧ clean v = true ∧ Enters P f) : Good P (TabP R) := by
  intro f vs bs v bs' hc
  unfold TabP at hc
  split at hc
  · rename_i hx
    cases hc
    obtain ⟨h1, h2, h3, h4⟩ := h f vs _ hx.choose_spec
    exact .inl ⟨(fact h1 h2 h3 h4).1 bs, h4⟩
  · cases hc
theorem TabP_calm {R : FuncId → List V → V → Prop} {G : FuncId → Bool} : Calm G (TabP R) := by
  intro f vs _
  unfold TabP
  split
  · exact .inr ⟨_, fun _ => rfl⟩
  · exact .inl fun _ => rfl


end Go.Proofs.YtiefcnghjcafbaaDoorV
