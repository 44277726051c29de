/- The calculus of values, twenty-sixth text: operations whose outcome is told; a loop that is counted. -/
import Derived.Laws.RangeAny
import Derived.Test.YtbkjiglbkckhmaaV23
namespace Go.Proofs.YtbkjiglbkckhmaaV
open Go Go.RowKit

section
variable {L : Lay} {C : CallT} {ts : List V} {bs : List Bx} {t t' : TypeId} {x y : Operand} {k : IntKind} {a b n : Int} {v : Bool}
theorem lssK (h : decide (a < b) = v) (hx : evO ts x = some (.val (.int k a))) (hy : evO ts y = some (.val (.int k b))) : evX L C (.binOp .lss t x y t') ts bs = some (.val (.bool v), bs) := by
  simp only [evX, ev, hx, hy, evB, ne_eq, not_true_eq_false, if_false, h, Option.map_some]
theorem leqK (h : decide (a ≤ b) = v) (hx : evO ts x = some (.val (.int k a))) (hy : evO ts y = some (.val (.int k b))) : evX L C (.binOp .leq t x y t') ts bs = some (.val (.bool v), bs) := by
  simp only [evX, ev, hx, hy, evB, ne_eq, not_true_eq_false, if_false, h, Option.map_some]
theorem gtrK (h : decide (a > b) = v) (hx : evO ts x = some (.val (.int k a))) (hy : evO ts y = some (.val (.int k b))) : evX L C (.binOp .gtr t x y t') ts bs = some (.val (.bool v), bs) := by
  simp only [evX, ev, hx, hy, evB, ne_eq, not_true_eq_false, if_false, h, Option.map_some]
theorem geqK (h : decide (a ≥ b) = v) (hx : evO ts x = some (.val (.int k a))) (hy : evO ts y = some (.val (.int k b))) : evX L C (.binOp .geq t x y t') ts bs = some (.val (.bool v), bs) := by
  simp only [evX, ev, hx, hy, evB, ne_eq, not_true_eq_false, if_false, h, Option.map_some]
theorem eqlK (h : (a == b) = v) (hx : evO ts x = some (.val (.int k a))) (hy : evO ts y = some (.val (.int k b))) : evX L C (.binOp .eql t x y t') ts bs = some (.val (.bool v), bs) := by
  simp only [evX, ev, hx, hy, evB, ne_eq, not_true_eq_false, if_false, h, Option.map_some]
theorem neqK (h : (a != b) = v) (hx : evO ts x = some (.val (.int k a))) (hy : evO ts y = some (.val (.int k b))) : evX L C (.binOp .neq t x y t') ts bs = some (.val (.bool v), bs) := by
  simp only [evX, ev, hx, hy, evB, ne_eq, not_true_eq_false, if_false, h, Option.map_some]
theorem addK (h : k.wrap (a + b) = n) (hx : evO ts x = some (.val (.int k a))) (hy : evO ts y = some (.val (.int k b))) : evX L C (.binOp .add t x y t') ts bs = some (.val (.int k n), bs) := by
  simp only [evX, ev, hx, hy, evB, ne_eq, not_true_eq_false, if_false, h, Option.map_some]
theorem subK (h : k.wrap (a - b) = n) (hx : evO ts x = some (.val (.int k a))) (hy : evO ts y = some (.val (.int k b))) : evX L C (.binOp .sub t x y t') ts bs = some (.val (.int k n), bs) := by
  simp only [evX, ev, hx, hy, evB, ne_eq, not_true_eq_false, if_false, h, Option.map_some]
theorem mulK (h : k.wrap (a * b) = n) (hx : evO ts x = some (.val (.int k a))) (hy : evO ts y = some (.val (.int k b))) : evX L C (.binOp .mul t x y t') ts bs = some (.val (.int k n), bs) := by
  simp only [evX, ev, hx, hy, evB, ne_eq, not_true_eq_false, if_false, h, Option.map_some]
theorem eqlS {s s' : ByteArray} (h : decide (s = s') = v) (hx : evO ts x = some (.val (.string s))) (hy : evO ts y = some (.val (.string s'))) : evX L C (.binOp .eql t x y t') ts bs = some (.val (.bool v), bs) := by
  simp only [evX, ev, hx, hy, evB, h, Option.map_some]
theorem convK {s d : TypeId} {k' k0 : IntKind} (hs : L.int s = some k0) (hd : L.int d = some k) (h : k.wrap a = n) (hx : evO ts x = some (.val (.int k' a))) : evX L C (.convert s d x) ts bs = some (.val (.int k n), bs) := by
  simp only [evX, ev, hx, hs, hd, h]
theorem idxK {s : ByteArray} {c : UInt8} {z : Nat} (hx : evO ts x = some (.val (.string s))) (hy : evO ts y = some (.val (.int k (z : Int)))) (hst : L.str t = true) (hc : s[z]? = some c) : evX L C (.index t x y) ts bs = some (.val (.int .u8 c.toNat), bs) := by
  simp only [evX, ev, hx, hy, hst, Int.toNat_natCast, hc, Int.natCast_nonneg, and_self, if_true, Option.map_some]
theorem next_in {s : ByteArray} {p j : Nat} (hp : p < s.size) (hx : evO ts x = some (.ptr j 0)) (hb : bs[j]? = some (.iter s p)) : evX L C (.next x true) ts bs = some (.tup [.val (.bool true), .val (.int .i64 p), .val (.int .i32 (Utf8.decode s p).1)], bs.set j (.iter s (p + (Utf8.decode s p).2))) := by
  simp only [evX, ev, hx, hb, hp, if_true]
theorem next_out {s : ByteArray} {p j : Nat} (hp : ¬ p < s.size) (hx : evO ts x = some (.ptr j 0)) (hb : bs[j]? = some (.iter s p)) : evX L C (.next x true) ts bs = some (.tup [.val (.bool false)], bs) := by
  simp only [evX, ev, hx, hb, hp, if_false]
end

/-- What a round of a counted loop comes to. -/
def Turn (id N : Nat) (J : Nat → List V → List Bx → Prop) (Q : Ex → List V → List Bx → Prop) (k : Nat) : Ex → List V → List Bx → Prop
  | .normal, ts, bs => k < N ∧ J (k + 1) ts bs
  | e, ts, bs => blk id Q e ts bs

theorem Ok.count {P : Program} {m : Nat} {id : Nat} {body : Code} {Q : Ex → List V → List Bx → Prop} {ts : List V} {bs : List Bx} (N : Nat) (J : Nat → List V → List Bx → Prop) (hJ0 : J 0 ts bs)
    (hb : ∀ k ts bs, J k ts bs → Ok P m body (Turn id N J Q k) ts bs) : Ok P m (.block id (.loop body)) Q ts bs := by
  refine Ok.block (Ok.loop (fun n ts bs => ∃ k, n = N - k ∧ J k ts bs) N ⟨0, rfl, hJ0⟩ ?_)
  rintro n ts bs ⟨k, rfl, hJ⟩
  refine (hb k ts bs hJ).mono ?_
  intro e ts' bs' he
  cases e with
  | exit i => exact he
  | ret => exact he
  | normal => exact ⟨N - (k + 1), by have := he.1; omega, k + 1, rfl, he.2⟩

/-- Numbers that fit. -/
theorem wrap64 {z : Int} (h1 : -9223372036854775808 ≤ z) (h2 : z < 9223372036854775808) : IntKind.i64.wrap z = z := by
  unfold IntKind.wrap
  simp [IntKind.bits, IntKind.signed]
  omega
theorem wrap32 {z : Int} (h1 : -2147483648 ≤ z) (h2 : z < 2147483648) : IntKind.i32.wrap z = z := by
  unfold IntKind.wrap
  simp [IntKind.bits, IntKind.signed]
  omega
theorem wrap8 {z : Int} (h1 : 0 ≤ z) (h2 : z < 256) : IntKind.u8.wrap z = z := by
  unfold IntKind.wrap
  simp [IntKind.bits, IntKind.signed]
  omega

end Go.Proofs.YtbkjiglbkckhmaaV
