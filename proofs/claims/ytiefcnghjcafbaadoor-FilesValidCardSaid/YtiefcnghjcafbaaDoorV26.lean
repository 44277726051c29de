/- The calculus of values, twenty-sixth text: operations whose outcome is told; a loop that is counted. -/
import Derived.Laws.RangeAny
import Derived.Test.YtiefcnghjcafbaaDoorV23
namespace Go.Proofs.YtiefcnghjcafbaaDoorV
open Go Go.RowKit

section
variable {L : Lay} {C : CallT} {ts : List V} {bs : List Bx} {t t' : TypeId} {x y : Operand} {k : IntKind} {a b n : Int} {v : Bool}
theorem lssK (h : decide (a < b) = v) (hx : evO ts x = some (.val (.int k a))) (hy : evO ts y = some (.val (.int k b))) : evX L C (.binOp .lss t x y t') ts bs = some (.val (.bool v), bs) := by
  simp only [evX, ev, hx, hy, evB, ne_eq, not_true_eq_false, if_false, h, Option.map_some]
theorem leqK (h : decide (a ≤ b) = v) (hx : evO ts x = some (.val (.int k a))) (hy : evO ts y = some (.val (.int k b))) : evX L C (.binOp .leq t x y t') ts bs = some (.val (.bool v), bs) := by
  simp only [evX, ev, hx, hy, evB, ne_eq, not_true_eq_false, if_false, h, Option.map_some]
theorem gtrK (h : decide (a > b) = v) (hx : evO ts x = some (.val (.int k a))) (hy : evO ts y = some (.val (.int k b))) : evX L C (.binOp .gtr t x y t') ts bs = some (.val (.bool v), bs) := by
  simp only [evX, ev, hx, hy, evB, ne_eq, not_true_eq_false, if_false, h, Option.map_some]
theorem geqK (h : decide (a ≥ b) = v) (hx : evO ts x = some (.val (.int k a))) (hy : evO ts y = some (.val (.int k b))) : evX L C (.binOp .geq t x y t') ts bs = some (.val (.bool v), bs) := by
  simp only [evX, ev, hx, hy, evB, ne_eq, not_true_eq_false, if_false, h, Option.map_some]
theorem eqlK (h : (a == b) = v) (hx : evO ts x = some (.val (.int k a))) (hy : evO ts y = some (.val (.int k b))) : evX L C (.binOp .eql t x y t') ts bs = some (.val (.bool v), bs) := by
  simp only [evX, ev, hx, hy, evB, ne_eq, not_true_eq_false, if_false, h, Option.map_some]
theorem neqK (h : (a != b) = v) (hx : evO ts x = some (.val (.int k a))) (hy : evO ts y = some (.val (.int k b))) : evX L C (.binOp .neq t x y t') ts bs = some (.val (.bool v), bs) := by
  simp only [evX, ev, hx, hy, evB, ne_eq, not_true_eq_false, if_false, h, Option.map_some]
theorem addK (h : k.wrap (a + b) = n) (hx : evO ts x = some (.val (.int k a))) (hy : evO ts y = some (.val (.int k b))) : evX L C (.binOp .add t x y t') ts bs = some (.val (.int k n), bs) := by
  simp only [evX, ev, hx, hy, evB, ne_eq, not_true_eq_false, if_false, h, Option.map_some]
theorem subK (h : k.wrap (a - b) = n) (hx : evO ts x = some (.val (.int k a))) (hy : evO ts y = some (.val (.int k b))) : evX L C (.binOp .sub t x y t') ts bs = some (.val (.int k n), bs) := by
  simp only [evX, ev, hx, hy, evB, ne_eq, not_true_eq_false, if_false, h, Option.map_some]
theorem mulK (h : k.wrap (a * b) = n) (hx : evO ts x = some (.val (.int k a))) (hy : evO ts y = some (.val (.int k b))) : evX L C (.binOp .mul t x y t') ts bs = some (.val (.int k n), bs) := by
  simp only [evX, ev, hx, hy, evB, ne_eq, not_true_eq_false, if_false, h, Option.map_some]
theorem eqlS {s s' : ByteArray} (h : decide (s = s') = v) (hx : evO ts x = some (.val (.string s))) (hy : evO ts y = some (.val (.string s'))) : evX L C (.binOp .eql t x y t') ts bs = some (.val (.bool v), bs) := by
  simp only [evX, ev, hx, hy, evB, h, Option.map_some]
theorem convK {s d : TypeId} {k' k0 : IntKind} (hs : L.int s = some k0) (hd : L.int d = some k) (h : k.wrap a = n) (hx : evO ts x = some (.val (.int k' a))) : evX L C (.convert s d x) ts bs = some (.val (.int k n), bs) := by
  simp only [evX, ev, hx, hs, hd, h]
theorem idxK {s : ByteArray} {c : UInt8} {z : Nat} (hx : evO ts x = some (.val (.string s))) (hy : evO ts y = some (.val (.int k (z : Int)))) (hst : L.str t = true) (hc : s[z]? = some c) : evX L C (.index t x y) ts bs = some (.val (.int .u8 c.toNat), bs) := by
  simp only [evX, ev, hx, hy, hst, Int.toNat_natCast, hc, Int.natCast_nonneg, and_self, if_true, Option.map_some]
theorem next_in {s : ByteArray} {p j : Nat} (hp : p < s.size) (hx : evO ts x = some (.ptr j 0)) (hb : bs[j]? = some (.iter s p)) : evX L C (.next x true) ts bs = some (.tup [.val (.bool true), .val (.int .i64 p), .val (.int .i32 (Utf8.decode s p).1)], bs.set j (.iter s (p + (Utf8.decode s p).2))) := by
  simp only [evX, ev, hx, hb, hp, if_true]
theorem next_out {s : ByteArray} {p j : Nat} (hp : ¬ p < s.size) (hx : evO ts x = some (.ptr j 0)) (hb : bs[j]? = some (.iter s p)) : evX L C (.next x true) ts bs = some (.tup [.val (.bool false)], bs) := by
  simp only [evX, ev, hx, hb, hp, if_false]
end

section
variable {L : Lay} {C : CallT} {ts : List V} {bs : List Bx} {t : TypeId} {x y : Operand}
theorem ev_appE {e sz sz1 sz2 k k2 : Nat} {e1 e2 : TypeId} {xs : List (List S)} (hs0 : evO ts x = some (.row k)) (hx0 : evO ts y = some (.row k2)) (hs : L.sl t = some (e, sz)) (h2 : bs[k2]? = some (.row e2 sz2 [])) (h1 : bs[k]? = some (.row e1 sz1 xs)) :
    evX L C (.call { callee := .builtin .append, args := #[x, y], argTypes := #[t, t] }) ts bs = some (.row k, bs) := by
  simp only [evX, evCall, hs0, hx0, if_true, h2, evAppS, hs, h1]
theorem ev_ixR {k2 n z : Nat} {e q : TypeId} {k : IntKind} {xs : List (List S)} (hx : evO ts x = some (.row k2)) (hi : evO ts y = some (.val (.int k (z : Int)))) (hl : L.sl t = some (q, n)) (hb : bs[k2]? = some (.row e n xs)) (hz : z < xs.length) :
    evX L C (.indexAddr t x y) ts bs = some (.rptr k2 n z 0, bs) := by
  simp only [evX, ev, hx, hi, hl, Int.natCast_nonneg, if_true, Int.toNat_natCast, idxP, hb, hz, and_self, Option.map_some]
theorem ev_ldR {k n sz i j : Nat} {b : Bool} {e : TypeId} {xs : List (List S)} {r : List S} {cs : List V} {v : V} (ha : evO ts x = some (.rptr k sz i j)) (hc : L.cel t = some (n, b)) (hb : bs[k]? = some (.row e sz xs)) (hx : xs[i]? = some r) (hn : j + n ≤ r.length) (hr : ((r.drop j).take n).map S.up = cs) (hv : (if b then some (.agg cs) else cs[0]?) = some v) :
    evX L C (.load t x) ts bs = some (v, bs) := by
  simp only [evX, ev, ha, hc, rd, hb, hx, hn, and_self, if_true, hr, hv, Option.map_some]
theorem ev_stR {k n sz i j : Nat} {b : Bool} {e : TypeId} {xs : List (List S)} {r : List S} {cs : List V} {ss : List S} {v : V} (ha : evO ts x = some (.rptr k sz i j)) (hy : evO ts y = some v) (hc : L.cel t = some (n, b)) (hcs : v.cs = some cs) (hb : bs[k]? = some (.row e sz xs)) (hs : downs cs = some ss) (hx : xs[i]? = some r) (hl : cs.length = n) (hn : j + n ≤ r.length) :
    evX L C (.store t x y) ts bs = some (.tup [], bs.set k (.row e sz (xs.set i (spl r j ss)))) := by
  simp only [evX, ev, ha, hy, hc, hcs, hb, hs, hx, hl, hn, and_self, if_true]
end

/-- What a round of a counted loop comes to. -/
def Turn (id N : Nat) (J : Nat → List V → List Bx → Prop) (Q : Ex → List V → List Bx → Prop) (k : Nat) : Ex → List V → List Bx → Prop
  | .normal, ts, bs => k < N ∧ J (k + 1) ts bs
  | e, ts, bs => blk id Q e ts bs

theorem Ok.count {P : Program} {m : Nat} {id : Nat} {body : Code} {Q : Ex → List V → List Bx → Prop} {ts : List V} {bs : List Bx} (N : Nat) (J : Nat → List V → List Bx → Prop) (hJ0 : J 0 ts bs)
    (hb : ∀ k ts bs, J k ts bs → Ok P m body (Turn id N J Q k) ts bs) : Ok P m (.block id (.loop body)) Q ts bs := by
  refine Ok.block (Ok.loop (fun n ts bs => ∃ k, n = N - k ∧ J k ts bs) N ⟨0, rfl, hJ0⟩ ?_)
  rintro n ts bs ⟨k, rfl, hJ⟩
  refine (hb k ts bs hJ).mono ?_
  intro e ts' bs' he
  cases e with
  | exit i => exact he
  | ret => exact he
  | normal => exact ⟨N - (k + 1), by have := he.1; omega, k + 1, rfl, he.2⟩

/-- Numbers that fit. -/
theorem wrap64 {z : Int} (h1 : -9223372036854775808 ≤ z) (h2 : z < 9223372036854775808) : IntKind.i64.wrap z = z := by
  unfold IntKind.wrap
  simp [IntKind.bits, IntKind.signed]
  omega
theorem wrap32 {z : Int} (h1 : -2147483648 ≤ z) (h2 : z < 2147483648) : IntKind.i32.wrap z = z := by
  unfold IntKind.wrap
  simp [IntKind.bits, IntKind.signed]
  omega
theorem wrap8 {z : Int} (h1 : 0 ≤ z) (h2 : z < 256) : IntKind.u8.wrap z = z := by
  unfold IntKind.wrap
  simp [IntKind.bits, IntKind.signed]
  omega

open Classical in
/-- Calls that are known by a relation that tells the boxes too. -/
noncomputable def TabB (R : FuncId → List V → List Bx → V → List Bx → Prop) : CallT := fun f vs bs => if h : ∃ p : V × List Bx, R f vs bs p.1 p.2 then some h.choose else none
theorem TabB_hit {R : FuncId → List V → List Bx → V → List Bx → Prop} {f : FuncId} {vs : List V} {bs bs' : List Bx} {v : V} (hf : ∀ v' b', R f vs bs v' b' → v' = v ∧ b' = bs') (h : R f vs bs v bs') : TabB R f vs bs = some (v, bs') := by
  unfold TabB
  have hx : ∃ p : V × List Bx, R f vs bs p.1 p.2 := ⟨(v, bs'), h⟩
  rw [dif_pos hx]
  obtain ⟨h1, h2⟩ := hf _ _ hx.choose_spec
  exact congrArg some (Prod.ext h1 h2)
theorem TabB_good {P : Program} {R : FuncId → List V → List Bx → V → List Bx → Prop} (h : ∀ f vs bs v bs', R f vs bs v bs' → FnOk P f vs bs (fun r b => r = v ∧ b = bs') ∧ Enters P f) : Good P (TabB R) := by
  intro f vs bs v bs' hc
  unfold TabB at hc
  split at hc
  · rename_i hx
    have h1 := h _ _ _ _ _ hx.choose_spec
    obtain he := Option.some.inj hc
    rw [he] at h1
    exact .inl h1
  · cases hc

end Go.Proofs.YtiefcnghjcafbaaDoorV
