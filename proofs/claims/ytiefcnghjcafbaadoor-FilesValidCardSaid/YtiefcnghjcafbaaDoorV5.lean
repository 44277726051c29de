/- The calculus of values, fifth text: reading and writing through pointers. -/
import Derived.Test.YtiefcnghjcafbaaDoorV4
namespace Go.Proofs.YtiefcnghjcafbaaDoorV
open Go Go.RowKit

theorem S.up_cs (x : S) : x.up.cs = some [x.up] := by cases x <;> rfl
theorem S.up_atomic (x : S) : x.up.atomic = true := by cases x <;> rfl
theorem RS.up {ok : Nat → Prop} {w : World} {φ : List Value} {x : S} {v : Value} (h : RS ok w x v) : RV ok w φ x.up v := by
  cases x with
  | val u => cases h; exact .val _ ‹_›
  | sl xs => exact .sl xs v h

theorem add_add (a : Addr) (i j : Nat) : (a.add i).add j = a.add (i + j) := by
  unfold Addr.add
  split <;> split <;> split <;> simp_all <;> omega
theorem add_plain (g j : Nat) (i : Nat) : (⟨g, j, none⟩ : Addr).add i = ⟨g, j + i, none⟩ := by unfold Addr.add; split <;> simp_all

theorem cell_of {w : World} {g : Nat} {arr : Array Value} {t : TypeId} {fr : Nat × Nat} (h : w.heap[g]? = some (.cells arr t fr)) (j : Nat) : w.cell? ⟨g, j, none⟩ = arr[j]? := by
  simp [World.cell?, h]

/-- n cells read through a pointer. -/
def rd (bs : List Bx) : V → Nat → Option (List V)
  | .ptr k off, n => match bs[k]? with
    | some (.cells cs) => if off + n ≤ cs.length then some ((cs.drop off).take n) else none
    | _ => none
  | .rptr k sz i j, n => match bs[k]? with
    | some (.row _ sz' xs) => match xs[i]? with
      | some x => if sz = sz' ∧ j + n ≤ x.length then some (((x.drop j).take n).map S.up) else none
      | none => none
    | _ => none
  | .eptr cs, n => if n ≤ cs.length then some ((cs.take n).map S.up) else none
  | _, _ => none

theorem own_cell {w : World} {e sz n : Nat} {v : Value} {vals : List Value} (h : w.ownsRow 0 e sz v n vals) {g m c : Nat} (hv : v = .slice (some ⟨g, 0, none⟩) m c) {j : Nat} (hj : j < n * sz) : w.cell? ⟨g, j, none⟩ = some (vals.getD j Go.undef) := by
  rcases h.2 with ⟨rfl, _⟩ | ⟨g', cap, cur, rfl, _, hh, hn, _, hs, ht⟩
  · cases hv
  · simp only [Value.slice.injEq, Option.some.injEq, Addr.mk.injEq] at hv
    obtain ⟨⟨rfl, _⟩, _⟩ := hv
    rw [cell_of hh, ← ht]
    have h1 : n * sz ≤ cur.size := by rw [hs]; exact Nat.mul_le_mul_right _ hn
    simp [List.getD_eq_getElem?_getD, hj, show j < cur.size by omega]

theorem rd_sound {T : Nat → Prop} {bs : List Bx} {φ : List Value} {w : World} (hs : Sim T bs φ w) {p : V} {n : Nat} {cs : List V} {v : Value} (hp : RV (okOf T bs φ) w φ p v) (h : rd bs p n = some cs) :
    cs.length = n ∧ ∃ a : Addr, v = .pointer (some a) ∧ ∃ f : Nat → Value, ∀ (j : Nat) c, cs[j]? = some c → c.atomic = true ∧ w.cell? (a.add j) = some (f j) ∧ RV (okOf T bs φ) w φ c (f j) := by
  cases hp with
  | ptr k off g hg =>
    simp only [rd] at h
    cases hb : bs[k]? with
    | none => rw [hb] at h; cases h
    | some b =>
      rw [hb] at h
      cases b with
      | dead => cases h
      | row e sz xs => cases h
      | iter s p => cases h
      | cells l =>
        simp only at h
        split at h
        · rename_i hl
          obtain rfl := Option.some.inj h
          obtain ⟨v', hv', g', arr, t, rfl, hh, hsz, hc⟩ := hs.box k _ hb
          obtain rfl : g = g' := by
            have := hg.symm.trans hv'
            simpa using this
          refine ⟨by simp; omega, _, rfl, fun j => arr.getD (off + j) Go.undef, fun j c hj => ?_⟩
          have hjn : j < n := by
            have := (List.getElem?_eq_some_iff.1 hj).1
            simp at this
            omega
          have hj2 : l[off + j]? = some c := by
            rw [List.getElem?_take_of_lt hjn, List.getElem?_drop] at hj
            exact hj
          obtain ⟨h1, h2⟩ := hc _ c hj2
          refine ⟨h1, ?_, h2⟩
          rw [add_plain, cell_of hh]
          have : off + j < arr.size := by rw [hsz]; omega
          simp [Array.getD, this]
        · cases h
  | rptr k sz i j g m c hg =>
    simp only [rd] at h
    cases hb : bs[k]? with
    | none => rw [hb] at h; cases h
    | some b =>
      rw [hb] at h
      cases b with
      | dead => cases h
      | cells l => cases h
      | iter s p => cases h
      | row e sz' xs =>
        simp only at h
        cases hx : xs[i]? with
        | none => rw [hx] at h; cases h
        | some x =>
          rw [hx] at h
          simp only at h
          split at h
          · rename_i hl
            obtain ⟨rfl, hl⟩ := hl
            obtain rfl := Option.some.inj h
            obtain ⟨v', hv', hlen, vals, ho, hc⟩ := hs.box k _ hb
            obtain rfl : v' = _ := Option.some.inj (hv'.symm.trans hg)
            have hxl := hlen x (List.mem_of_getElem? hx)
            have hi : i < xs.length := (List.getElem?_eq_some_iff.1 hx).1
            refine ⟨by simp; omega, _, rfl, fun q => vals.getD (i * sz + j + q) Go.undef, fun q c' hq => ?_⟩
            have hqn : q < n := by
              have := (List.getElem?_eq_some_iff.1 hq).1
              simp at this
              omega
            rw [List.getElem?_map, List.getElem?_take_of_lt hqn, List.getElem?_drop] at hq
            obtain ⟨y, hy, rfl⟩ := Option.map_eq_some_iff.1 hq
            have hr := hc i x (j + q) y hx hy
            rw [← Nat.add_assoc] at hr
            refine ⟨S.up_atomic y, ?_, hr.up⟩
            rw [add_plain]
            refine own_cell ho rfl ?_
            have h1 : (i + 1) * sz ≤ xs.length * sz := Nat.mul_le_mul_right _ hi
            rw [Nat.add_mul] at h1
            omega
          · cases h
  | eptr l a hok hlt f hcell hr =>
    simp only [rd] at h
    split at h
    · rename_i hl
      obtain rfl := Option.some.inj h
      refine ⟨by simp; omega, a, rfl, f, fun j c hj => ?_⟩
      have hjn : j < n := by
        have := (List.getElem?_eq_some_iff.1 hj).1
        simp at this
        omega
      rw [List.getElem?_map, List.getElem?_take_of_lt hjn] at hj
      obtain ⟨y, hy, rfl⟩ := Option.map_eq_some_iff.1 hj
      exact ⟨S.up_atomic y, hcell j y hy, (hr j y hy).up⟩
    · cases h
  | val => cases h
  | nils => cases h
  | sl => cases h
  | row => cases h
  | win => cases h
  | fn => cases h
  | agg => cases h
  | tup => cases h
  | gone => cases h

section
variable {P : Program} {L : Lay} {ts : List V} {bs : List Bx} {o : Oper}

theorem run_cel (hL : LayOk P L) {t n : Nat} {b : Bool} (h : L.cel t = some (n, b)) (w : World) : (isAgg t).run P w = .ok b w ∧ (sizeOf t).run P w = .ok n w := by
  obtain ⟨d, hu, hd, hi, _⟩ := hL.cel t n b h
  constructor
  · subst hd
    cases d <;> simp [isAgg, run_underlying hu]
  · cases hq : P.info? t with
    | none => rw [hq] at hi; cases hi
    | some i =>
      rw [hq] at hi
      simp only [Option.map_some, Option.some.injEq] at hi
      simp [sizeOf, typeInfo, hq, hi]

/-- A variable is read. -/
theorem op_load (hL : LayOk P L) {t : TypeId} {a0 : Operand} {p x : V} {n : Nat} {b : Bool} {cs : List V} (ho : o.op = .load t a0) (hp : evO ts a0 = some p) (hc : L.cel t = some (n, b)) (hr : rd bs p n = some cs)
    (hx : (if b then some (.agg cs) else cs[0]?) = some x) : OpOk P o (fun ts' bs' => ts' = putV o.dst x ts ∧ bs' = bs) ts bs := by
  refine OpOk.value fun T φ w a hs ht => ?_
  obtain ⟨hl, ad, hv, f, hf⟩ := rd_sound hs (evO_sound ht hp) hr
  obtain ⟨h1, h2⟩ := run_cel hL hc w
  cases b with
  | false =>
    have hn : n = 1 := (hL.cel t n false hc).elim fun d h => h.2.2.2 rfl
    subst hn
    have hx' : cs[0]? = some x := hx
    obtain ⟨_, k1, k2⟩ := hf 0 x hx'
    refine ⟨f 0, ?_, k2⟩
    have k3 : w.cell? ad = some (f 0) := by simpa [Addr.add] using k1
    simp [execOp, ho, hv, Instr.loadAt, Instr.sureAddr, loadVar, h1, k3, Result.andThen]
  | true =>
    obtain rfl : V.agg cs = x := by simpa using hx
    have hlc : (loadCells ad n).run P w = .ok ((List.range n).map f).toArray w := run_loadCells w ad n f fun j hj => by
      obtain ⟨_, k1, _⟩ := hf j _ (List.getElem?_eq_getElem (by omega))
      exact k1
    refine ⟨.agg ((List.range n).map f).toArray, ?_, .agg cs _ (by simp [hl]) (fun c hc => ?_) (fun i c hi => ?_)⟩
    · simp [execOp, ho, hv, Instr.loadAt, Instr.sureAddr, loadVar, h1, h2, hlc, Result.andThen]
    · obtain ⟨j, hj⟩ := List.mem_iff_getElem?.1 hc
      exact (hf j c hj).1
    · have hin : i < n := by rw [← hl]; exact (List.getElem?_eq_some_iff.1 hi).1
      have := (hf i c hi).2.2
      simpa [Array.getD, hin] using this
end

end Go.Proofs.YtiefcnghjcafbaaDoorV
