/- The calculus of values, fourth text: variables in memory and slices of the call's own: made, read, written. -/
import Derived.Test.YtiefcnghjcafbaaDoorV3
namespace Go.Proofs.YtiefcnghjcafbaaDoorV
open Go Go.RowKit

/-- A value's cells. -/
def V.cs : V → Option (List V)
  | .agg cs => some cs
  | .tup _ | .gone => none
  | v => some [v]

theorem RV.atom {ok : Nat → Prop} {w : World} {φ : List Value} {x : V} {v : Value} (h : RV ok w φ x v) (ha : x.atomic = true) : v.oneCell' = true ∧ v.cells = #[v] := by
  cases h with
  | val v h => exact ⟨scalar_one h, by cases v <;> simp_all [scalar, Value.cells]⟩
  | nils => exact ⟨rfl, rfl⟩
  | sl xs v h => cases h <;> exact ⟨rfl, rfl⟩
  | eptr => exact ⟨rfl, rfl⟩
  | row => exact ⟨rfl, rfl⟩
  | ptr => exact ⟨rfl, rfl⟩
  | rptr => exact ⟨rfl, rfl⟩
  | win => exact ⟨rfl, rfl⟩
  | fn => exact ⟨rfl, rfl⟩
  | agg => cases ha
  | tup => cases ha
  | gone => cases ha

/-- A list of cells beside their places. -/
def RCs (ok : Nat → Prop) (w : World) (φ : List Value) (cs : List V) (arr : Array Value) : Prop :=
  arr.size = cs.length ∧ ∀ (j : Nat) c, cs[j]? = some c → c.atomic = true ∧ RV ok w φ c (arr.getD j Go.undef)

theorem RV.cells {ok : Nat → Prop} {w : World} {φ : List Value} {x : V} {v : Value} {cs : List V} (h : RV ok w φ x v) (hc : x.cs = some cs) : RCs ok w φ cs v.cells := by
  by_cases ha : x.atomic = true
  · have hx : cs = [x] := by
      cases x <;> simp_all [V.cs, V.atomic]
    subst hx
    obtain ⟨_, h2⟩ := h.atom ha
    rw [h2]
    refine ⟨rfl, fun j c hj => ?_⟩
    have hj0 : j = 0 := by
      have := (List.getElem?_eq_some_iff.1 hj).1
      simpa using this
    subst hj0
    obtain rfl : x = c := by simpa using hj
    exact ⟨ha, h⟩
  · cases x with
    | agg l =>
      obtain rfl : l = cs := Option.some.inj hc
      cases h with
      | agg cs arr hl hat hr => exact ⟨hl.symm, fun j c hj => ⟨hat c (List.mem_of_getElem? hj), hr j c hj⟩⟩
    | tup l => cases hc
    | gone => cases hc
    | _ => exact absurd rfl ha

theorem conV_atomic {u : Value} {c : V} (h : conV u = some c) : c.atomic = true := by
  unfold conV at h
  split at h
  · obtain rfl := Option.some.inj h; rfl
  · split at h
    · obtain rfl := Option.some.inj h; rfl
    · cases h

theorem RCs.one {ok : Nat → Prop} {w : World} {φ : List Value} {cs : List V} {arr : Array Value} (h : RCs ok w φ cs arr) : ∀ v ∈ arr.toList, v.oneCell' = true := by
  intro v hv
  obtain ⟨j, hj, rfl⟩ := List.getElem_of_mem hv
  have hl : j < cs.length := by rw [← h.1]; simpa using hj
  obtain ⟨h1, h2⟩ := h.2 j _ (List.getElem?_eq_getElem hl)
  have e : arr.getD j Go.undef = arr.toList[j] := by
    have : j < arr.size := by simpa using hj
    simp [Array.getD, this]
  rw [e] at h2
  exact (h2.atom h1).1

theorem RCs.move {ok ok' : Nat → Prop} {w w' : World} {φ φ' : List Value} {cs : List V} {arr : Array Value} (h : RCs ok w φ cs arr) (hm : ∀ x v, RV ok w φ x v → RV ok' w' φ' x v) : RCs ok' w' φ' cs arr :=
  ⟨h.1, fun j c hj => ⟨(h.2 j c hj).1, hm _ _ (h.2 j c hj).2⟩⟩

theorem below_alloc1 (w : World) (o : Obj) : Below w.heap.size w (w.alloc o) := (Below.refl _ _).alloc (Nat.le_refl _) o

section
variable {P : Program} {L : Lay} {ts : List V} {bs : List Bx} {o : Oper}

/-- A new variable, filled. -/
theorem op_box {t : TypeId} {p : Operand} {x : V} {cs : List V} (ho : o.op = .box t p) (hx : evO ts p = some x) (hc : x.cs = some cs) :
    OpOk P o (fun ts' bs' => ts' = putV o.dst (.ptr bs.length 0) ts ∧ bs' = bs ++ [.cells cs]) ts bs := by
  refine OpOk.make fun T φ w a hs ht => ?_
  have hv := evO_sound ht hx
  have hl : (φ ++ [Value.pointer (some ⟨w.heap.size, 0, none⟩)])[bs.length]? = some (.pointer (some ⟨w.heap.size, 0, none⟩)) := by rw [← hs.len]; simp
  refine ⟨.pointer (some ⟨w.heap.size, 0, none⟩), .pointer (some ⟨w.heap.size, 0, none⟩), w.alloc (.cells (a.eval p).cells t), ?_, below_alloc1 w _, fun g hg => ?_, fun he => ⟨⟨w.heap.size, (a.eval p).cells, t, rfl, heap_alloc_new w _, ?_⟩, ?_⟩⟩
  · simp [execOp, ho, Instr.box, newVar, newRow]
  · obtain rfl : w.heap.size = g := by simpa [blkOf] using hg
    exact Nat.le_refl _
  · exact (hv.cells hc).move fun _ _ h => h.ext he
  · exact .ptr _ 0 _ hl

/-- A new variable, zero. -/
theorem op_alloc (hL : LayOk P L) {t : TypeId} {cs : List V} (ho : o.op = .alloc t) (hz : L.zero t = some cs) :
    OpOk P o (fun ts' bs' => ts' = putV o.dst (.ptr bs.length 0) ts ∧ bs' = bs ++ [.cells cs]) ts bs := by
  refine OpOk.make fun T φ w a hs ht => ?_
  obtain ⟨i, z, h1, h2, h3⟩ := hL.zero t cs hz
  have hl : (φ ++ [Value.pointer (some ⟨w.heap.size, 0, none⟩)])[bs.length]? = some (.pointer (some ⟨w.heap.size, 0, none⟩)) := by rw [← hs.len]; simp
  refine ⟨.pointer (some ⟨w.heap.size, 0, none⟩), .pointer (some ⟨w.heap.size, 0, none⟩), w.alloc (.cells z.cells t), ?_, below_alloc1 w _, fun g hg => ?_, fun he => ⟨⟨w.heap.size, z.cells, t, rfl, heap_alloc_new w _, ?_⟩, ?_⟩⟩
  · simp [execOp, ho, Instr.alloc, zeroValue, typeInfo, h1, h2, newVar, newRow]
  · obtain rfl : w.heap.size = g := by simpa [blkOf] using hg
    exact Nat.le_refl _
  · have hlen : z.cells.size = cs.length := by
      have := congrArg List.length h3
      simpa using this
    refine ⟨hlen, fun j c hj => ?_⟩
    have hj2 : j < z.cells.size := by rw [hlen]; exact (List.getElem?_eq_some_iff.1 hj).1
    have h4 : conV (z.cells.getD j Go.undef) = some c := by
      have := congrArg (fun l => l[j]?) h3
      simp only [List.getElem?_map, hj, Option.map_some] at this
      rw [show z.cells.toList[j]? = some z.cells[j] by simp [hj2]] at this
      simpa [Array.getD, hj2] using this
    exact ⟨conV_atomic h4, conV_sound h4⟩
  · exact .ptr _ 0 _ hl
end

end Go.Proofs.YtiefcnghjcafbaaDoorV
