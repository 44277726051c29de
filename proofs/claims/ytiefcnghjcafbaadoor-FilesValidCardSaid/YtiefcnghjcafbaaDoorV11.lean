/- The calculus of values, eleventh text: regions whose order is open: what is held against each operation. -/
import Derived.Orders
import Derived.Test.YtiefcnghjcafbaaDoorV10
namespace Go.Proofs.YtiefcnghjcafbaaDoorV
open Go Go.RowKit

/-- The temporaries that an operation reads. -/
def tmpsOf (l : List Operand) : List Tmp := l.filterMap fun | .tmp t => some t | _ => none

/-- Every edge that binds goes to an earlier operation; what an operation reads out of the region it waits for, or the writer waits for it; its guard it waits for; no two write one temporary. -/
def chk (ops : Array Oper) : Bool :=
  (List.range ops.size).all fun i => match ops[i]? with
    | none => false
    | some o =>
      (o.after.toList.all fun e => !Region.binds .any e || decide (e.on < i)) &&
      ((List.range ops.size).all fun j => match ops[j]? with
        | none => false
        | some p => match p.dst with
          | none => true
          | some t => (j == i || p.dst != o.dst) &&
            ((!(tmpsOf o.op.operands.toList).contains t || o.after.toList.any fun e => Region.binds .any e && e.on == j) || p.after.toList.any fun e => Region.binds .any e && e.on == i)) &&
      (match o.guard with
        | none => true
        | some (j, _) => o.after.toList.any fun e => Region.binds .any e && e.on == j)

/-- The temporaries when some are listed. -/
def Mid (ops : Array Oper) (fin ts0 ts : List V) (listed : Array Bool) : Prop :=
  ts.length = fin.length ∧ (∀ (j : Nat) o t, ops[j]? = some o → o.dst = some t → listed.getD j true = true → ts[t]? = fin[t]?) ∧
  ∀ t, (∀ (j : Nat) o, ops[j]? = some o → o.dst = some t → listed.getD j true = false) → ts[t]? = ts0[t]?

theorem getD_listed {listed : Array Bool} {i j : Nat} {d : Bool} : (listed.setIfInBounds i true).getD j d = if i = j ∧ i < listed.size then true else listed.getD j d := by
  simp only [Array.getD_eq_getD_getElem?, Array.getElem?_setIfInBounds]
  by_cases h : i = j
  · subst h
    by_cases h2 : i < listed.size
    · simp [h2]
    · simp [h2]
  · simp [h]

theorem count_listed {listed : Array Bool} {i : Nat} (hi : i < listed.size) (hun : listed.getD i true = false) : ∀ l : List Nat, l.Nodup → i ∈ l →
    (l.filter fun j => !listed.getD j true).length = (l.filter fun j => !(listed.setIfInBounds i true).getD j true).length + 1
  | [], _, h => by cases h
  | j :: l, hnd, hmem => by
    have hnd' := List.nodup_cons.1 hnd
    by_cases hij : j = i
    · subst hij
      have hrest : l.filter (fun q => !(listed.setIfInBounds j true).getD q true) = l.filter (fun q => !listed.getD q true) := List.filter_congr fun q hq => by
        have hne : j ≠ q := fun e => hnd'.1 (e ▸ hq)
        rw [getD_listed, if_neg (fun h => hne h.1)]
      have e1 : (!listed.getD j true) = true := by rw [hun]; rfl
      have e2 : (!(listed.setIfInBounds j true).getD j true) = false := by rw [getD_listed, if_pos ⟨rfl, hi⟩]; rfl
      rw [List.filter_cons_of_pos (p := fun j => !listed.getD j true) e1, List.filter_cons_of_neg (by rw [e2]; simp), List.length_cons, hrest]
    · have hmem' : i ∈ l := (List.mem_cons.1 hmem).resolve_left fun h => hij h.symm
      have ih := count_listed hi hun l hnd'.2 hmem'
      have e : (!(listed.setIfInBounds i true).getD j true) = (!listed.getD j true) := by rw [getD_listed, if_neg (fun h => hij h.1.symm)]
      cases hb : (!listed.getD j true) with
      | true => rw [List.filter_cons_of_pos (p := fun j => !listed.getD j true) hb, List.filter_cons_of_pos (p := fun j => !(listed.setIfInBounds i true).getD j true) (e.trans hb), List.length_cons, List.length_cons, ih]
      | false => rw [List.filter_cons_of_neg (by rw [hb]; simp), List.filter_cons_of_neg (by rw [e, hb]; simp), ih]

theorem chk_row {ops : Array Oper} (h : chk ops = true) {i : Nat} {o : Oper} (ho : ops[i]? = some o) :
    (∀ e ∈ o.after.toList, Region.binds .any e = true → e.on < i) ∧
    (∀ (j : Nat) p t, ops[j]? = some p → p.dst = some t → (j = i ∨ p.dst ≠ o.dst) ∧ (t ∈ tmpsOf o.op.operands.toList → (∃ e ∈ o.after.toList, Region.binds .any e = true ∧ e.on = j) ∨ ∃ e ∈ p.after.toList, Region.binds .any e = true ∧ e.on = i)) ∧
    (∀ j b, o.guard = some (j, b) → ∃ e ∈ o.after.toList, Region.binds .any e = true ∧ e.on = j) := by
  have hi : i < ops.size := (Array.getElem?_eq_some_iff.1 ho).1
  have h1 := List.all_eq_true.1 h i (List.mem_range.2 hi)
  rw [ho] at h1
  simp only [Bool.and_eq_true] at h1
  obtain ⟨⟨h2, h3⟩, h4⟩ := h1
  refine ⟨fun e he hb => ?_, fun j p t hp ht => ?_, fun j b hg => ?_⟩
  · have := List.all_eq_true.1 h2 e he
    simpa [hb] using this
  · have hj : j < ops.size := (Array.getElem?_eq_some_iff.1 hp).1
    have h5 := List.all_eq_true.1 h3 j (List.mem_range.2 hj)
    rw [hp] at h5
    simp only [ht, Bool.and_eq_true, Bool.or_eq_true, beq_iff_eq, bne_iff_ne, Bool.not_eq_true', List.any_eq_true] at h5
    refine ⟨by rw [ht]; exact h5.1, fun hm => ?_⟩
    rcases h5.2 with (h6 | ⟨e, he, h7⟩) | ⟨e, he, h7⟩
    · have : (tmpsOf o.op.operands.toList).contains t = true := List.contains_iff_mem.2 hm
      rw [this] at h6
      cases h6
    · exact .inl ⟨e, he, h7⟩
    · exact .inr ⟨e, he, h7⟩
  · rw [hg] at h4
    simp only [List.any_eq_true, Bool.and_eq_true, beq_iff_eq] at h4
    exact h4

end Go.Proofs.YtiefcnghjcafbaaDoorV
