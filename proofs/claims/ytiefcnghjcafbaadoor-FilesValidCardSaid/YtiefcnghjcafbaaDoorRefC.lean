/- The reference's cleaned paths, and the two laws. -/
import Derived.Test.YtiefcnghjcafbaaDoorRefP
import Derived.Test.YtiefcnghjcafbaaDoorAwake
namespace Go.Proofs.YtiefcnghjcafbaaDoorV
open Go Go.RowKit Go.Proofs.YtiefcnghjcafbaaDoor
set_option maxRecDepth 20000
set_option maxHeartbeats 4000000

inductive P18 : FuncId → List V → V → Prop
  | parts (s : List UInt8) (h : s.length ≤ 100000) : P18 39 [T s] (.sl (rowsT (splitB s)))
  | name (s : List UInt8) (h : s.length ≤ 100000) : P18 41 [T s] (bV (nameB s))
theorem P18_u : Uniq P18 := fun f vs v v' h h' => by cases h <;> cases h' <;> rfl
theorem P18_good : Good Tryd.prog (TabP P18) := TabP_good fun f vs v h => by
  cases h with
  | parts s h => exact ⟨rparts39 s h, rfl, rfl, Tryd.call39⟩
  | name s h => exact ⟨rname41 s h, rfl, rfl, Tryd.call41⟩

theorem rpath18 (s : List UInt8) : FnOk Tryd.prog 18 [T s] [] (fun r bs' => fr bs' r = bV (pathB s)) := by
  by_cases e : s = [47]
  · subst e; exact FnOk.fast (Q := fun r => r = bV (pathB [47])) layOk Tryd.func18 rfl (goOut 100 (r := bV true) (by kernel_rfl) rfl)
  cases s with
  | nil => exact FnOk.fast (Q := fun r => r = bV (pathB [])) layOk Tryd.func18 rfl (goOut 100 (r := bV false) (by kernel_rfl) rfl)
  | cons c r =>
  refine FnOk.fast (Q := fun q => q = bV (pathB (c :: r))) layOk Tryd.func18 rfl ?_
  have hq0 : decide (c :: r = [47]) = false := decide_eq_false e
  have hT := P18_good
  have hU := P18_u
  have h0 : (c :: r)[0]? = some c := rfl
  refine Ok.seq (go 10 rfl ?_)
  refine Ok.seq ?_
  refine Ok.seq (Ok.regionW (G := fun _ => true) (C := TabP _) mixed layOk noT TabP_calm (.inl rfl) ?_)
  refine wstepN rfl rfl (by dsimp only [putV, List.set]) ?_
  first
    | refine wstepN rfl (eqT (by assumption) rfl rfl) (by dsimp only [putV, List.set]) ?_
    | refine wstepN rfl rfl (by dsimp only [putV, List.set]) ?_
  refine wnil (Ok.cond (b := false) rfl (fun h => by cases h) (fun _ => ?_))
  refine Ok.skip ?_
  refine Ok.seq ?_
  cases h2 : decide (((c :: r).length : Int) < 2)
  · cases hl : decide (((c :: r).length : Int) > 128)
    · have hl' : (c :: r).length ≤ 128 := by
        have := of_decide_eq_false hl
        omega
      cases h47 : decide (c = 47)
      · have h47' := of_decide_eq_false h47
        rw [show pathB (c :: r) = false by simp [pathB, e, h47']]
        refine Ok.seq (Ok.regionW (G := fun _ => true) (C := TabP _) mixed layOk noT TabP_calm (.inl rfl) ?_)
        refine wstepN rfl rfl (by dsimp only [putV, List.set]) ?_
        first
          | refine wstepN rfl (lenT rfl rfl) (by dsimp only [putV, List.set]) ?_
          | refine wstepN rfl rfl (by dsimp only [putV, List.set]) ?_
        first
          | refine wstepN rfl (ltT (by assumption) rfl rfl) (by dsimp only [putV, List.set]) ?_
          | refine wstepN rfl (lssK (by assumption) rfl rfl) (by dsimp only [putV, List.set]) ?_
          | refine wstepN rfl rfl (by dsimp only [putV, List.set]) ?_
        refine wstepN rfl rfl (by dsimp only [putV, List.set]) ?_
        first
          | refine wskipN rfl (by dsimp only [putV, List.set]) ?_
          | refine wstepN rfl rfl (by dsimp only [putV, List.set]) ?_
        first
          | refine wskipN rfl (by dsimp only [putV, List.set]) ?_
          | refine wstepN rfl (lenT rfl rfl) (by dsimp only [putV, List.set]) ?_
          | refine wstepN rfl rfl (by dsimp only [putV, List.set]) ?_
        first
          | refine wskipN rfl (by dsimp only [putV, List.set]) ?_
          | refine wstepN rfl (gtrK (by assumption) rfl rfl) (by dsimp only [putV, List.set]) ?_
          | refine wstepN rfl rfl (by dsimp only [putV, List.set]) ?_
        refine wstepN rfl rfl (by dsimp only [putV, List.set]) ?_
        refine wstepN rfl rfl (by dsimp only [putV, List.set]) ?_
        first
          | refine wskipN rfl (by dsimp only [putV, List.set]) ?_
          | refine wstepN rfl rfl (by dsimp only [putV, List.set]) ?_
        refine wstepN rfl (idxT (z := 0) rfl rfl rfl h0) (by dsimp only [putV, List.set]) ?_
        first
          | refine wskipN rfl (by dsimp only [putV, List.set]) ?_
          | refine wstepN rfl (neqC (d := 47) rfl (by assumption) rfl rfl) (by dsimp only [putV, List.set]) ?_
          | refine wstepN rfl (neqC (d := 0) rfl (by assumption) rfl rfl) (by dsimp only [putV, List.set]) ?_
          | refine wstepN rfl (neqK (by assumption) rfl rfl) (by dsimp only [putV, List.set]) ?_
          | refine wstepN rfl rfl (by dsimp only [putV, List.set]) ?_
        refine wstepN rfl rfl (by dsimp only [putV, List.set]) ?_
        refine wnil (Ok.cond (b := true) rfl (fun _ => ?_) (fun h => by cases h))
        exact go 10 rfl ⟨fun _ h => (by cases h), _, rfl, rfl⟩
      · obtain rfl := of_decide_eq_true h47
        rw [show pathB (47 :: r) = (splitB r).all nameB by simp only [pathB, e, hl']; simp]
        refine Ok.seq (Ok.regionW (G := fun _ => true) (C := TabP _) mixed layOk noT TabP_calm (.inl rfl) ?_)
        refine wstepN rfl rfl (by dsimp only [putV, List.set]) ?_
        first
          | refine wstepN rfl (lenT rfl rfl) (by dsimp only [putV, List.set]) ?_
          | refine wstepN rfl rfl (by dsimp only [putV, List.set]) ?_
        first
          | refine wstepN rfl (ltT (by assumption) rfl rfl) (by dsimp only [putV, List.set]) ?_
          | refine wstepN rfl (lssK (by assumption) rfl rfl) (by dsimp only [putV, List.set]) ?_
          | refine wstepN rfl rfl (by dsimp only [putV, List.set]) ?_
        refine wstepN rfl rfl (by dsimp only [putV, List.set]) ?_
        first
          | refine wskipN rfl (by dsimp only [putV, List.set]) ?_
          | refine wstepN rfl rfl (by dsimp only [putV, List.set]) ?_
        first
          | refine wskipN rfl (by dsimp only [putV, List.set]) ?_
          | refine wstepN rfl (lenT rfl rfl) (by dsimp only [putV, List.set]) ?_
          | refine wstepN rfl rfl (by dsimp only [putV, List.set]) ?_
        first
          | refine wskipN rfl (by dsimp only [putV, List.set]) ?_
          | refine wstepN rfl (gtrK (by assumption) rfl rfl) (by dsimp only [putV, List.set]) ?_
          | refine wstepN rfl rfl (by dsimp only [putV, List.set]) ?_
        refine wstepN rfl rfl (by dsimp only [putV, List.set]) ?_
        refine wstepN rfl rfl (by dsimp only [putV, List.set]) ?_
        first
          | refine wskipN rfl (by dsimp only [putV, List.set]) ?_
          | refine wstepN rfl rfl (by dsimp only [putV, List.set]) ?_
        refine wstepN rfl (idxT (z := 0) rfl rfl rfl h0) (by dsimp only [putV, List.set]) ?_
        first
          | refine wskipN rfl (by dsimp only [putV, List.set]) ?_
          | refine wstepN rfl (neqC (d := 47) rfl (by assumption) rfl rfl) (by dsimp only [putV, List.set]) ?_
          | refine wstepN rfl (neqC (d := 0) rfl (by assumption) rfl rfl) (by dsimp only [putV, List.set]) ?_
          | refine wstepN rfl (neqK (by assumption) rfl rfl) (by dsimp only [putV, List.set]) ?_
          | refine wstepN rfl rfl (by dsimp only [putV, List.set]) ?_
        refine wstepN rfl rfl (by dsimp only [putV, List.set]) ?_
        refine wnil (Ok.cond (b := false) rfl (fun h => by cases h) (fun _ => ?_))
        refine Ok.skip ?_
        have hsp : P18 39 [T r] (.sl (rowsT (splitB r))) := .parts r (by simp at hl'; omega)
        have hN0 := splitB_len r
        have hmem0 : ∀ p ∈ splitB r, p.length ≤ r.length := fun p hp => splitB_mem hp
        generalize splitB r = l at hsp hN0 hmem0
        obtain ⟨N, hN⟩ : ∃ N, l.length = N := ⟨_, rfl⟩
        have hNs : N ≤ 200 := by simp at hl'; omega
        refine Ok.seq (Ok.regionW (G := fun _ => true) (C := TabP _) mixed layOk hT TabP_calm (.inl rfl) ?_)
        refine wstepN rfl rfl (by dsimp only [putV, List.set]) ?_
        refine wstepN rfl (cutFromR (l' := r) (a := 1) (by simp) rfl rfl rfl rfl) (by dsimp only [putV, List.set]) ?_
        first
          | refine wstepN rfl (hit39 (by first | assumption | omega)) (by dsimp only [putV, List.set]) ?_
          | refine wstepN rfl (T1_hit) (by dsimp only [putV, List.set]) ?_
          | refine wstepN rfl (TabP_use (by assumption) (by assumption)) (by dsimp only [putV, List.set]) ?_
          | refine wstepN rfl (TabP_hit (fun v' h => by cases h; rfl) (by assumption)) (by dsimp only [putV, List.set]) ?_
          | refine wstepN rfl (TabP_hit (fun v' h => by cases h; rfl) (by constructor)) (by dsimp only [putV, List.set]) ?_
          | refine wstepN rfl rfl (by dsimp only [putV, List.set]) ?_
        refine wstepN rfl rfl (by dsimp only [putV, List.set]) ?_
        refine wnil ?_
        refine Ok.seq (Ok.seq (go 10 rfl ?_))
        refine Ok.gc (bs2 := []) [] [3, 4] (by kernel_rfl) (by decide) (floor_ok rfl) ?_
        refine Ok.count N (fun k ts bs => k ≤ N ∧ (l.take k).all nameB = true ∧ bs = [] ∧ ts = ((List.replicate 35 V.gone).set 3 (.sl (rowsT l))).set 4 (iV (k : Int))) ?_ ?_
        · exact ⟨Nat.zero_le _, rfl, rfl, rfl⟩
        rintro k _ _ ⟨hk, hall, rfl, rfl⟩
        simp only [List.replicate, List.set]
        refine Ok.seq (Ok.seq ?_)
        cases hlt : decide (k < N)
        · refine Ok.regionW (G := fun _ => true) (C := TabP _) mixed layOk noT TabP_calm (.inl rfl) ?_
          refine wstepN rfl rfl (by dsimp only [putV, List.set]) ?_
          refine wstepN rfl rfl (by dsimp only [putV, List.set]) ?_
          first
            | refine wstepN rfl (lenR (by assumption) rfl rfl) (by dsimp only [putV, List.set]) ?_
            | refine wstepN rfl rfl (by dsimp only [putV, List.set]) ?_
          first
            | refine wstepN rfl (ltT (by assumption) rfl rfl) (by dsimp only [putV, List.set]) ?_
            | refine wstepN rfl (lssK (by assumption) rfl rfl) (by dsimp only [putV, List.set]) ?_
            | refine wstepN rfl rfl (by dsimp only [putV, List.set]) ?_
          refine wnil (Ok.cond (b := false) rfl (fun h => by cases h) (fun _ => ?_))
          refine Ok.exit ?_
          have : ¬ k < N := of_decide_eq_false hlt
          rw [List.take_of_length_le (by omega)] at hall
          rw [hall]
          exact go 10 rfl ⟨fun _ h => (by cases h), _, rfl, rfl⟩
        · have hlt' : k < N := of_decide_eq_true hlt
          obtain ⟨c, hc⟩ : ∃ c, l[k]? = some c := ⟨_, List.getElem?_eq_getElem (by omega)⟩
          have hget := rowsT_at hc
          have hnext := take_all (p := nameB) hc
          have hmem := List.mem_of_getElem? hc
          have hnm : P18 41 [T c] (bV (nameB c)) := .name c (by have := hmem0 c hmem; simp at hl'; omega)
          refine Ok.regionW (G := fun _ => true) (C := TabP _) mixed layOk noT TabP_calm (.inl rfl) ?_
          refine wstepN rfl rfl (by dsimp only [putV, List.set]) ?_
          refine wstepN rfl rfl (by dsimp only [putV, List.set]) ?_
          first
            | refine wstepN rfl (lenR (by assumption) rfl rfl) (by dsimp only [putV, List.set]) ?_
            | refine wstepN rfl rfl (by dsimp only [putV, List.set]) ?_
          first
            | refine wstepN rfl (ltT (by assumption) rfl rfl) (by dsimp only [putV, List.set]) ?_
            | refine wstepN rfl (lssK (by assumption) rfl rfl) (by dsimp only [putV, List.set]) ?_
            | refine wstepN rfl rfl (by dsimp only [putV, List.set]) ?_
          refine wnil (Ok.cond (b := true) rfl (fun _ => ?_) (fun h => by cases h))
          refine Ok.skip ?_
          refine Ok.after (Ok.seq (Ok.block (Ok.seq ?_)))
          refine Ok.regionW (G := fun _ => true) (C := TabP _) mixed layOk hT TabP_calm (.inl rfl) ?_
          refine wstepN rfl rfl (by dsimp only [putV, List.set]) ?_
          refine wstepN rfl rfl (by dsimp only [putV, List.set]) ?_
          first
            | refine wstepN rfl (ev_ix rfl rfl rfl (by assumption) rfl) (by dsimp only [putV, List.set]) ?_
            | refine wstepN rfl rfl (by dsimp only [putV, List.set]) ?_
          first
            | refine wstepN rfl (ldT rfl rfl) (by dsimp only [putV, List.set]) ?_
            | refine wstepN rfl rfl (by dsimp only [putV, List.set]) ?_
          first
            | refine wstepN rfl (hit41 (by first | assumption | omega)) (by dsimp only [putV, List.set]) ?_
            | refine wstepN rfl (T1_hit) (by dsimp only [putV, List.set]) ?_
            | refine wstepN rfl (TabP_use (by assumption) (by assumption)) (by dsimp only [putV, List.set]) ?_
            | refine wstepN rfl (TabP_hit (fun v' h => by cases h; rfl) (by assumption)) (by dsimp only [putV, List.set]) ?_
            | refine wstepN rfl (TabP_hit (fun v' h => by cases h; rfl) (by constructor)) (by dsimp only [putV, List.set]) ?_
            | refine wstepN rfl rfl (by dsimp only [putV, List.set]) ?_
          refine wstepN rfl rfl (by dsimp only [putV, List.set]) ?_
          cases hn : nameB c
          · refine wnil (Ok.cond (b := true) rfl (fun _ => ?_) (fun h => by cases h))
            rw [show l.all nameB = false from List.all_eq_false.2 ⟨c, hmem, by simp [hn]⟩]
            refine Ok.seq (Ok.regionW (G := fun _ => true) (C := TabP _) mixed layOk noT TabP_calm (.inl rfl) ?_)
            refine wstepN rfl rfl (by dsimp only [putV, List.set]) ?_
            refine wnil (Ok.ret ?_)
            exact ⟨[], [2], [], by kernel_rfl, by decide, floor_ok rfl, fun _ h => (by cases h), _, rfl, rfl⟩
          · refine wnil (Ok.cond (b := false) rfl (fun h => by cases h) (fun _ => ?_))
            refine Ok.skip ?_
            refine Ok.regionW (G := fun _ => true) (C := TabP _) mixed layOk noT TabP_calm (.inl rfl) ?_
            refine wstepN rfl rfl (by dsimp only [putV, List.set]) ?_
            first
              | refine wstepN rfl (incT (by omega) rfl rfl) (by dsimp only [putV, List.set]) ?_
              | refine wstepN rfl (addK (by assumption) rfl rfl) (by dsimp only [putV, List.set]) ?_
              | refine wstepN rfl rfl (by dsimp only [putV, List.set]) ?_
            refine wstepN rfl rfl (by dsimp only [putV, List.set]) ?_
            refine wnil ?_
            exact ⟨[], [3, 4], [], by kernel_rfl, by decide, floor_ok rfl, hlt', hlt', by rw [hnext, hall, hn]; rfl, rfl, rfl⟩
    · have hl' : ¬ (c :: r).length ≤ 128 := by
        have := of_decide_eq_true hl
        omega
      rw [show pathB (c :: r) = false by simp only [pathB, e, hl']; simp]
      refine Ok.seq (Ok.regionW (G := fun _ => true) (C := TabP _) mixed layOk noT TabP_calm (.inl rfl) ?_)
      refine wstepN rfl rfl (by dsimp only [putV, List.set]) ?_
      first
        | refine wstepN rfl (lenT rfl rfl) (by dsimp only [putV, List.set]) ?_
        | refine wstepN rfl rfl (by dsimp only [putV, List.set]) ?_
      first
        | refine wstepN rfl (ltT (by assumption) rfl rfl) (by dsimp only [putV, List.set]) ?_
        | refine wstepN rfl (lssK (by assumption) rfl rfl) (by dsimp only [putV, List.set]) ?_
        | refine wstepN rfl rfl (by dsimp only [putV, List.set]) ?_
      refine wstepN rfl rfl (by dsimp only [putV, List.set]) ?_
      first
        | refine wskipN rfl (by dsimp only [putV, List.set]) ?_
        | refine wstepN rfl rfl (by dsimp only [putV, List.set]) ?_
      first
        | refine wskipN rfl (by dsimp only [putV, List.set]) ?_
        | refine wstepN rfl (lenT rfl rfl) (by dsimp only [putV, List.set]) ?_
        | refine wstepN rfl rfl (by dsimp only [putV, List.set]) ?_
      first
        | refine wskipN rfl (by dsimp only [putV, List.set]) ?_
        | refine wstepN rfl (gtrK (by assumption) rfl rfl) (by dsimp only [putV, List.set]) ?_
        | refine wstepN rfl rfl (by dsimp only [putV, List.set]) ?_
      refine wstepN rfl rfl (by dsimp only [putV, List.set]) ?_
      refine wstepN rfl rfl (by dsimp only [putV, List.set]) ?_
      first
        | refine wskipN rfl (by dsimp only [putV, List.set]) ?_
        | refine wstepN rfl rfl (by dsimp only [putV, List.set]) ?_
      first
        | refine wskipN rfl (by dsimp only [putV, List.set]) ?_
        | refine wstepN rfl (idxT rfl rfl rfl (by assumption)) (by dsimp only [putV, List.set]) ?_
        | refine wstepN rfl rfl (by dsimp only [putV, List.set]) ?_
      first
        | refine wskipN rfl (by dsimp only [putV, List.set]) ?_
        | refine wstepN rfl (neqC (d := 47) rfl (by assumption) rfl rfl) (by dsimp only [putV, List.set]) ?_
        | refine wstepN rfl (neqC (d := 0) rfl (by assumption) rfl rfl) (by dsimp only [putV, List.set]) ?_
        | refine wstepN rfl (neqK (by assumption) rfl rfl) (by dsimp only [putV, List.set]) ?_
        | refine wstepN rfl rfl (by dsimp only [putV, List.set]) ?_
      refine wstepN rfl rfl (by dsimp only [putV, List.set]) ?_
      refine wnil (Ok.cond (b := true) rfl (fun _ => ?_) (fun h => by cases h))
      exact go 10 rfl ⟨fun _ h => (by cases h), _, rfl, rfl⟩
  · have hl' : r = [] := by
      have := of_decide_eq_true h2
      cases r with
      | nil => rfl
      | cons d r => simp at this; omega
    subst hl'
    have hc : ¬ c = 47 := fun h => e (by rw [h])
    rw [show pathB [c] = false by simp [pathB, hc]]
    refine Ok.seq (Ok.regionW (G := fun _ => true) (C := TabP _) mixed layOk noT TabP_calm (.inl rfl) ?_)
    refine wstepN rfl rfl (by dsimp only [putV, List.set]) ?_
    first
      | refine wstepN rfl (lenT rfl rfl) (by dsimp only [putV, List.set]) ?_
      | refine wstepN rfl rfl (by dsimp only [putV, List.set]) ?_
    first
      | refine wstepN rfl (ltT (by assumption) rfl rfl) (by dsimp only [putV, List.set]) ?_
      | refine wstepN rfl (lssK (by assumption) rfl rfl) (by dsimp only [putV, List.set]) ?_
      | refine wstepN rfl rfl (by dsimp only [putV, List.set]) ?_
    refine wstepN rfl rfl (by dsimp only [putV, List.set]) ?_
    first
      | refine wskipN rfl (by dsimp only [putV, List.set]) ?_
      | refine wstepN rfl rfl (by dsimp only [putV, List.set]) ?_
    first
      | refine wskipN rfl (by dsimp only [putV, List.set]) ?_
      | refine wstepN rfl (lenT rfl rfl) (by dsimp only [putV, List.set]) ?_
      | refine wstepN rfl rfl (by dsimp only [putV, List.set]) ?_
    first
      | refine wskipN rfl (by dsimp only [putV, List.set]) ?_
      | refine wstepN rfl (gtrK (by assumption) rfl rfl) (by dsimp only [putV, List.set]) ?_
      | refine wstepN rfl rfl (by dsimp only [putV, List.set]) ?_
    refine wstepN rfl rfl (by dsimp only [putV, List.set]) ?_
    refine wstepN rfl rfl (by dsimp only [putV, List.set]) ?_
    first
      | refine wskipN rfl (by dsimp only [putV, List.set]) ?_
      | refine wstepN rfl rfl (by dsimp only [putV, List.set]) ?_
    first
      | refine wskipN rfl (by dsimp only [putV, List.set]) ?_
      | refine wstepN rfl (idxT rfl rfl rfl (by assumption)) (by dsimp only [putV, List.set]) ?_
      | refine wstepN rfl rfl (by dsimp only [putV, List.set]) ?_
    first
      | refine wskipN rfl (by dsimp only [putV, List.set]) ?_
      | refine wstepN rfl (neqC (d := 47) rfl (by assumption) rfl rfl) (by dsimp only [putV, List.set]) ?_
      | refine wstepN rfl (neqC (d := 0) rfl (by assumption) rfl rfl) (by dsimp only [putV, List.set]) ?_
      | refine wstepN rfl (neqK (by assumption) rfl rfl) (by dsimp only [putV, List.set]) ?_
      | refine wstepN rfl rfl (by dsimp only [putV, List.set]) ?_
    refine wstepN rfl rfl (by dsimp only [putV, List.set]) ?_
    refine wnil (Ok.cond (b := true) rfl (fun _ => ?_) (fun h => by cases h))
    exact go 10 rfl ⟨fun _ h => (by cases h), _, rfl, rfl⟩

inductive P17 : FuncId → List V → V → Prop
  | parts (s : List UInt8) (h : s.length ≤ 100000) : P17 39 [T s] (.sl (rowsT (splitB s)))
  | name (s : List UInt8) (h : s.length ≤ 100000) : P17 41 [T s] (bV (nameB s))
  | path (s : List UInt8) (h : s.length ≤ 100000) : P17 18 [T s] (bV (pathB s))
  | parent (s : List UInt8) (h : s.length ≤ 100000) : P17 40 [T s] (T (parentB s))
theorem P17_u : Uniq P17 := fun f vs v v' h h' => by cases h <;> cases h' <;> rfl
theorem P17_good : Good Tryd.prog (TabP P17) := TabP_good fun f vs v h => by
  cases h with
  | parts s h => exact ⟨rparts39 s h, rfl, rfl, Tryd.call39⟩
  | name s h => exact ⟨rname41 s h, rfl, rfl, Tryd.call41⟩
  | path s h => exact ⟨rpath18 s, rfl, rfl, Tryd.call18⟩
  | parent s h => exact ⟨rparent40 s h, rfl, rfl, Tryd.call40⟩

theorem trimR_len (s : List UInt8) : (trimR s).length ≤ s.length := by
  unfold trimR
  split
  · simp
  · exact Nat.le_refl _

theorem rclean17 (cwd path : List UInt8) (h1 : cwd.length ≤ 1000) (h2 : path.length ≤ 1000) : FnOk Tryd.prog 17 [T cwd, T path] [] (fun r bs' => fr bs' r = .tup [T (cleanB trimR cwd path).1, iV (cleanB trimR cwd path).2]) := by
  refine FnOk.fast (Q := fun r => r = .tup [T (cleanB trimR cwd path).1, iV (cleanB trimR cwd path).2]) layOk Tryd.func17 rfl ?_
  have hT := P17_good
  have hU := P17_u
  have hpa : P17 18 [T cwd] (bV (pathB cwd)) := .path cwd (by omega)
  refine Ok.seq (go 10 rfl ?_)
  refine Ok.seq ?_
  cases hc : pathB cwd
  · rw [hc] at hpa
    rw [show cleanB trimR cwd path = ([], 10) by simp [cleanB, hc]]
    refine Ok.seq (Ok.regionW (G := fun _ => true) (C := TabP _) mixed layOk hT TabP_calm (.inl rfl) ?_)
    refine wstepN rfl rfl (by dsimp only [putV, List.set]) ?_
    first
      | refine wstepN rfl (hit18 (by first | assumption | omega)) (by dsimp only [putV, List.set]) ?_
      | refine wstepN rfl (T1_hit) (by dsimp only [putV, List.set]) ?_
      | refine wstepN rfl (TabP_use (by assumption) (by assumption)) (by dsimp only [putV, List.set]) ?_
      | refine wstepN rfl (TabP_hit (fun v' h => by cases h; rfl) (by assumption)) (by dsimp only [putV, List.set]) ?_
      | refine wstepN rfl (TabP_hit (fun v' h => by cases h; rfl) (by constructor)) (by dsimp only [putV, List.set]) ?_
      | refine wstepN rfl rfl (by dsimp only [putV, List.set]) ?_
    refine wstepN rfl rfl (by dsimp only [putV, List.set]) ?_
    refine wnil (Ok.cond (b := true) rfl (fun _ => ?_) (fun h => by cases h))
    exact go 10 rfl ⟨fun _ h => (by cases h), _, rfl, rfl⟩
  rw [hc] at hpa
  refine Ok.seq (Ok.regionW (G := fun _ => true) (C := TabP _) mixed layOk hT TabP_calm (.inl rfl) ?_)
  refine wstepN rfl rfl (by dsimp only [putV, List.set]) ?_
  first
    | refine wstepN rfl (hit18 (by first | assumption | omega)) (by dsimp only [putV, List.set]) ?_
    | refine wstepN rfl (T1_hit) (by dsimp only [putV, List.set]) ?_
    | refine wstepN rfl (TabP_use (by assumption) (by assumption)) (by dsimp only [putV, List.set]) ?_
    | refine wstepN rfl (TabP_hit (fun v' h => by cases h; rfl) (by assumption)) (by dsimp only [putV, List.set]) ?_
    | refine wstepN rfl (TabP_hit (fun v' h => by cases h; rfl) (by constructor)) (by dsimp only [putV, List.set]) ?_
    | refine wstepN rfl rfl (by dsimp only [putV, List.set]) ?_
  refine wstepN rfl rfl (by dsimp only [putV, List.set]) ?_
  refine wnil (Ok.cond (b := false) rfl (fun h => by cases h) (fun _ => ?_))
  refine Ok.skip ?_
  cases path with
  | nil =>
    have hq : decide (([] : List UInt8) = []) = true := rfl
    rw [show cleanB trimR cwd [] = ([], 8) by simp [cleanB, hc]]
    refine Ok.seq ?_
    refine Ok.seq (Ok.regionW (G := fun _ => true) (C := TabP _) mixed layOk noT TabP_calm (.inl rfl) ?_)
    refine wstepN rfl rfl (by dsimp only [putV, List.set]) ?_
    first
      | refine wstepN rfl (eqT (by assumption) rfl rfl) (by dsimp only [putV, List.set]) ?_
      | refine wstepN rfl rfl (by dsimp only [putV, List.set]) ?_
    refine wnil (Ok.cond (b := true) rfl (fun _ => ?_) (fun h => by cases h))
    exact go 10 rfl ⟨fun _ h => (by cases h), _, rfl, rfl⟩
  | cons d r =>
    have hq : decide (d :: r = []) = false := by simp
    refine Ok.seq ?_
    refine Ok.seq (Ok.regionW (G := fun _ => true) (C := TabP _) mixed layOk noT TabP_calm (.inl rfl) ?_)
    refine wstepN rfl rfl (by dsimp only [putV, List.set]) ?_
    first
      | refine wstepN rfl (eqT (by assumption) rfl rfl) (by dsimp only [putV, List.set]) ?_
      | refine wstepN rfl rfl (by dsimp only [putV, List.set]) ?_
    refine wnil (Ok.cond (b := false) rfl (fun h => by cases h) (fun _ => ?_))
    refine Ok.skip ?_
    refine Ok.seq (Ok.regionW (G := fun _ => true) (C := TabP _) mixed layOk noT TabP_calm (.inl rfl) ?_)
    refine wstepN rfl rfl (by dsimp only [putV, List.set]) ?_
    refine wstepN rfl rfl (by dsimp only [putV, List.set]) ?_
    refine wnil ?_
    have hd : (d :: r)[0]? = some d := rfl
    obtain ⟨a0, ha0⟩ : ∃ a0, (if (d :: r).head? = some 47 then [47] else cwd) = a0 := ⟨_, rfl⟩
    have hal : a0.length ≤ 1001 := by
      rw [← ha0]
      split
      · simp
      · omega
    have hres : cleanB trimR cwd (d :: r) = match runB trimR (splitB (d :: r)) a0 with
        | none => ([], 10)
        | some a => if a.length ≤ 128 then (a, 0) else ([], 3) := by rw [cleanB, if_pos hc, if_neg (by simp), ha0]; rfl
    rw [hres]
    refine Ok.seq (Ok.mono (Q := fun e ts bs => e = .normal ∧ bs = [] ∧ ts = ((List.replicate 54 V.gone).set 1 (T (d :: r))).set 6 (T a0)) (Ok.after ?_) ?_)
    · cases h47 : decide (d = 47)
      · have h47' : ¬ d = 47 := of_decide_eq_false h47
        simp [h47'] at ha0
        subst ha0
        refine Ok.seq (Ok.regionW (G := fun _ => true) (C := TabP _) mixed layOk noT TabP_calm (.inl rfl) ?_)
        refine wstepN rfl rfl (by dsimp only [putV, List.set]) ?_
        refine wstepN rfl (idxT (z := 0) rfl rfl rfl hd) (by dsimp only [putV, List.set]) ?_
        first
          | refine wstepN rfl (eqC (by first | rfl | assumption) (by assumption) rfl rfl) (by dsimp only [putV, List.set]) ?_
          | refine wstepN rfl (eqC (d := 47) rfl (by assumption) rfl rfl) (by dsimp only [putV, List.set]) ?_
          | refine wstepN rfl (eqC (d := 0) rfl (by assumption) rfl rfl) (by dsimp only [putV, List.set]) ?_
          | refine wstepN rfl (eqlK (by assumption) rfl rfl) (by dsimp only [putV, List.set]) ?_
          | refine wstepN rfl rfl (by dsimp only [putV, List.set]) ?_
        refine wnil (Ok.cond (b := false) rfl (fun h => by cases h) (fun _ => ?_))
        exact Ok.skip ⟨[], [1, 6], [], by kernel_rfl, by decide, floor_ok rfl, rfl, rfl, rfl⟩
      · have h47' : d = 47 := of_decide_eq_true h47
        simp [h47'] at ha0
        subst ha0
        refine Ok.seq (Ok.regionW (G := fun _ => true) (C := TabP _) mixed layOk noT TabP_calm (.inl rfl) ?_)
        refine wstepN rfl rfl (by dsimp only [putV, List.set]) ?_
        refine wstepN rfl (idxT (z := 0) rfl rfl rfl hd) (by dsimp only [putV, List.set]) ?_
        first
          | refine wstepN rfl (eqC (by first | rfl | assumption) (by assumption) rfl rfl) (by dsimp only [putV, List.set]) ?_
          | refine wstepN rfl (eqC (d := 47) rfl (by assumption) rfl rfl) (by dsimp only [putV, List.set]) ?_
          | refine wstepN rfl (eqC (d := 0) rfl (by assumption) rfl rfl) (by dsimp only [putV, List.set]) ?_
          | refine wstepN rfl (eqlK (by assumption) rfl rfl) (by dsimp only [putV, List.set]) ?_
          | refine wstepN rfl rfl (by dsimp only [putV, List.set]) ?_
        refine wnil (Ok.cond (b := true) rfl (fun _ => ?_) (fun h => by cases h))
        refine Ok.regionW (G := fun _ => true) (C := TabP _) mixed layOk noT TabP_calm (.inl rfl) ?_
        refine wstepN rfl rfl (by dsimp only [putV, List.set]) ?_
        exact wnil ⟨[], [1, 6], [], by kernel_rfl, by decide, floor_ok rfl, rfl, rfl, rfl⟩
    rintro _ _ _ ⟨rfl, rfl, rfl⟩
    simp only [List.replicate, List.set]
    have hsp : P17 39 [T (d :: r)] (.sl (rowsT (splitB (d :: r)))) := .parts _ (by omega)
    have hN0 := splitB_len (d :: r)
    have hmem0 : ∀ p ∈ splitB (d :: r), p.length ≤ (d :: r).length := fun p hp => splitB_mem hp
    generalize splitB (d :: r) = l at hsp hN0 hmem0
    obtain ⟨N, hN⟩ : ∃ N, l.length = N := ⟨_, rfl⟩
    have hNs : N ≤ 1001 := by omega
    refine Ok.seq (Ok.regionW (G := fun _ => true) (C := TabP _) mixed layOk hT TabP_calm (.inl rfl) ?_)
    refine wstepN rfl rfl (by dsimp only [putV, List.set]) ?_
    first
      | refine wstepN rfl (hit39 (by first | assumption | omega)) (by dsimp only [putV, List.set]) ?_
      | refine wstepN rfl (T1_hit) (by dsimp only [putV, List.set]) ?_
      | refine wstepN rfl (TabP_use (by assumption) (by assumption)) (by dsimp only [putV, List.set]) ?_
      | refine wstepN rfl (TabP_hit (fun v' h => by cases h; rfl) (by assumption)) (by dsimp only [putV, List.set]) ?_
      | refine wstepN rfl (TabP_hit (fun v' h => by cases h; rfl) (by constructor)) (by dsimp only [putV, List.set]) ?_
      | refine wstepN rfl rfl (by dsimp only [putV, List.set]) ?_
    refine wstepN rfl rfl (by dsimp only [putV, List.set]) ?_
    refine wnil ?_
    refine Ok.seq (Ok.seq (go 10 rfl ?_))
    refine Ok.gc (bs2 := []) [] [6, 7, 8] (by kernel_rfl) (by decide) (floor_ok rfl) ?_
    refine Ok.count N (fun k ts bs => ∃ a, k ≤ N ∧ runB trimR l a0 = runB trimR (l.drop k) a ∧ a.length ≤ 1001 + 33 * k ∧ bs = [] ∧ ts = (((List.replicate 54 V.gone).set 6 (T a)).set 7 (.sl (rowsT l))).set 8 (iV (k : Int))) ?_ ?_
    · exact ⟨a0, Nat.zero_le _, rfl, by omega, rfl, rfl⟩
    rintro k _ _ ⟨a, hk, hrun, hlen, rfl, rfl⟩
    simp only [List.replicate, List.set]
    refine Ok.seq (Ok.seq ?_)
    cases hlt : decide (k < N)
    · have hge : ¬ k < N := of_decide_eq_false hlt
      rw [List.drop_of_length_le (by omega), runB] at hrun
      rw [hrun]
      dsimp only
      refine Ok.regionW (G := fun _ => true) (C := TabP _) mixed layOk noT TabP_calm (.inl rfl) ?_
      refine wstepN rfl rfl (by dsimp only [putV, List.set]) ?_
      refine wstepN rfl rfl (by dsimp only [putV, List.set]) ?_
      first
        | refine wstepN rfl (lenR (by assumption) rfl rfl) (by dsimp only [putV, List.set]) ?_
        | refine wstepN rfl rfl (by dsimp only [putV, List.set]) ?_
      first
        | refine wstepN rfl (ltT (by assumption) rfl rfl) (by dsimp only [putV, List.set]) ?_
        | refine wstepN rfl (lssK (by assumption) rfl rfl) (by dsimp only [putV, List.set]) ?_
        | refine wstepN rfl rfl (by dsimp only [putV, List.set]) ?_
      refine wnil (Ok.cond (b := false) rfl (fun h => by cases h) (fun _ => ?_))
      refine Ok.exit ?_
      refine Ok.seq ?_
      cases hbig : decide ((a.length : Int) > 128)
      · have : a.length ≤ 128 := by
          have : ¬ (a.length : Int) > 128 := of_decide_eq_false hbig
          omega
        rw [if_pos this]
        refine Ok.seq (Ok.regionW (G := fun _ => true) (C := TabP _) mixed layOk noT TabP_calm (.inl rfl) ?_)
        refine wstepN rfl rfl (by dsimp only [putV, List.set]) ?_
        first
          | refine wstepN rfl (lenT rfl rfl) (by dsimp only [putV, List.set]) ?_
          | refine wstepN rfl rfl (by dsimp only [putV, List.set]) ?_
        first
          | refine wstepN rfl (gtrK (by assumption) rfl rfl) (by dsimp only [putV, List.set]) ?_
          | refine wstepN rfl rfl (by dsimp only [putV, List.set]) ?_
        refine wnil (Ok.cond (b := false) rfl (fun h => by cases h) (fun _ => ?_))
        refine Ok.skip ?_
        exact go 10 rfl ⟨fun _ h => (by cases h), _, rfl, rfl⟩
      · have : ¬ a.length ≤ 128 := by
          have : (a.length : Int) > 128 := of_decide_eq_true hbig
          omega
        rw [if_neg this]
        refine Ok.seq (Ok.regionW (G := fun _ => true) (C := TabP _) mixed layOk noT TabP_calm (.inl rfl) ?_)
        refine wstepN rfl rfl (by dsimp only [putV, List.set]) ?_
        first
          | refine wstepN rfl (lenT rfl rfl) (by dsimp only [putV, List.set]) ?_
          | refine wstepN rfl rfl (by dsimp only [putV, List.set]) ?_
        first
          | refine wstepN rfl (gtrK (by assumption) rfl rfl) (by dsimp only [putV, List.set]) ?_
          | refine wstepN rfl rfl (by dsimp only [putV, List.set]) ?_
        refine wnil (Ok.cond (b := true) rfl (fun _ => ?_) (fun h => by cases h))
        exact go 10 rfl ⟨fun _ h => (by cases h), _, rfl, rfl⟩
    · have hlt' : k < N := of_decide_eq_true hlt
      obtain ⟨c, hc⟩ : ∃ c, l[k]? = some c := ⟨_, List.getElem?_eq_getElem (by omega)⟩
      have hget := rowsT_at hc
      have hmem := List.mem_of_getElem? hc
      rw [runB_drop hc] at hrun
      refine Ok.regionW (G := fun _ => true) (C := TabP _) mixed layOk noT TabP_calm (.inl rfl) ?_
      refine wstepN rfl rfl (by dsimp only [putV, List.set]) ?_
      refine wstepN rfl rfl (by dsimp only [putV, List.set]) ?_
      first
        | refine wstepN rfl (lenR (by assumption) rfl rfl) (by dsimp only [putV, List.set]) ?_
        | refine wstepN rfl rfl (by dsimp only [putV, List.set]) ?_
      first
        | refine wstepN rfl (ltT (by assumption) rfl rfl) (by dsimp only [putV, List.set]) ?_
        | refine wstepN rfl (lssK (by assumption) rfl rfl) (by dsimp only [putV, List.set]) ?_
        | refine wstepN rfl rfl (by dsimp only [putV, List.set]) ?_
      refine wnil (Ok.cond (b := true) rfl (fun _ => ?_) (fun h => by cases h))
      refine Ok.skip ?_
      refine Ok.after (Ok.seq (Ok.block ?_))
      refine Ok.seq (Ok.regionW (G := fun _ => true) (C := TabP _) mixed layOk noT TabP_calm (.inl rfl) ?_)
      refine wstepN rfl rfl (by dsimp only [putV, List.set]) ?_
      refine wstepN rfl rfl (by dsimp only [putV, List.set]) ?_
      first
        | refine wstepN rfl (ev_ix rfl rfl rfl (by assumption) rfl) (by dsimp only [putV, List.set]) ?_
        | refine wstepN rfl rfl (by dsimp only [putV, List.set]) ?_
      first
        | refine wstepN rfl (ldT rfl rfl) (by dsimp only [putV, List.set]) ?_
        | refine wstepN rfl rfl (by dsimp only [putV, List.set]) ?_
      refine wstepN rfl rfl (by dsimp only [putV, List.set]) ?_
      refine wnil ?_
      refine Ok.seq ?_
      by_cases e0 : c = []
      · have hq : decide (c = []) = true := decide_eq_true e0
        rw [stepB, if_pos (.inl e0)] at hrun
        refine Ok.seq (Ok.regionW (G := fun _ => true) (C := TabP _) mixed layOk noT TabP_calm (.inl rfl) ?_)
        refine wstepN rfl rfl (by dsimp only [putV, List.set]) ?_
        first
          | refine wstepN rfl (eqT (by assumption) rfl rfl) (by dsimp only [putV, List.set]) ?_
          | refine wstepN rfl rfl (by dsimp only [putV, List.set]) ?_
        refine wstepN rfl rfl (by dsimp only [putV, List.set]) ?_
        first
          | refine wskipN rfl (by dsimp only [putV, List.set]) ?_
          | refine wstepN rfl rfl (by dsimp only [putV, List.set]) ?_
        first
          | refine wskipN rfl (by dsimp only [putV, List.set]) ?_
          | refine wstepN rfl (eqT (by assumption) rfl rfl) (by dsimp only [putV, List.set]) ?_
          | refine wstepN rfl rfl (by dsimp only [putV, List.set]) ?_
        refine wstepN rfl rfl (by dsimp only [putV, List.set]) ?_
        refine wnil (Ok.cond (b := true) rfl (fun _ => ?_) (fun h => by cases h))
        refine Ok.exit ?_
        refine Ok.regionW (G := fun _ => true) (C := TabP _) mixed layOk noT TabP_calm (.inl rfl) ?_
        refine wstepN rfl rfl (by dsimp only [putV, List.set]) ?_
        first
          | refine wstepN rfl (incT (by omega) rfl rfl) (by dsimp only [putV, List.set]) ?_
          | refine wstepN rfl (addK (by assumption) rfl rfl) (by dsimp only [putV, List.set]) ?_
          | refine wstepN rfl rfl (by dsimp only [putV, List.set]) ?_
        refine wstepN rfl rfl (by dsimp only [putV, List.set]) ?_
        exact wnil ⟨[], [6, 7, 8], [], by kernel_rfl, by decide, floor_ok rfl, hlt', a, hlt', hrun, by omega, rfl, rfl⟩
      by_cases e1 : c = [46]
      · have hq : decide (c = []) = false := decide_eq_false e0
        have hq1 : decide (c = [46]) = true := decide_eq_true e1
        rw [stepB, if_pos (.inr e1)] at hrun
        refine Ok.seq (Ok.regionW (G := fun _ => true) (C := TabP _) mixed layOk noT TabP_calm (.inl rfl) ?_)
        refine wstepN rfl rfl (by dsimp only [putV, List.set]) ?_
        first
          | refine wstepN rfl (eqT (by assumption) rfl rfl) (by dsimp only [putV, List.set]) ?_
          | refine wstepN rfl rfl (by dsimp only [putV, List.set]) ?_
        refine wstepN rfl rfl (by dsimp only [putV, List.set]) ?_
        first
          | refine wskipN rfl (by dsimp only [putV, List.set]) ?_
          | refine wstepN rfl rfl (by dsimp only [putV, List.set]) ?_
        first
          | refine wskipN rfl (by dsimp only [putV, List.set]) ?_
          | refine wstepN rfl (eqT (by assumption) rfl rfl) (by dsimp only [putV, List.set]) ?_
          | refine wstepN rfl rfl (by dsimp only [putV, List.set]) ?_
        refine wstepN rfl rfl (by dsimp only [putV, List.set]) ?_
        refine wnil (Ok.cond (b := true) rfl (fun _ => ?_) (fun h => by cases h))
        refine Ok.exit ?_
        refine Ok.regionW (G := fun _ => true) (C := TabP _) mixed layOk noT TabP_calm (.inl rfl) ?_
        refine wstepN rfl rfl (by dsimp only [putV, List.set]) ?_
        first
          | refine wstepN rfl (incT (by omega) rfl rfl) (by dsimp only [putV, List.set]) ?_
          | refine wstepN rfl (addK (by assumption) rfl rfl) (by dsimp only [putV, List.set]) ?_
          | refine wstepN rfl rfl (by dsimp only [putV, List.set]) ?_
        refine wstepN rfl rfl (by dsimp only [putV, List.set]) ?_
        exact wnil ⟨[], [6, 7, 8], [], by kernel_rfl, by decide, floor_ok rfl, hlt', a, hlt', hrun, by omega, rfl, rfl⟩
      have hq : decide (c = []) = false := decide_eq_false e0
      have hq1 : decide (c = [46]) = false := decide_eq_false e1
      rw [stepB, if_neg (by rintro (h | h); exact e0 h; exact e1 h)] at hrun
      refine Ok.seq (Ok.regionW (G := fun _ => true) (C := TabP _) mixed layOk noT TabP_calm (.inl rfl) ?_)
      refine wstepN rfl rfl (by dsimp only [putV, List.set]) ?_
      first
        | refine wstepN rfl (eqT (by assumption) rfl rfl) (by dsimp only [putV, List.set]) ?_
        | refine wstepN rfl rfl (by dsimp only [putV, List.set]) ?_
      refine wstepN rfl rfl (by dsimp only [putV, List.set]) ?_
      first
        | refine wskipN rfl (by dsimp only [putV, List.set]) ?_
        | refine wstepN rfl rfl (by dsimp only [putV, List.set]) ?_
      first
        | refine wskipN rfl (by dsimp only [putV, List.set]) ?_
        | refine wstepN rfl (eqT (by assumption) rfl rfl) (by dsimp only [putV, List.set]) ?_
        | refine wstepN rfl rfl (by dsimp only [putV, List.set]) ?_
      refine wstepN rfl rfl (by dsimp only [putV, List.set]) ?_
      refine wnil (Ok.cond (b := false) rfl (fun h => by cases h) (fun _ => ?_))
      refine Ok.skip ?_
      refine Ok.seq ?_
      by_cases e2 : c = [46, 46]
      · have hq2 : decide (c = [46, 46]) = true := decide_eq_true e2
        have hpar : P17 40 [T a] (T (parentB a)) := .parent a (by omega)
        rw [if_pos e2] at hrun
        refine Ok.seq (Ok.regionW (G := fun _ => true) (C := TabP _) mixed layOk noT TabP_calm (.inl rfl) ?_)
        refine wstepN rfl rfl (by dsimp only [putV, List.set]) ?_
        first
          | refine wstepN rfl (eqT (by assumption) rfl rfl) (by dsimp only [putV, List.set]) ?_
          | refine wstepN rfl rfl (by dsimp only [putV, List.set]) ?_
        refine wnil (Ok.cond (b := true) rfl (fun _ => ?_) (fun h => by cases h))
        refine Ok.seq (Ok.regionW (G := fun _ => true) (C := TabP _) mixed layOk hT TabP_calm (.inl rfl) ?_)
        refine wstepN rfl rfl (by dsimp only [putV, List.set]) ?_
        first
          | refine wstepN rfl (hit40 (by first | assumption | omega)) (by dsimp only [putV, List.set]) ?_
          | refine wstepN rfl (T1_hit) (by dsimp only [putV, List.set]) ?_
          | refine wstepN rfl (TabP_use (by assumption) (by assumption)) (by dsimp only [putV, List.set]) ?_
          | refine wstepN rfl (TabP_hit (fun v' h => by cases h; rfl) (by assumption)) (by dsimp only [putV, List.set]) ?_
          | refine wstepN rfl (TabP_hit (fun v' h => by cases h; rfl) (by constructor)) (by dsimp only [putV, List.set]) ?_
          | refine wstepN rfl rfl (by dsimp only [putV, List.set]) ?_
        refine wstepN rfl rfl (by dsimp only [putV, List.set]) ?_
        refine wnil ?_
        refine Ok.exit ?_
        refine Ok.regionW (G := fun _ => true) (C := TabP _) mixed layOk noT TabP_calm (.inl rfl) ?_
        refine wstepN rfl rfl (by dsimp only [putV, List.set]) ?_
        first
          | refine wstepN rfl (incT (by omega) rfl rfl) (by dsimp only [putV, List.set]) ?_
          | refine wstepN rfl (addK (by assumption) rfl rfl) (by dsimp only [putV, List.set]) ?_
          | refine wstepN rfl rfl (by dsimp only [putV, List.set]) ?_
        refine wstepN rfl rfl (by dsimp only [putV, List.set]) ?_
        exact wnil ⟨[], [6, 7, 8], [], by kernel_rfl, by decide, floor_ok rfl, hlt', parentB a, hlt', hrun, by have := parentB_len a; omega, rfl, rfl⟩
      have hq2 : decide (c = [46, 46]) = false := decide_eq_false e2
      rw [if_neg e2] at hrun
      refine Ok.seq (Ok.regionW (G := fun _ => true) (C := TabP _) mixed layOk noT TabP_calm (.inl rfl) ?_)
      refine wstepN rfl rfl (by dsimp only [putV, List.set]) ?_
      first
        | refine wstepN rfl (eqT (by assumption) rfl rfl) (by dsimp only [putV, List.set]) ?_
        | refine wstepN rfl rfl (by dsimp only [putV, List.set]) ?_
      refine wnil (Ok.cond (b := false) rfl (fun h => by cases h) (fun _ => ?_))
      refine Ok.skip ?_
      refine Ok.seq ?_
      have hnm : P17 41 [T c] (bV (nameB c)) := .name c (by have := hmem0 c hmem; omega)
      refine Ok.seq (Ok.regionW (G := fun _ => true) (C := TabP _) mixed layOk hT TabP_calm (.inl rfl) ?_)
      refine wstepN rfl rfl (by dsimp only [putV, List.set]) ?_
      first
        | refine wstepN rfl (hit41 (by first | assumption | omega)) (by dsimp only [putV, List.set]) ?_
        | refine wstepN rfl (T1_hit) (by dsimp only [putV, List.set]) ?_
        | refine wstepN rfl (TabP_use (by assumption) (by assumption)) (by dsimp only [putV, List.set]) ?_
        | refine wstepN rfl (TabP_hit (fun v' h => by cases h; rfl) (by assumption)) (by dsimp only [putV, List.set]) ?_
        | refine wstepN rfl (TabP_hit (fun v' h => by cases h; rfl) (by constructor)) (by dsimp only [putV, List.set]) ?_
        | refine wstepN rfl rfl (by dsimp only [putV, List.set]) ?_
      refine wstepN rfl rfl (by dsimp only [putV, List.set]) ?_
      cases hn : nameB c
      · rw [hn] at hrun
        refine wnil (Ok.cond (b := true) rfl (fun _ => ?_) (fun h => by cases h))
        rw [hrun]
        refine Ok.seq (Ok.regionW (G := fun _ => true) (C := TabP _) mixed layOk noT TabP_calm (.inl rfl) ?_)
        refine wstepN rfl rfl (by dsimp only [putV, List.set]) ?_
        refine wstepN rfl rfl (by dsimp only [putV, List.set]) ?_
        refine wnil (Ok.ret ?_)
        exact ⟨[], [4, 5], [], by kernel_rfl, by decide, floor_ok rfl, fun _ h => (by cases h), _, rfl, rfl⟩
      · rw [hn, if_pos rfl] at hrun
        have hcl := (name_is hn).2.1
        have htl := trimR_len a
        refine wnil (Ok.cond (b := false) rfl (fun h => by cases h) (fun _ => ?_))
        refine Ok.skip ?_
        refine Ok.seq ?_
        by_cases e3 : a = [47]
        · have hq3 : decide (a = [47]) = true := decide_eq_true e3
          rw [show trimR a = [] by rw [trimR, if_pos e3]] at hrun
          refine Ok.seq (Ok.regionW (G := fun _ => true) (C := TabP _) mixed layOk noT TabP_calm (.inl rfl) ?_)
          refine wstepN rfl rfl (by dsimp only [putV, List.set]) ?_
          first
            | refine wstepN rfl (eqT (by assumption) rfl rfl) (by dsimp only [putV, List.set]) ?_
            | refine wstepN rfl rfl (by dsimp only [putV, List.set]) ?_
          refine wnil (Ok.cond (b := true) rfl (fun _ => ?_) (fun h => by cases h))
          refine Ok.regionW (G := fun _ => true) (C := TabP _) mixed layOk noT TabP_calm (.inl rfl) ?_
          refine wstepN rfl rfl (by dsimp only [putV, List.set]) ?_
          refine wnil ?_
          refine Ok.regionW (G := fun _ => true) (C := TabP _) mixed layOk noT TabP_calm (.inl rfl) ?_
          refine wstepN rfl rfl (by dsimp only [putV, List.set]) ?_
          refine wstepN rfl (addT (l := []) (l' := [47]) (by simp) rfl rfl) (by dsimp only [putV, List.set]) ?_
          refine wstepN rfl rfl (by dsimp only [putV, List.set]) ?_
          refine wstepN rfl (addT (l := [] ++ [47]) (l' := c) (by simp; omega) rfl rfl) (by dsimp only [putV, List.set]) ?_
          refine wstepN rfl rfl (by dsimp only [putV, List.set]) ?_
          refine wnil ?_
          refine Ok.regionW (G := fun _ => true) (C := TabP _) mixed layOk noT TabP_calm (.inl rfl) ?_
          refine wstepN rfl rfl (by dsimp only [putV, List.set]) ?_
          first
            | refine wstepN rfl (incT (by omega) rfl rfl) (by dsimp only [putV, List.set]) ?_
            | refine wstepN rfl (addK (by assumption) rfl rfl) (by dsimp only [putV, List.set]) ?_
            | refine wstepN rfl rfl (by dsimp only [putV, List.set]) ?_
          refine wstepN rfl rfl (by dsimp only [putV, List.set]) ?_
          refine wnil ⟨[], [6, 7, 8], [], by kernel_rfl, by decide, floor_ok rfl, hlt', [] ++ [47] ++ c, hlt', by rw [hrun]; simp, ?_, rfl, rfl⟩
          simp
          omega
        · have hq3 : decide (a = [47]) = false := decide_eq_false e3
          rw [show trimR a = a by rw [trimR, if_neg e3]] at hrun
          refine Ok.seq (Ok.regionW (G := fun _ => true) (C := TabP _) mixed layOk noT TabP_calm (.inl rfl) ?_)
          refine wstepN rfl rfl (by dsimp only [putV, List.set]) ?_
          first
            | refine wstepN rfl (eqT (by assumption) rfl rfl) (by dsimp only [putV, List.set]) ?_
            | refine wstepN rfl rfl (by dsimp only [putV, List.set]) ?_
          refine wnil (Ok.cond (b := false) rfl (fun h => by cases h) (fun _ => ?_))
          refine Ok.skip ?_
          refine Ok.regionW (G := fun _ => true) (C := TabP _) mixed layOk noT TabP_calm (.inl rfl) ?_
          refine wstepN rfl rfl (by dsimp only [putV, List.set]) ?_
          refine wstepN rfl (addT (l := a) (l' := [47]) (by simp; omega) rfl rfl) (by dsimp only [putV, List.set]) ?_
          refine wstepN rfl rfl (by dsimp only [putV, List.set]) ?_
          refine wstepN rfl (addT (l := a ++ [47]) (l' := c) (by simp; omega) rfl rfl) (by dsimp only [putV, List.set]) ?_
          refine wstepN rfl rfl (by dsimp only [putV, List.set]) ?_
          refine wnil ?_
          refine Ok.regionW (G := fun _ => true) (C := TabP _) mixed layOk noT TabP_calm (.inl rfl) ?_
          refine wstepN rfl rfl (by dsimp only [putV, List.set]) ?_
          first
            | refine wstepN rfl (incT (by omega) rfl rfl) (by dsimp only [putV, List.set]) ?_
            | refine wstepN rfl (addK (by assumption) rfl rfl) (by dsimp only [putV, List.set]) ?_
            | refine wstepN rfl rfl (by dsimp only [putV, List.set]) ?_
          refine wstepN rfl rfl (by dsimp only [putV, List.set]) ?_
          refine wnil ⟨[], [6, 7, 8], [], by kernel_rfl, by decide, floor_ok rfl, hlt', a ++ [47] ++ c, hlt', by rw [hrun]; simp, ?_, rfl, rfl⟩
          simp
          omega

theorem short15 (a b : List UInt8) : FnOk Tryd.prog 15 [T a, T b] [] (fun r bs' => fr bs' r = bV (decide ((a.length : Int) ≤ 600) && decide ((b.length : Int) ≤ 600))) := by
  refine FnOk.fast (Q := fun r => r = bV (decide ((a.length : Int) ≤ 600) && decide ((b.length : Int) ≤ 600))) layOk Tryd.func15 rfl ?_
  generalize h1 : decide ((a.length : Int) ≤ 600) = u
  generalize h2 : decide ((b.length : Int) ≤ 600) = v
  refine Ok.seq (go 10 rfl ?_)
  cases u
  · refine Ok.seq (Ok.regionW (G := fun _ => true) (C := TabP _) mixed layOk noT TabP_calm (.inl rfl) ?_)
    refine wstepN rfl rfl (by dsimp only [putV, List.set]) ?_
    first
      | refine wstepN rfl (lenT rfl rfl) (by dsimp only [putV, List.set]) ?_
      | refine wstepN rfl rfl (by dsimp only [putV, List.set]) ?_
    first
      | refine wstepN rfl (leqK (by assumption) rfl rfl) (by dsimp only [putV, List.set]) ?_
      | refine wstepN rfl rfl (by dsimp only [putV, List.set]) ?_
    refine wstepN rfl rfl (by dsimp only [putV, List.set]) ?_
    first
      | refine wskipN rfl (by dsimp only [putV, List.set]) ?_
      | refine wstepN rfl rfl (by dsimp only [putV, List.set]) ?_
    first
      | refine wskipN rfl (by dsimp only [putV, List.set]) ?_
      | refine wstepN rfl (lenT rfl rfl) (by dsimp only [putV, List.set]) ?_
      | refine wstepN rfl rfl (by dsimp only [putV, List.set]) ?_
    first
      | refine wskipN rfl (by dsimp only [putV, List.set]) ?_
      | refine wstepN rfl (leqK (by assumption) rfl rfl) (by dsimp only [putV, List.set]) ?_
      | refine wstepN rfl rfl (by dsimp only [putV, List.set]) ?_
    refine wstepN rfl rfl (by dsimp only [putV, List.set]) ?_
    refine wstepN rfl rfl (by dsimp only [putV, List.set]) ?_
    refine wnil (Ok.ret ⟨fun _ h => (by cases h), _, rfl, rfl⟩)
  · cases v
    · refine Ok.seq (Ok.regionW (G := fun _ => true) (C := TabP _) mixed layOk noT TabP_calm (.inl rfl) ?_)
      refine wstepN rfl rfl (by dsimp only [putV, List.set]) ?_
      first
        | refine wstepN rfl (lenT rfl rfl) (by dsimp only [putV, List.set]) ?_
        | refine wstepN rfl rfl (by dsimp only [putV, List.set]) ?_
      first
        | refine wstepN rfl (leqK (by assumption) rfl rfl) (by dsimp only [putV, List.set]) ?_
        | refine wstepN rfl rfl (by dsimp only [putV, List.set]) ?_
      refine wstepN rfl rfl (by dsimp only [putV, List.set]) ?_
      first
        | refine wskipN rfl (by dsimp only [putV, List.set]) ?_
        | refine wstepN rfl rfl (by dsimp only [putV, List.set]) ?_
      first
        | refine wskipN rfl (by dsimp only [putV, List.set]) ?_
        | refine wstepN rfl (lenT rfl rfl) (by dsimp only [putV, List.set]) ?_
        | refine wstepN rfl rfl (by dsimp only [putV, List.set]) ?_
      first
        | refine wskipN rfl (by dsimp only [putV, List.set]) ?_
        | refine wstepN rfl (leqK (by assumption) rfl rfl) (by dsimp only [putV, List.set]) ?_
        | refine wstepN rfl rfl (by dsimp only [putV, List.set]) ?_
      refine wstepN rfl rfl (by dsimp only [putV, List.set]) ?_
      refine wstepN rfl rfl (by dsimp only [putV, List.set]) ?_
      refine wnil (Ok.ret ⟨fun _ h => (by cases h), _, rfl, rfl⟩)
    · refine Ok.seq (Ok.regionW (G := fun _ => true) (C := TabP _) mixed layOk noT TabP_calm (.inl rfl) ?_)
      refine wstepN rfl rfl (by dsimp only [putV, List.set]) ?_
      first
        | refine wstepN rfl (lenT rfl rfl) (by dsimp only [putV, List.set]) ?_
        | refine wstepN rfl rfl (by dsimp only [putV, List.set]) ?_
      first
        | refine wstepN rfl (leqK (by assumption) rfl rfl) (by dsimp only [putV, List.set]) ?_
        | refine wstepN rfl rfl (by dsimp only [putV, List.set]) ?_
      refine wstepN rfl rfl (by dsimp only [putV, List.set]) ?_
      first
        | refine wskipN rfl (by dsimp only [putV, List.set]) ?_
        | refine wstepN rfl rfl (by dsimp only [putV, List.set]) ?_
      first
        | refine wskipN rfl (by dsimp only [putV, List.set]) ?_
        | refine wstepN rfl (lenT rfl rfl) (by dsimp only [putV, List.set]) ?_
        | refine wstepN rfl rfl (by dsimp only [putV, List.set]) ?_
      first
        | refine wskipN rfl (by dsimp only [putV, List.set]) ?_
        | refine wstepN rfl (leqK (by assumption) rfl rfl) (by dsimp only [putV, List.set]) ?_
        | refine wstepN rfl rfl (by dsimp only [putV, List.set]) ?_
      refine wstepN rfl rfl (by dsimp only [putV, List.set]) ?_
      refine wstepN rfl rfl (by dsimp only [putV, List.set]) ?_
      refine wnil (Ok.ret ⟨fun _ h => (by cases h), _, rfl, rfl⟩)

end Go.Proofs.YtiefcnghjcafbaaDoorV
