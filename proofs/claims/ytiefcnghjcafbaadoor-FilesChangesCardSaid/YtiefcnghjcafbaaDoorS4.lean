/- Part 4 of 6 of the proof: RefC, Files1, Files2, Wins, V28, V29, PlainC, Chg1. -/
import Derived.Test.YtiefcnghjcafbaaDoorS3
import Derived.Sort.Walk0
import Derived.Laws.Externs
/- The reference's cleaned paths, and the two laws. -/
namespace Go.Proofs.YtiefcnghjcafbaaDoorV
open Go Go.RowKit Go.Proofs.YtiefcnghjcafbaaDoor
set_option maxRecDepth 20000
set_option maxHeartbeats 4000000

inductive P18 : FuncId → List V → V → Prop
  | parts (s : List UInt8) (h : s.length ≤ 100000) : P18 39 [T s] (.sl (rowsT (splitB s)))
  | name (s : List UInt8) (h : s.length ≤ 100000) : P18 41 [T s] (bV (nameB s))
theorem P18_u : Uniq P18 := fun f vs v v' h h' => by cases h <;> cases h' <;> rfl
theorem P18_good : Good Tryd.prog (TabP P18) := TabP_good fun f vs v h => by
  cases h with
  | parts s h => exact ⟨rparts39 s h, rfl, rfl, Tryd.call39⟩
  | name s h => exact ⟨rname41 s h, rfl, rfl, Tryd.call41⟩

theorem rpath18 (s : List UInt8) : FnOk Tryd.prog 18 [T s] [] (fun r bs' => fr bs' r = bV (pathB s)) := by
  by_cases e : s = [47]
  · subst e; exact FnOk.fast (Q := fun r => r = bV (pathB [47])) layOk Tryd.func18 rfl (goOut 100 (r := bV true) (by kernel_rfl) rfl)
  cases s with
  | nil => exact FnOk.fast (Q := fun r => r = bV (pathB [])) layOk Tryd.func18 rfl (goOut 100 (r := bV false) (by kernel_rfl) rfl)
  | cons c r =>
  refine FnOk.fast (Q := fun q => q = bV (pathB (c :: r))) layOk Tryd.func18 rfl ?_
  have hq0 : decide (c :: r = [47]) = false := decide_eq_false e
  have hT := P18_good
  have hU := P18_u
  have h0 : (c :: r)[0]? = some c := rfl
  refine Ok.seq (go 10 rfl ?_)
  refine Ok.seq ?_
  refine Ok.seq (Ok.regionW (G := fun _ => true) (C := TabP _) mixed layOk noT TabP_calm (.inl rfl) ?_)
  refine wstepN rfl rfl (by dsimp only [putV, List.set]) ?_
  first
    | refine wstepN rfl (eqT (by assumption) rfl rfl) (by dsimp only [putV, List.set]) ?_
    | refine wstepN rfl rfl (by dsimp only [putV, List.set]) ?_
  refine wnil (Ok.cond (b := false) rfl (fun h => by cases h) (fun _ => ?_))
  refine Ok.skip ?_
  refine Ok.seq ?_
  cases h2 : decide (((c :: r).length : Int) < 2)
  · cases hl : decide (((c :: r).length : Int) > 128)
    · have hl' : (c :: r).length ≤ 128 := by
        have := of_decide_eq_false hl
        omega
      cases h47 : decide (c = 47)
      · have h47' := of_decide_eq_false h47
        rw [show pathB (c :: r) = false by simp [pathB, e, h47']]
        refine Ok.seq (Ok.regionW (G := fun _ => true) (C := TabP _) mixed layOk noT TabP_calm (.inl rfl) ?_)
        refine wstepN rfl rfl (by dsimp only [putV, List.set]) ?_
        first
          | refine wstepN rfl (lenT rfl rfl) (by dsimp only [putV, List.set]) ?_
          | refine wstepN rfl rfl (by dsimp only [putV, List.set]) ?_
        first
          | refine wstepN rfl (lssK h2 rfl rfl) (by dsimp only [putV, List.set]) ?_
          | refine wstepN rfl (ltT (by assumption) rfl rfl) (by dsimp only [putV, List.set]) ?_
          | refine wstepN rfl (lssK (by assumption) rfl rfl) (by dsimp only [putV, List.set]) ?_
          | refine wstepN rfl rfl (by dsimp only [putV, List.set]) ?_
        refine wstepN rfl rfl (by dsimp only [putV, List.set]) ?_
        first
          | refine wskipN rfl (by dsimp only [putV, List.set]) ?_
          | refine wstepN rfl rfl (by dsimp only [putV, List.set]) ?_
        first
          | refine wskipN rfl (by dsimp only [putV, List.set]) ?_
          | refine wstepN rfl (lenT rfl rfl) (by dsimp only [putV, List.set]) ?_
          | refine wstepN rfl rfl (by dsimp only [putV, List.set]) ?_
        first
          | refine wskipN rfl (by dsimp only [putV, List.set]) ?_
          | refine wstepN rfl (gtrK h128 rfl rfl) (by dsimp only [putV, List.set]) ?_
          | refine wstepN rfl (gtrK (by assumption) rfl rfl) (by dsimp only [putV, List.set]) ?_
          | refine wstepN rfl rfl (by dsimp only [putV, List.set]) ?_
        refine wstepN rfl rfl (by dsimp only [putV, List.set]) ?_
        refine wstepN rfl rfl (by dsimp only [putV, List.set]) ?_
        first
          | refine wskipN rfl (by dsimp only [putV, List.set]) ?_
          | refine wstepN rfl rfl (by dsimp only [putV, List.set]) ?_
        refine wstepN rfl (idxT (z := 0) rfl rfl rfl h0) (by dsimp only [putV, List.set]) ?_
        first
          | refine wskipN rfl (by dsimp only [putV, List.set]) ?_
          | refine wstepN rfl (neqC (d := 47) rfl (by assumption) rfl rfl) (by dsimp only [putV, List.set]) ?_
          | refine wstepN rfl (neqC (d := 0) rfl (by assumption) rfl rfl) (by dsimp only [putV, List.set]) ?_
          | refine wstepN rfl (neqK (by assumption) rfl rfl) (by dsimp only [putV, List.set]) ?_
          | refine wstepN rfl rfl (by dsimp only [putV, List.set]) ?_
        refine wstepN rfl rfl (by dsimp only [putV, List.set]) ?_
        refine wnil (Ok.cond (b := true) rfl (fun _ => ?_) (fun h => by cases h))
        exact go 10 rfl ⟨fun _ h => (by cases h), _, rfl, rfl⟩
      · obtain rfl := of_decide_eq_true h47
        rw [show pathB (47 :: r) = (splitB r).all nameB by simp only [pathB, e, hl']; simp]
        refine Ok.seq (Ok.regionW (G := fun _ => true) (C := TabP _) mixed layOk noT TabP_calm (.inl rfl) ?_)
        refine wstepN rfl rfl (by dsimp only [putV, List.set]) ?_
        first
          | refine wstepN rfl (lenT rfl rfl) (by dsimp only [putV, List.set]) ?_
          | refine wstepN rfl rfl (by dsimp only [putV, List.set]) ?_
        first
          | refine wstepN rfl (lssK h2 rfl rfl) (by dsimp only [putV, List.set]) ?_
          | refine wstepN rfl (ltT (by assumption) rfl rfl) (by dsimp only [putV, List.set]) ?_
          | refine wstepN rfl (lssK (by assumption) rfl rfl) (by dsimp only [putV, List.set]) ?_
          | refine wstepN rfl rfl (by dsimp only [putV, List.set]) ?_
        refine wstepN rfl rfl (by dsimp only [putV, List.set]) ?_
        first
          | refine wskipN rfl (by dsimp only [putV, List.set]) ?_
          | refine wstepN rfl rfl (by dsimp only [putV, List.set]) ?_
        first
          | refine wskipN rfl (by dsimp only [putV, List.set]) ?_
          | refine wstepN rfl (lenT rfl rfl) (by dsimp only [putV, List.set]) ?_
          | refine wstepN rfl rfl (by dsimp only [putV, List.set]) ?_
        first
          | refine wskipN rfl (by dsimp only [putV, List.set]) ?_
          | refine wstepN rfl (gtrK h128 rfl rfl) (by dsimp only [putV, List.set]) ?_
          | refine wstepN rfl (gtrK (by assumption) rfl rfl) (by dsimp only [putV, List.set]) ?_
          | refine wstepN rfl rfl (by dsimp only [putV, List.set]) ?_
        refine wstepN rfl rfl (by dsimp only [putV, List.set]) ?_
        refine wstepN rfl rfl (by dsimp only [putV, List.set]) ?_
        first
          | refine wskipN rfl (by dsimp only [putV, List.set]) ?_
          | refine wstepN rfl rfl (by dsimp only [putV, List.set]) ?_
        refine wstepN rfl (idxT (z := 0) rfl rfl rfl h0) (by dsimp only [putV, List.set]) ?_
        first
          | refine wskipN rfl (by dsimp only [putV, List.set]) ?_
          | refine wstepN rfl (neqC (d := 47) rfl (by assumption) rfl rfl) (by dsimp only [putV, List.set]) ?_
          | refine wstepN rfl (neqC (d := 0) rfl (by assumption) rfl rfl) (by dsimp only [putV, List.set]) ?_
          | refine wstepN rfl (neqK (by assumption) rfl rfl) (by dsimp only [putV, List.set]) ?_
          | refine wstepN rfl rfl (by dsimp only [putV, List.set]) ?_
        refine wstepN rfl rfl (by dsimp only [putV, List.set]) ?_
        refine wnil (Ok.cond (b := false) rfl (fun h => by cases h) (fun _ => ?_))
        refine Ok.skip ?_
        have hsp : P18 39 [T r] (.sl (rowsT (splitB r))) := .parts r (by simp at hl'; omega)
        have hN0 := splitB_len r
        have hmem0 : ∀ p ∈ splitB r, p.length ≤ r.length := fun p hp => splitB_mem hp
        generalize splitB r = l at hsp hN0 hmem0
        obtain ⟨N, hN⟩ : ∃ N, l.length = N := ⟨_, rfl⟩
        have hNs : N ≤ 200 := by simp at hl'; omega
        refine Ok.seq (Ok.regionW (G := fun _ => true) (C := TabP _) mixed layOk hT TabP_calm (.inl rfl) ?_)
        refine wstepN rfl rfl (by dsimp only [putV, List.set]) ?_
        refine wstepN rfl (cutFromR (l' := r) (a := 1) (by simp) rfl rfl rfl rfl) (by dsimp only [putV, List.set]) ?_
        first
          | refine wstepN rfl (hit39 (by first | assumption | omega)) (by dsimp only [putV, List.set]) ?_
          | refine wstepN rfl (T1_hit) (by dsimp only [putV, List.set]) ?_
          | refine wstepN rfl (TabP_use (by assumption) (by assumption)) (by dsimp only [putV, List.set]) ?_
          | refine wstepN rfl (TabP_hit (fun v' h => by cases h; rfl) (by assumption)) (by dsimp only [putV, List.set]) ?_
          | refine wstepN rfl (TabP_hit (fun v' h => by cases h; rfl) (by constructor)) (by dsimp only [putV, List.set]) ?_
          | refine wstepN rfl rfl (by dsimp only [putV, List.set]) ?_
        refine wstepN rfl rfl (by dsimp only [putV, List.set]) ?_
        refine wnil ?_
        refine Ok.seq (Ok.seq (go 10 rfl ?_))
        refine Ok.gc (bs2 := []) [] [3, 4] (by kernel_rfl) (by decide) (floor_ok rfl) ?_
        refine Ok.count N (fun k ts bs => k ≤ N ∧ (l.take k).all nameB = true ∧ bs = [] ∧ ts = ((List.replicate 35 V.gone).set 3 (.sl (rowsT l))).set 4 (iV (k : Int))) ?_ ?_
        · exact ⟨Nat.zero_le _, rfl, rfl, rfl⟩
        rintro k _ _ ⟨hk, hall, rfl, rfl⟩
        simp only [List.replicate, List.set]
        refine Ok.seq (Ok.seq ?_)
        cases hlt : decide (k < N)
        · refine Ok.regionW (G := fun _ => true) (C := TabP _) mixed layOk noT TabP_calm (.inl rfl) ?_
          refine wstepN rfl rfl (by dsimp only [putV, List.set]) ?_
          refine wstepN rfl rfl (by dsimp only [putV, List.set]) ?_
          first
            | refine wstepN rfl (lenR (by assumption) rfl rfl) (by dsimp only [putV, List.set]) ?_
            | refine wstepN rfl rfl (by dsimp only [putV, List.set]) ?_
          first
            | refine wstepN rfl (ltT hlt rfl rfl) (by dsimp only [putV, List.set]) ?_
            | refine wstepN rfl (ltT (by assumption) rfl rfl) (by dsimp only [putV, List.set]) ?_
            | refine wstepN rfl (lssK (by assumption) rfl rfl) (by dsimp only [putV, List.set]) ?_
            | refine wstepN rfl rfl (by dsimp only [putV, List.set]) ?_
          refine wnil (Ok.cond (b := false) rfl (fun h => by cases h) (fun _ => ?_))
          refine Ok.exit ?_
          have : ¬ k < N := of_decide_eq_false hlt
          rw [List.take_of_length_le (by omega)] at hall
          rw [hall]
          exact go 10 rfl ⟨fun _ h => (by cases h), _, rfl, rfl⟩
        · have hlt' : k < N := of_decide_eq_true hlt
          obtain ⟨c, hc⟩ : ∃ c, l[k]? = some c := ⟨_, List.getElem?_eq_getElem (by omega)⟩
          have hget := rowsT_at hc
          have hnext := take_all (p := nameB) hc
          have hmem := List.mem_of_getElem? hc
          have hnm : P18 41 [T c] (bV (nameB c)) := .name c (by have := hmem0 c hmem; simp at hl'; omega)
          refine Ok.regionW (G := fun _ => true) (C := TabP _) mixed layOk noT TabP_calm (.inl rfl) ?_
          refine wstepN rfl rfl (by dsimp only [putV, List.set]) ?_
          refine wstepN rfl rfl (by dsimp only [putV, List.set]) ?_
          first
            | refine wstepN rfl (lenR (by assumption) rfl rfl) (by dsimp only [putV, List.set]) ?_
            | refine wstepN rfl rfl (by dsimp only [putV, List.set]) ?_
          first
            | refine wstepN rfl (ltT hlt rfl rfl) (by dsimp only [putV, List.set]) ?_
            | refine wstepN rfl (ltT (by assumption) rfl rfl) (by dsimp only [putV, List.set]) ?_
            | refine wstepN rfl (lssK (by assumption) rfl rfl) (by dsimp only [putV, List.set]) ?_
            | refine wstepN rfl rfl (by dsimp only [putV, List.set]) ?_
          refine wnil (Ok.cond (b := true) rfl (fun _ => ?_) (fun h => by cases h))
          refine Ok.skip ?_
          refine Ok.after (Ok.seq (Ok.block (Ok.seq ?_)))
          refine Ok.regionW (G := fun _ => true) (C := TabP _) mixed layOk hT TabP_calm (.inl rfl) ?_
          refine wstepN rfl rfl (by dsimp only [putV, List.set]) ?_
          refine wstepN rfl rfl (by dsimp only [putV, List.set]) ?_
          first
            | refine wstepN rfl (ev_ix rfl rfl rfl (by assumption) rfl) (by dsimp only [putV, List.set]) ?_
            | refine wstepN rfl rfl (by dsimp only [putV, List.set]) ?_
          first
            | refine wstepN rfl (ldT rfl rfl) (by dsimp only [putV, List.set]) ?_
            | refine wstepN rfl (ldE rfl rfl) (by dsimp only [putV, List.set]) ?_
            | refine wstepN rfl rfl (by dsimp only [putV, List.set]) ?_
          first
            | refine wstepN rfl (hit41 (by first | assumption | omega)) (by dsimp only [putV, List.set]) ?_
            | refine wstepN rfl (T1_hit) (by dsimp only [putV, List.set]) ?_
            | refine wstepN rfl (TabP_use (by assumption) (by assumption)) (by dsimp only [putV, List.set]) ?_
            | refine wstepN rfl (TabP_hit (fun v' h => by cases h; rfl) (by assumption)) (by dsimp only [putV, List.set]) ?_
            | refine wstepN rfl (TabP_hit (fun v' h => by cases h; rfl) (by constructor)) (by dsimp only [putV, List.set]) ?_
            | refine wstepN rfl rfl (by dsimp only [putV, List.set]) ?_
          refine wstepN rfl rfl (by dsimp only [putV, List.set]) ?_
          cases hn : nameB c
          · refine wnil (Ok.cond (b := true) rfl (fun _ => ?_) (fun h => by cases h))
            rw [show l.all nameB = false from List.all_eq_false.2 ⟨c, hmem, by simp [hn]⟩]
            refine Ok.seq (Ok.regionW (G := fun _ => true) (C := TabP _) mixed layOk noT TabP_calm (.inl rfl) ?_)
            refine wstepN rfl rfl (by dsimp only [putV, List.set]) ?_
            refine wnil (Ok.ret ?_)
            exact ⟨[], [2], [], by kernel_rfl, by decide, floor_ok rfl, fun _ h => (by cases h), _, rfl, rfl⟩
          · refine wnil (Ok.cond (b := false) rfl (fun h => by cases h) (fun _ => ?_))
            refine Ok.skip ?_
            refine Ok.regionW (G := fun _ => true) (C := TabP _) mixed layOk noT TabP_calm (.inl rfl) ?_
            refine wstepN rfl rfl (by dsimp only [putV, List.set]) ?_
            first
              | refine wstepN rfl (incT (by omega) rfl rfl) (by dsimp only [putV, List.set]) ?_
              | refine wstepN rfl (addK (by assumption) rfl rfl) (by dsimp only [putV, List.set]) ?_
              | refine wstepN rfl rfl (by dsimp only [putV, List.set]) ?_
            refine wstepN rfl rfl (by dsimp only [putV, List.set]) ?_
            refine wnil ?_
            exact ⟨[], [3, 4], [], by kernel_rfl, by decide, floor_ok rfl, hlt', hlt', by rw [hnext, hall, hn]; rfl, rfl, rfl⟩
    · have hl' : ¬ (c :: r).length ≤ 128 := by
        have := of_decide_eq_true hl
        omega
      rw [show pathB (c :: r) = false by simp only [pathB, e, hl']; simp]
      refine Ok.seq (Ok.regionW (G := fun _ => true) (C := TabP _) mixed layOk noT TabP_calm (.inl rfl) ?_)
      refine wstepN rfl rfl (by dsimp only [putV, List.set]) ?_
      first
        | refine wstepN rfl (lenT rfl rfl) (by dsimp only [putV, List.set]) ?_
        | refine wstepN rfl rfl (by dsimp only [putV, List.set]) ?_
      first
        | refine wstepN rfl (lssK h2 rfl rfl) (by dsimp only [putV, List.set]) ?_
        | refine wstepN rfl (ltT (by assumption) rfl rfl) (by dsimp only [putV, List.set]) ?_
        | refine wstepN rfl (lssK (by assumption) rfl rfl) (by dsimp only [putV, List.set]) ?_
        | refine wstepN rfl rfl (by dsimp only [putV, List.set]) ?_
      refine wstepN rfl rfl (by dsimp only [putV, List.set]) ?_
      first
        | refine wskipN rfl (by dsimp only [putV, List.set]) ?_
        | refine wstepN rfl rfl (by dsimp only [putV, List.set]) ?_
      first
        | refine wskipN rfl (by dsimp only [putV, List.set]) ?_
        | refine wstepN rfl (lenT rfl rfl) (by dsimp only [putV, List.set]) ?_
        | refine wstepN rfl rfl (by dsimp only [putV, List.set]) ?_
      first
        | refine wskipN rfl (by dsimp only [putV, List.set]) ?_
        | refine wstepN rfl (gtrK h128 rfl rfl) (by dsimp only [putV, List.set]) ?_
        | refine wstepN rfl (gtrK (by assumption) rfl rfl) (by dsimp only [putV, List.set]) ?_
        | refine wstepN rfl rfl (by dsimp only [putV, List.set]) ?_
      refine wstepN rfl rfl (by dsimp only [putV, List.set]) ?_
      refine wstepN rfl rfl (by dsimp only [putV, List.set]) ?_
      first
        | refine wskipN rfl (by dsimp only [putV, List.set]) ?_
        | refine wstepN rfl rfl (by dsimp only [putV, List.set]) ?_
      first
        | refine wskipN rfl (by dsimp only [putV, List.set]) ?_
        | refine wstepN rfl (idxT rfl rfl rfl (by assumption)) (by dsimp only [putV, List.set]) ?_
        | refine wstepN rfl rfl (by dsimp only [putV, List.set]) ?_
      first
        | refine wskipN rfl (by dsimp only [putV, List.set]) ?_
        | refine wstepN rfl (neqC (d := 47) rfl (by assumption) rfl rfl) (by dsimp only [putV, List.set]) ?_
        | refine wstepN rfl (neqC (d := 0) rfl (by assumption) rfl rfl) (by dsimp only [putV, List.set]) ?_
        | refine wstepN rfl (neqK (by assumption) rfl rfl) (by dsimp only [putV, List.set]) ?_
        | refine wstepN rfl rfl (by dsimp only [putV, List.set]) ?_
      refine wstepN rfl rfl (by dsimp only [putV, List.set]) ?_
      refine wnil (Ok.cond (b := true) rfl (fun _ => ?_) (fun h => by cases h))
      exact go 10 rfl ⟨fun _ h => (by cases h), _, rfl, rfl⟩
  · have hl' : r = [] := by
      have := of_decide_eq_true h2
      cases r with
      | nil => rfl
      | cons d r => simp at this; omega
    subst hl'
    have hc : ¬ c = 47 := fun h => e (by rw [h])
    rw [show pathB [c] = false by simp [pathB, hc]]
    refine Ok.seq (Ok.regionW (G := fun _ => true) (C := TabP _) mixed layOk noT TabP_calm (.inl rfl) ?_)
    refine wstepN rfl rfl (by dsimp only [putV, List.set]) ?_
    first
      | refine wstepN rfl (lenT rfl rfl) (by dsimp only [putV, List.set]) ?_
      | refine wstepN rfl rfl (by dsimp only [putV, List.set]) ?_
    first
      | refine wstepN rfl (lssK h2 rfl rfl) (by dsimp only [putV, List.set]) ?_
      | refine wstepN rfl (ltT (by assumption) rfl rfl) (by dsimp only [putV, List.set]) ?_
      | refine wstepN rfl (lssK (by assumption) rfl rfl) (by dsimp only [putV, List.set]) ?_
      | refine wstepN rfl rfl (by dsimp only [putV, List.set]) ?_
    refine wstepN rfl rfl (by dsimp only [putV, List.set]) ?_
    first
      | refine wskipN rfl (by dsimp only [putV, List.set]) ?_
      | refine wstepN rfl rfl (by dsimp only [putV, List.set]) ?_
    first
      | refine wskipN rfl (by dsimp only [putV, List.set]) ?_
      | refine wstepN rfl (lenT rfl rfl) (by dsimp only [putV, List.set]) ?_
      | refine wstepN rfl rfl (by dsimp only [putV, List.set]) ?_
    first
      | refine wskipN rfl (by dsimp only [putV, List.set]) ?_
      | refine wstepN rfl (gtrK h128 rfl rfl) (by dsimp only [putV, List.set]) ?_
      | refine wstepN rfl (gtrK (by assumption) rfl rfl) (by dsimp only [putV, List.set]) ?_
      | refine wstepN rfl rfl (by dsimp only [putV, List.set]) ?_
    refine wstepN rfl rfl (by dsimp only [putV, List.set]) ?_
    refine wstepN rfl rfl (by dsimp only [putV, List.set]) ?_
    first
      | refine wskipN rfl (by dsimp only [putV, List.set]) ?_
      | refine wstepN rfl rfl (by dsimp only [putV, List.set]) ?_
    first
      | refine wskipN rfl (by dsimp only [putV, List.set]) ?_
      | refine wstepN rfl (idxT rfl rfl rfl (by assumption)) (by dsimp only [putV, List.set]) ?_
      | refine wstepN rfl rfl (by dsimp only [putV, List.set]) ?_
    first
      | refine wskipN rfl (by dsimp only [putV, List.set]) ?_
      | refine wstepN rfl (neqC (d := 47) rfl (by assumption) rfl rfl) (by dsimp only [putV, List.set]) ?_
      | refine wstepN rfl (neqC (d := 0) rfl (by assumption) rfl rfl) (by dsimp only [putV, List.set]) ?_
      | refine wstepN rfl (neqK (by assumption) rfl rfl) (by dsimp only [putV, List.set]) ?_
      | refine wstepN rfl rfl (by dsimp only [putV, List.set]) ?_
    refine wstepN rfl rfl (by dsimp only [putV, List.set]) ?_
    refine wnil (Ok.cond (b := true) rfl (fun _ => ?_) (fun h => by cases h))
    exact go 10 rfl ⟨fun _ h => (by cases h), _, rfl, rfl⟩

inductive P17 : FuncId → List V → V → Prop
  | parts (s : List UInt8) (h : s.length ≤ 100000) : P17 39 [T s] (.sl (rowsT (splitB s)))
  | name (s : List UInt8) (h : s.length ≤ 100000) : P17 41 [T s] (bV (nameB s))
  | path (s : List UInt8) (h : s.length ≤ 100000) : P17 18 [T s] (bV (pathB s))
  | parent (s : List UInt8) (h : s.length ≤ 100000) : P17 40 [T s] (T (parentB s))
theorem P17_u : Uniq P17 := fun f vs v v' h h' => by cases h <;> cases h' <;> rfl
theorem P17_good : Good Tryd.prog (TabP P17) := TabP_good fun f vs v h => by
  cases h with
  | parts s h => exact ⟨rparts39 s h, rfl, rfl, Tryd.call39⟩
  | name s h => exact ⟨rname41 s h, rfl, rfl, Tryd.call41⟩
  | path s h => exact ⟨rpath18 s, rfl, rfl, Tryd.call18⟩
  | parent s h => exact ⟨rparent40 s h, rfl, rfl, Tryd.call40⟩

theorem trimR_len (s : List UInt8) : (trimR s).length ≤ s.length := by
  unfold trimR
  split
  · simp
  · exact Nat.le_refl _

theorem rclean17 (cwd path : List UInt8) (h1 : cwd.length ≤ 1000) (h2 : path.length ≤ 1000) : FnOk Tryd.prog 17 [T cwd, T path] [] (fun r bs' => fr bs' r = .tup [T (cleanB trimR cwd path).1, iV (cleanB trimR cwd path).2]) := by
  refine FnOk.fast (Q := fun r => r = .tup [T (cleanB trimR cwd path).1, iV (cleanB trimR cwd path).2]) layOk Tryd.func17 rfl ?_
  have hT := P17_good
  have hU := P17_u
  have hpa : P17 18 [T cwd] (bV (pathB cwd)) := .path cwd (by omega)
  refine Ok.seq (go 10 rfl ?_)
  refine Ok.seq ?_
  cases hc : pathB cwd
  · rw [hc] at hpa
    rw [show cleanB trimR cwd path = ([], 10) by simp [cleanB, hc]]
    refine Ok.seq (Ok.regionW (G := fun _ => true) (C := TabP _) mixed layOk hT TabP_calm (.inl rfl) ?_)
    refine wstepN rfl rfl (by dsimp only [putV, List.set]) ?_
    first
      | refine wstepN rfl (hit18 (by first | assumption | omega)) (by dsimp only [putV, List.set]) ?_
      | refine wstepN rfl (T1_hit) (by dsimp only [putV, List.set]) ?_
      | refine wstepN rfl (TabP_use (by assumption) (by assumption)) (by dsimp only [putV, List.set]) ?_
      | refine wstepN rfl (TabP_hit (fun v' h => by cases h; rfl) (by assumption)) (by dsimp only [putV, List.set]) ?_
      | refine wstepN rfl (TabP_hit (fun v' h => by cases h; rfl) (by constructor)) (by dsimp only [putV, List.set]) ?_
      | refine wstepN rfl rfl (by dsimp only [putV, List.set]) ?_
    refine wstepN rfl rfl (by dsimp only [putV, List.set]) ?_
    refine wnil (Ok.cond (b := true) rfl (fun _ => ?_) (fun h => by cases h))
    exact go 10 rfl ⟨fun _ h => (by cases h), _, rfl, rfl⟩
  rw [hc] at hpa
  refine Ok.seq (Ok.regionW (G := fun _ => true) (C := TabP _) mixed layOk hT TabP_calm (.inl rfl) ?_)
  refine wstepN rfl rfl (by dsimp only [putV, List.set]) ?_
  first
    | refine wstepN rfl (hit18 (by first | assumption | omega)) (by dsimp only [putV, List.set]) ?_
    | refine wstepN rfl (T1_hit) (by dsimp only [putV, List.set]) ?_
    | refine wstepN rfl (TabP_use (by assumption) (by assumption)) (by dsimp only [putV, List.set]) ?_
    | refine wstepN rfl (TabP_hit (fun v' h => by cases h; rfl) (by assumption)) (by dsimp only [putV, List.set]) ?_
    | refine wstepN rfl (TabP_hit (fun v' h => by cases h; rfl) (by constructor)) (by dsimp only [putV, List.set]) ?_
    | refine wstepN rfl rfl (by dsimp only [putV, List.set]) ?_
  refine wstepN rfl rfl (by dsimp only [putV, List.set]) ?_
  refine wnil (Ok.cond (b := false) rfl (fun h => by cases h) (fun _ => ?_))
  refine Ok.skip ?_
  cases path with
  | nil =>
    have hq : decide (([] : List UInt8) = []) = true := rfl
    rw [show cleanB trimR cwd [] = ([], 8) by simp [cleanB, hc]]
    refine Ok.seq ?_
    refine Ok.seq (Ok.regionW (G := fun _ => true) (C := TabP _) mixed layOk noT TabP_calm (.inl rfl) ?_)
    refine wstepN rfl rfl (by dsimp only [putV, List.set]) ?_
    first
      | refine wstepN rfl (eqT (by assumption) rfl rfl) (by dsimp only [putV, List.set]) ?_
      | refine wstepN rfl rfl (by dsimp only [putV, List.set]) ?_
    refine wnil (Ok.cond (b := true) rfl (fun _ => ?_) (fun h => by cases h))
    exact go 10 rfl ⟨fun _ h => (by cases h), _, rfl, rfl⟩
  | cons d r =>
    have hq : decide (d :: r = []) = false := by simp
    refine Ok.seq ?_
    refine Ok.seq (Ok.regionW (G := fun _ => true) (C := TabP _) mixed layOk noT TabP_calm (.inl rfl) ?_)
    refine wstepN rfl rfl (by dsimp only [putV, List.set]) ?_
    first
      | refine wstepN rfl (eqT (by assumption) rfl rfl) (by dsimp only [putV, List.set]) ?_
      | refine wstepN rfl rfl (by dsimp only [putV, List.set]) ?_
    refine wnil (Ok.cond (b := false) rfl (fun h => by cases h) (fun _ => ?_))
    refine Ok.skip ?_
    refine Ok.seq (Ok.regionW (G := fun _ => true) (C := TabP _) mixed layOk noT TabP_calm (.inl rfl) ?_)
    refine wstepN rfl rfl (by dsimp only [putV, List.set]) ?_
    refine wstepN rfl rfl (by dsimp only [putV, List.set]) ?_
    refine wnil ?_
    have hd : (d :: r)[0]? = some d := rfl
    obtain ⟨a0, ha0⟩ : ∃ a0, (if (d :: r).head? = some 47 then [47] else cwd) = a0 := ⟨_, rfl⟩
    have hal : a0.length ≤ 1001 := by
      rw [← ha0]
      split
      · simp
      · omega
    have hres : cleanB trimR cwd (d :: r) = match runB trimR (splitB (d :: r)) a0 with
        | none => ([], 10)
        | some a => if a.length ≤ 128 then (a, 0) else ([], 3) := by rw [cleanB, if_pos hc, if_neg (by simp), ha0]; try rfl
    rw [hres]
    refine Ok.seq (Ok.mono (Q := fun e ts bs => e = .normal ∧ bs = [] ∧ ts = ((List.replicate 54 V.gone).set 1 (T (d :: r))).set 6 (T a0)) (Ok.after ?_) ?_)
    · cases h47 : decide (d = 47)
      · have h47' : ¬ d = 47 := of_decide_eq_false h47
        simp [h47'] at ha0
        subst ha0
        refine Ok.seq (Ok.regionW (G := fun _ => true) (C := TabP _) mixed layOk noT TabP_calm (.inl rfl) ?_)
        refine wstepN rfl rfl (by dsimp only [putV, List.set]) ?_
        refine wstepN rfl (idxT (z := 0) rfl rfl rfl hd) (by dsimp only [putV, List.set]) ?_
        first
          | refine wstepN rfl (eqC (by first | rfl | assumption) (by assumption) rfl rfl) (by dsimp only [putV, List.set]) ?_
          | refine wstepN rfl (eqC (d := 47) rfl (by assumption) rfl rfl) (by dsimp only [putV, List.set]) ?_
          | refine wstepN rfl (eqC (d := 0) rfl (by assumption) rfl rfl) (by dsimp only [putV, List.set]) ?_
          | refine wstepN rfl (eqlK (by assumption) rfl rfl) (by dsimp only [putV, List.set]) ?_
          | refine wstepN rfl rfl (by dsimp only [putV, List.set]) ?_
        refine wnil (Ok.cond (b := false) rfl (fun h => by cases h) (fun _ => ?_))
        exact Ok.skip ⟨[], [1, 6], [], by kernel_rfl, by decide, floor_ok rfl, rfl, rfl, rfl⟩
      · have h47' : d = 47 := of_decide_eq_true h47
        simp [h47'] at ha0
        subst ha0
        refine Ok.seq (Ok.regionW (G := fun _ => true) (C := TabP _) mixed layOk noT TabP_calm (.inl rfl) ?_)
        refine wstepN rfl rfl (by dsimp only [putV, List.set]) ?_
        refine wstepN rfl (idxT (z := 0) rfl rfl rfl hd) (by dsimp only [putV, List.set]) ?_
        first
          | refine wstepN rfl (eqC (by first | rfl | assumption) (by assumption) rfl rfl) (by dsimp only [putV, List.set]) ?_
          | refine wstepN rfl (eqC (d := 47) rfl (by assumption) rfl rfl) (by dsimp only [putV, List.set]) ?_
          | refine wstepN rfl (eqC (d := 0) rfl (by assumption) rfl rfl) (by dsimp only [putV, List.set]) ?_
          | refine wstepN rfl (eqlK (by assumption) rfl rfl) (by dsimp only [putV, List.set]) ?_
          | refine wstepN rfl rfl (by dsimp only [putV, List.set]) ?_
        refine wnil (Ok.cond (b := true) rfl (fun _ => ?_) (fun h => by cases h))
        refine Ok.regionW (G := fun _ => true) (C := TabP _) mixed layOk noT TabP_calm (.inl rfl) ?_
        refine wstepN rfl rfl (by dsimp only [putV, List.set]) ?_
        exact wnil ⟨[], [1, 6], [], by kernel_rfl, by decide, floor_ok rfl, rfl, rfl, rfl⟩
    rintro _ _ _ ⟨rfl, rfl, rfl⟩
    simp only [List.replicate, List.set]
    have hsp : P17 39 [T (d :: r)] (.sl (rowsT (splitB (d :: r)))) := .parts _ (by omega)
    have hN0 := splitB_len (d :: r)
    have hmem0 : ∀ p ∈ splitB (d :: r), p.length ≤ (d :: r).length := fun p hp => splitB_mem hp
    generalize splitB (d :: r) = l at hsp hN0 hmem0
    obtain ⟨N, hN⟩ : ∃ N, l.length = N := ⟨_, rfl⟩
    have hNs : N ≤ 1001 := by omega
    refine Ok.seq (Ok.regionW (G := fun _ => true) (C := TabP _) mixed layOk hT TabP_calm (.inl rfl) ?_)
    refine wstepN rfl rfl (by dsimp only [putV, List.set]) ?_
    first
      | refine wstepN rfl (hit39 (by first | assumption | omega)) (by dsimp only [putV, List.set]) ?_
      | refine wstepN rfl (T1_hit) (by dsimp only [putV, List.set]) ?_
      | refine wstepN rfl (TabP_use (by assumption) (by assumption)) (by dsimp only [putV, List.set]) ?_
      | refine wstepN rfl (TabP_hit (fun v' h => by cases h; rfl) (by assumption)) (by dsimp only [putV, List.set]) ?_
      | refine wstepN rfl (TabP_hit (fun v' h => by cases h; rfl) (by constructor)) (by dsimp only [putV, List.set]) ?_
      | refine wstepN rfl rfl (by dsimp only [putV, List.set]) ?_
    refine wstepN rfl rfl (by dsimp only [putV, List.set]) ?_
    refine wnil ?_
    refine Ok.seq (Ok.seq (go 10 rfl ?_))
    refine Ok.gc (bs2 := []) [] [6, 7, 8] (by kernel_rfl) (by decide) (floor_ok rfl) ?_
    refine Ok.count N (fun k ts bs => ∃ a, k ≤ N ∧ runB trimR l a0 = runB trimR (l.drop k) a ∧ a.length ≤ 1001 + 33 * k ∧ bs = [] ∧ ts = (((List.replicate 54 V.gone).set 6 (T a)).set 7 (.sl (rowsT l))).set 8 (iV (k : Int))) ?_ ?_
    · exact ⟨a0, Nat.zero_le _, rfl, by omega, rfl, rfl⟩
    rintro k _ _ ⟨a, hk, hrun, hlen, rfl, rfl⟩
    simp only [List.replicate, List.set]
    refine Ok.seq (Ok.seq ?_)
    cases hlt : decide (k < N)
    · have hge : ¬ k < N := of_decide_eq_false hlt
      rw [List.drop_of_length_le (by omega), runB] at hrun
      rw [hrun]
      dsimp only
      refine Ok.regionW (G := fun _ => true) (C := TabP _) mixed layOk noT TabP_calm (.inl rfl) ?_
      refine wstepN rfl rfl (by dsimp only [putV, List.set]) ?_
      refine wstepN rfl rfl (by dsimp only [putV, List.set]) ?_
      first
        | refine wstepN rfl (lenR (by assumption) rfl rfl) (by dsimp only [putV, List.set]) ?_
        | refine wstepN rfl rfl (by dsimp only [putV, List.set]) ?_
      first
        | refine wstepN rfl (ltT hlt rfl rfl) (by dsimp only [putV, List.set]) ?_
        | refine wstepN rfl (ltT (by assumption) rfl rfl) (by dsimp only [putV, List.set]) ?_
        | refine wstepN rfl (lssK (by assumption) rfl rfl) (by dsimp only [putV, List.set]) ?_
        | refine wstepN rfl rfl (by dsimp only [putV, List.set]) ?_
      refine wnil (Ok.cond (b := false) rfl (fun h => by cases h) (fun _ => ?_))
      refine Ok.exit ?_
      refine Ok.seq ?_
      cases hbig : decide ((a.length : Int) > 128)
      · have : a.length ≤ 128 := by
          have : ¬ (a.length : Int) > 128 := of_decide_eq_false hbig
          omega
        rw [if_pos this]
        refine Ok.seq (Ok.regionW (G := fun _ => true) (C := TabP _) mixed layOk noT TabP_calm (.inl rfl) ?_)
        refine wstepN rfl rfl (by dsimp only [putV, List.set]) ?_
        first
          | refine wstepN rfl (lenT rfl rfl) (by dsimp only [putV, List.set]) ?_
          | refine wstepN rfl rfl (by dsimp only [putV, List.set]) ?_
        first
          | refine wstepN rfl (gtrK h128 rfl rfl) (by dsimp only [putV, List.set]) ?_
          | refine wstepN rfl (gtrK (by assumption) rfl rfl) (by dsimp only [putV, List.set]) ?_
          | refine wstepN rfl rfl (by dsimp only [putV, List.set]) ?_
        refine wnil (Ok.cond (b := false) rfl (fun h => by cases h) (fun _ => ?_))
        refine Ok.skip ?_
        exact go 10 rfl ⟨fun _ h => (by cases h), _, rfl, rfl⟩
      · have : ¬ a.length ≤ 128 := by
          have : (a.length : Int) > 128 := of_decide_eq_true hbig
          omega
        rw [if_neg this]
        refine Ok.seq (Ok.regionW (G := fun _ => true) (C := TabP _) mixed layOk noT TabP_calm (.inl rfl) ?_)
        refine wstepN rfl rfl (by dsimp only [putV, List.set]) ?_
        first
          | refine wstepN rfl (lenT rfl rfl) (by dsimp only [putV, List.set]) ?_
          | refine wstepN rfl rfl (by dsimp only [putV, List.set]) ?_
        first
          | refine wstepN rfl (gtrK h128 rfl rfl) (by dsimp only [putV, List.set]) ?_
          | refine wstepN rfl (gtrK (by assumption) rfl rfl) (by dsimp only [putV, List.set]) ?_
          | refine wstepN rfl rfl (by dsimp only [putV, List.set]) ?_
        refine wnil (Ok.cond (b := true) rfl (fun _ => ?_) (fun h => by cases h))
        exact go 10 rfl ⟨fun _ h => (by cases h), _, rfl, rfl⟩
    · have hlt' : k < N := of_decide_eq_true hlt
      obtain ⟨c, hc⟩ : ∃ c, l[k]? = some c := ⟨_, List.getElem?_eq_getElem (by omega)⟩
      have hget := rowsT_at hc
      have hmem := List.mem_of_getElem? hc
      rw [runB_drop hc] at hrun
      refine Ok.regionW (G := fun _ => true) (C := TabP _) mixed layOk noT TabP_calm (.inl rfl) ?_
      refine wstepN rfl rfl (by dsimp only [putV, List.set]) ?_
      refine wstepN rfl rfl (by dsimp only [putV, List.set]) ?_
      first
        | refine wstepN rfl (lenR (by assumption) rfl rfl) (by dsimp only [putV, List.set]) ?_
        | refine wstepN rfl rfl (by dsimp only [putV, List.set]) ?_
      first
        | refine wstepN rfl (ltT hlt rfl rfl) (by dsimp only [putV, List.set]) ?_
        | refine wstepN rfl (ltT (by assumption) rfl rfl) (by dsimp only [putV, List.set]) ?_
        | refine wstepN rfl (lssK (by assumption) rfl rfl) (by dsimp only [putV, List.set]) ?_
        | refine wstepN rfl rfl (by dsimp only [putV, List.set]) ?_
      refine wnil (Ok.cond (b := true) rfl (fun _ => ?_) (fun h => by cases h))
      refine Ok.skip ?_
      refine Ok.after (Ok.seq (Ok.block ?_))
      refine Ok.seq (Ok.regionW (G := fun _ => true) (C := TabP _) mixed layOk noT TabP_calm (.inl rfl) ?_)
      refine wstepN rfl rfl (by dsimp only [putV, List.set]) ?_
      refine wstepN rfl rfl (by dsimp only [putV, List.set]) ?_
      first
        | refine wstepN rfl (ev_ix rfl rfl rfl (by assumption) rfl) (by dsimp only [putV, List.set]) ?_
        | refine wstepN rfl rfl (by dsimp only [putV, List.set]) ?_
      first
        | refine wstepN rfl (ldT rfl rfl) (by dsimp only [putV, List.set]) ?_
        | refine wstepN rfl (ldE rfl rfl) (by dsimp only [putV, List.set]) ?_
        | refine wstepN rfl rfl (by dsimp only [putV, List.set]) ?_
      refine wstepN rfl rfl (by dsimp only [putV, List.set]) ?_
      refine wnil ?_
      refine Ok.seq ?_
      by_cases e0 : c = []
      · have hq : decide (c = []) = true := decide_eq_true e0
        rw [stepB, if_pos (.inl e0)] at hrun
        refine Ok.seq (Ok.regionW (G := fun _ => true) (C := TabP _) mixed layOk noT TabP_calm (.inl rfl) ?_)
        refine wstepN rfl rfl (by dsimp only [putV, List.set]) ?_
        first
          | refine wstepN rfl (eqT (by assumption) rfl rfl) (by dsimp only [putV, List.set]) ?_
          | refine wstepN rfl rfl (by dsimp only [putV, List.set]) ?_
        refine wstepN rfl rfl (by dsimp only [putV, List.set]) ?_
        first
          | refine wskipN rfl (by dsimp only [putV, List.set]) ?_
          | refine wstepN rfl rfl (by dsimp only [putV, List.set]) ?_
        first
          | refine wskipN rfl (by dsimp only [putV, List.set]) ?_
          | refine wstepN rfl (eqT (by assumption) rfl rfl) (by dsimp only [putV, List.set]) ?_
          | refine wstepN rfl rfl (by dsimp only [putV, List.set]) ?_
        refine wstepN rfl rfl (by dsimp only [putV, List.set]) ?_
        refine wnil (Ok.cond (b := true) rfl (fun _ => ?_) (fun h => by cases h))
        refine Ok.exit ?_
        refine Ok.regionW (G := fun _ => true) (C := TabP _) mixed layOk noT TabP_calm (.inl rfl) ?_
        refine wstepN rfl rfl (by dsimp only [putV, List.set]) ?_
        first
          | refine wstepN rfl (incT (by omega) rfl rfl) (by dsimp only [putV, List.set]) ?_
          | refine wstepN rfl (addK (by assumption) rfl rfl) (by dsimp only [putV, List.set]) ?_
          | refine wstepN rfl rfl (by dsimp only [putV, List.set]) ?_
        refine wstepN rfl rfl (by dsimp only [putV, List.set]) ?_
        exact wnil ⟨[], [6, 7, 8], [], by kernel_rfl, by decide, floor_ok rfl, hlt', a, hlt', hrun, by omega, rfl, rfl⟩
      by_cases e1 : c = [46]
      · have hq : decide (c = []) = false := decide_eq_false e0
        have hq1 : decide (c = [46]) = true := decide_eq_true e1
        rw [stepB, if_pos (.inr e1)] at hrun
        refine Ok.seq (Ok.regionW (G := fun _ => true) (C := TabP _) mixed layOk noT TabP_calm (.inl rfl) ?_)
        refine wstepN rfl rfl (by dsimp only [putV, List.set]) ?_
        first
          | refine wstepN rfl (eqT (by assumption) rfl rfl) (by dsimp only [putV, List.set]) ?_
          | refine wstepN rfl rfl (by dsimp only [putV, List.set]) ?_
        refine wstepN rfl rfl (by dsimp only [putV, List.set]) ?_
        first
          | refine wskipN rfl (by dsimp only [putV, List.set]) ?_
          | refine wstepN rfl rfl (by dsimp only [putV, List.set]) ?_
        first
          | refine wskipN rfl (by dsimp only [putV, List.set]) ?_
          | refine wstepN rfl (eqT (by assumption) rfl rfl) (by dsimp only [putV, List.set]) ?_
          | refine wstepN rfl rfl (by dsimp only [putV, List.set]) ?_
        refine wstepN rfl rfl (by dsimp only [putV, List.set]) ?_
        refine wnil (Ok.cond (b := true) rfl (fun _ => ?_) (fun h => by cases h))
        refine Ok.exit ?_
        refine Ok.regionW (G := fun _ => true) (C := TabP _) mixed layOk noT TabP_calm (.inl rfl) ?_
        refine wstepN rfl rfl (by dsimp only [putV, List.set]) ?_
        first
          | refine wstepN rfl (incT (by omega) rfl rfl) (by dsimp only [putV, List.set]) ?_
          | refine wstepN rfl (addK (by assumption) rfl rfl) (by dsimp only [putV, List.set]) ?_
          | refine wstepN rfl rfl (by dsimp only [putV, List.set]) ?_
        refine wstepN rfl rfl (by dsimp only [putV, List.set]) ?_
        exact wnil ⟨[], [6, 7, 8], [], by kernel_rfl, by decide, floor_ok rfl, hlt', a, hlt', hrun, by omega, rfl, rfl⟩
      have hq : decide (c = []) = false := decide_eq_false e0
      have hq1 : decide (c = [46]) = false := decide_eq_false e1
      rw [stepB, if_neg (by rintro (h | h); exact e0 h; exact e1 h)] at hrun
      refine Ok.seq (Ok.regionW (G := fun _ => true) (C := TabP _) mixed layOk noT TabP_calm (.inl rfl) ?_)
      refine wstepN rfl rfl (by dsimp only [putV, List.set]) ?_
      first
        | refine wstepN rfl (eqT (by assumption) rfl rfl) (by dsimp only [putV, List.set]) ?_
        | refine wstepN rfl rfl (by dsimp only [putV, List.set]) ?_
      refine wstepN rfl rfl (by dsimp only [putV, List.set]) ?_
      first
        | refine wskipN rfl (by dsimp only [putV, List.set]) ?_
        | refine wstepN rfl rfl (by dsimp only [putV, List.set]) ?_
      first
        | refine wskipN rfl (by dsimp only [putV, List.set]) ?_
        | refine wstepN rfl (eqT (by assumption) rfl rfl) (by dsimp only [putV, List.set]) ?_
        | refine wstepN rfl rfl (by dsimp only [putV, List.set]) ?_
      refine wstepN rfl rfl (by dsimp only [putV, List.set]) ?_
      refine wnil (Ok.cond (b := false) rfl (fun h => by cases h) (fun _ => ?_))
      refine Ok.skip ?_
      refine Ok.seq ?_
      by_cases e2 : c = [46, 46]
      · have hq2 : decide (c = [46, 46]) = true := decide_eq_true e2
        have hpar : P17 40 [T a] (T (parentB a)) := .parent a (by omega)
        rw [if_pos e2] at hrun
        refine Ok.seq (Ok.regionW (G := fun _ => true) (C := TabP _) mixed layOk noT TabP_calm (.inl rfl) ?_)
        refine wstepN rfl rfl (by dsimp only [putV, List.set]) ?_
        first
          | refine wstepN rfl (eqT (by assumption) rfl rfl) (by dsimp only [putV, List.set]) ?_
          | refine wstepN rfl rfl (by dsimp only [putV, List.set]) ?_
        refine wnil (Ok.cond (b := true) rfl (fun _ => ?_) (fun h => by cases h))
        refine Ok.seq (Ok.regionW (G := fun _ => true) (C := TabP _) mixed layOk hT TabP_calm (.inl rfl) ?_)
        refine wstepN rfl rfl (by dsimp only [putV, List.set]) ?_
        first
          | refine wstepN rfl (hit40 (by first | assumption | omega)) (by dsimp only [putV, List.set]) ?_
          | refine wstepN rfl (T1_hit) (by dsimp only [putV, List.set]) ?_
          | refine wstepN rfl (TabP_use (by assumption) (by assumption)) (by dsimp only [putV, List.set]) ?_
          | refine wstepN rfl (TabP_hit (fun v' h => by cases h; rfl) (by assumption)) (by dsimp only [putV, List.set]) ?_
          | refine wstepN rfl (TabP_hit (fun v' h => by cases h; rfl) (by constructor)) (by dsimp only [putV, List.set]) ?_
          | refine wstepN rfl rfl (by dsimp only [putV, List.set]) ?_
        refine wstepN rfl rfl (by dsimp only [putV, List.set]) ?_
        refine wnil ?_
        refine Ok.exit ?_
        refine Ok.regionW (G := fun _ => true) (C := TabP _) mixed layOk noT TabP_calm (.inl rfl) ?_
        refine wstepN rfl rfl (by dsimp only [putV, List.set]) ?_
        first
          | refine wstepN rfl (incT (by omega) rfl rfl) (by dsimp only [putV, List.set]) ?_
          | refine wstepN rfl (addK (by assumption) rfl rfl) (by dsimp only [putV, List.set]) ?_
          | refine wstepN rfl rfl (by dsimp only [putV, List.set]) ?_
        refine wstepN rfl rfl (by dsimp only [putV, List.set]) ?_
        exact wnil ⟨[], [6, 7, 8], [], by kernel_rfl, by decide, floor_ok rfl, hlt', parentB a, hlt', hrun, by have := parentB_len a; omega, rfl, rfl⟩
      have hq2 : decide (c = [46, 46]) = false := decide_eq_false e2
      rw [if_neg e2] at hrun
      refine Ok.seq (Ok.regionW (G := fun _ => true) (C := TabP _) mixed layOk noT TabP_calm (.inl rfl) ?_)
      refine wstepN rfl rfl (by dsimp only [putV, List.set]) ?_
      first
        | refine wstepN rfl (eqT (by assumption) rfl rfl) (by dsimp only [putV, List.set]) ?_
        | refine wstepN rfl rfl (by dsimp only [putV, List.set]) ?_
      refine wnil (Ok.cond (b := false) rfl (fun h => by cases h) (fun _ => ?_))
      refine Ok.skip ?_
      refine Ok.seq ?_
      have hnm : P17 41 [T c] (bV (nameB c)) := .name c (by have := hmem0 c hmem; omega)
      refine Ok.seq (Ok.regionW (G := fun _ => true) (C := TabP _) mixed layOk hT TabP_calm (.inl rfl) ?_)
      refine wstepN rfl rfl (by dsimp only [putV, List.set]) ?_
      first
        | refine wstepN rfl (hit41 (by first | assumption | omega)) (by dsimp only [putV, List.set]) ?_
        | refine wstepN rfl (T1_hit) (by dsimp only [putV, List.set]) ?_
        | refine wstepN rfl (TabP_use (by assumption) (by assumption)) (by dsimp only [putV, List.set]) ?_
        | refine wstepN rfl (TabP_hit (fun v' h => by cases h; rfl) (by assumption)) (by dsimp only [putV, List.set]) ?_
        | refine wstepN rfl (TabP_hit (fun v' h => by cases h; rfl) (by constructor)) (by dsimp only [putV, List.set]) ?_
        | refine wstepN rfl rfl (by dsimp only [putV, List.set]) ?_
      refine wstepN rfl rfl (by dsimp only [putV, List.set]) ?_
      cases hn : nameB c
      · rw [hn] at hrun
        refine wnil (Ok.cond (b := true) rfl (fun _ => ?_) (fun h => by cases h))
        rw [hrun]
        refine Ok.seq (Ok.regionW (G := fun _ => true) (C := TabP _) mixed layOk noT TabP_calm (.inl rfl) ?_)
        refine wstepN rfl rfl (by dsimp only [putV, List.set]) ?_
        refine wstepN rfl rfl (by dsimp only [putV, List.set]) ?_
        refine wnil (Ok.ret ?_)
        exact ⟨[], [4, 5], [], by kernel_rfl, by decide, floor_ok rfl, fun _ h => (by cases h), _, rfl, rfl⟩
      · rw [hn, if_pos rfl] at hrun
        have hcl := (name_is hn).2.1
        have htl := trimR_len a
        refine wnil (Ok.cond (b := false) rfl (fun h => by cases h) (fun _ => ?_))
        refine Ok.skip ?_
        refine Ok.seq ?_
        by_cases e3 : a = [47]
        · have hq3 : decide (a = [47]) = true := decide_eq_true e3
          rw [show trimR a = [] by rw [trimR, if_pos e3]] at hrun
          refine Ok.seq (Ok.regionW (G := fun _ => true) (C := TabP _) mixed layOk noT TabP_calm (.inl rfl) ?_)
          refine wstepN rfl rfl (by dsimp only [putV, List.set]) ?_
          first
            | refine wstepN rfl (eqT (by assumption) rfl rfl) (by dsimp only [putV, List.set]) ?_
            | refine wstepN rfl rfl (by dsimp only [putV, List.set]) ?_
          refine wnil (Ok.cond (b := true) rfl (fun _ => ?_) (fun h => by cases h))
          refine Ok.regionW (G := fun _ => true) (C := TabP _) mixed layOk noT TabP_calm (.inl rfl) ?_
          refine wstepN rfl rfl (by dsimp only [putV, List.set]) ?_
          refine wnil ?_
          refine Ok.regionW (G := fun _ => true) (C := TabP _) mixed layOk noT TabP_calm (.inl rfl) ?_
          refine wstepN rfl rfl (by dsimp only [putV, List.set]) ?_
          refine wstepN rfl (addT (l := []) (l' := [47]) (by simp) rfl rfl) (by dsimp only [putV, List.set]) ?_
          refine wstepN rfl rfl (by dsimp only [putV, List.set]) ?_
          refine wstepN rfl (addT (l := [] ++ [47]) (l' := c) (by simp; omega) rfl rfl) (by dsimp only [putV, List.set]) ?_
          refine wstepN rfl rfl (by dsimp only [putV, List.set]) ?_
          refine wnil ?_
          refine Ok.regionW (G := fun _ => true) (C := TabP _) mixed layOk noT TabP_calm (.inl rfl) ?_
          refine wstepN rfl rfl (by dsimp only [putV, List.set]) ?_
          first
            | refine wstepN rfl (incT (by omega) rfl rfl) (by dsimp only [putV, List.set]) ?_
            | refine wstepN rfl (addK (by assumption) rfl rfl) (by dsimp only [putV, List.set]) ?_
            | refine wstepN rfl rfl (by dsimp only [putV, List.set]) ?_
          refine wstepN rfl rfl (by dsimp only [putV, List.set]) ?_
          refine wnil ⟨[], [6, 7, 8], [], by kernel_rfl, by decide, floor_ok rfl, hlt', [] ++ [47] ++ c, hlt', by rw [hrun]; simp, ?_, rfl, rfl⟩
          simp
          omega
        · have hq3 : decide (a = [47]) = false := decide_eq_false e3
          rw [show trimR a = a by rw [trimR, if_neg e3]] at hrun
          refine Ok.seq (Ok.regionW (G := fun _ => true) (C := TabP _) mixed layOk noT TabP_calm (.inl rfl) ?_)
          refine wstepN rfl rfl (by dsimp only [putV, List.set]) ?_
          first
            | refine wstepN rfl (eqT (by assumption) rfl rfl) (by dsimp only [putV, List.set]) ?_
            | refine wstepN rfl rfl (by dsimp only [putV, List.set]) ?_
          refine wnil (Ok.cond (b := false) rfl (fun h => by cases h) (fun _ => ?_))
          refine Ok.skip ?_
          refine Ok.regionW (G := fun _ => true) (C := TabP _) mixed layOk noT TabP_calm (.inl rfl) ?_
          refine wstepN rfl rfl (by dsimp only [putV, List.set]) ?_
          refine wstepN rfl (addT (l := a) (l' := [47]) (by simp; omega) rfl rfl) (by dsimp only [putV, List.set]) ?_
          refine wstepN rfl rfl (by dsimp only [putV, List.set]) ?_
          refine wstepN rfl (addT (l := a ++ [47]) (l' := c) (by simp; omega) rfl rfl) (by dsimp only [putV, List.set]) ?_
          refine wstepN rfl rfl (by dsimp only [putV, List.set]) ?_
          refine wnil ?_
          refine Ok.regionW (G := fun _ => true) (C := TabP _) mixed layOk noT TabP_calm (.inl rfl) ?_
          refine wstepN rfl rfl (by dsimp only [putV, List.set]) ?_
          first
            | refine wstepN rfl (incT (by omega) rfl rfl) (by dsimp only [putV, List.set]) ?_
            | refine wstepN rfl (addK (by assumption) rfl rfl) (by dsimp only [putV, List.set]) ?_
            | refine wstepN rfl rfl (by dsimp only [putV, List.set]) ?_
          refine wstepN rfl rfl (by dsimp only [putV, List.set]) ?_
          refine wnil ⟨[], [6, 7, 8], [], by kernel_rfl, by decide, floor_ok rfl, hlt', a ++ [47] ++ c, hlt', by rw [hrun]; simp, ?_, rfl, rfl⟩
          simp
          omega

theorem short15 (a b : List UInt8) : FnOk Tryd.prog 15 [T a, T b] [] (fun r bs' => fr bs' r = bV (decide ((a.length : Int) ≤ 600) && decide ((b.length : Int) ≤ 600))) := by
  refine FnOk.fast (Q := fun r => r = bV (decide ((a.length : Int) ≤ 600) && decide ((b.length : Int) ≤ 600))) layOk Tryd.func15 rfl ?_
  generalize h1 : decide ((a.length : Int) ≤ 600) = u
  generalize h2 : decide ((b.length : Int) ≤ 600) = v
  refine Ok.seq (go 10 rfl ?_)
  cases u
  · refine Ok.seq (Ok.regionW (G := fun _ => true) (C := TabP _) mixed layOk noT TabP_calm (.inl rfl) ?_)
    refine wstepN rfl rfl (by dsimp only [putV, List.set]) ?_
    first
      | refine wstepN rfl (lenT rfl rfl) (by dsimp only [putV, List.set]) ?_
      | refine wstepN rfl rfl (by dsimp only [putV, List.set]) ?_
    first
      | refine wstepN rfl (leqK h600 rfl rfl) (by dsimp only [putV, List.set]) ?_
      | refine wstepN rfl (leqK (by assumption) rfl rfl) (by dsimp only [putV, List.set]) ?_
      | refine wstepN rfl rfl (by dsimp only [putV, List.set]) ?_
    refine wstepN rfl rfl (by dsimp only [putV, List.set]) ?_
    first
      | refine wskipN rfl (by dsimp only [putV, List.set]) ?_
      | refine wstepN rfl rfl (by dsimp only [putV, List.set]) ?_
    first
      | refine wskipN rfl (by dsimp only [putV, List.set]) ?_
      | refine wstepN rfl (lenT rfl rfl) (by dsimp only [putV, List.set]) ?_
      | refine wstepN rfl rfl (by dsimp only [putV, List.set]) ?_
    first
      | refine wskipN rfl (by dsimp only [putV, List.set]) ?_
      | refine wstepN rfl (leqK h600 rfl rfl) (by dsimp only [putV, List.set]) ?_
      | refine wstepN rfl (leqK (by assumption) rfl rfl) (by dsimp only [putV, List.set]) ?_
      | refine wstepN rfl rfl (by dsimp only [putV, List.set]) ?_
    refine wstepN rfl rfl (by dsimp only [putV, List.set]) ?_
    refine wstepN rfl rfl (by dsimp only [putV, List.set]) ?_
    refine wnil (Ok.ret ⟨fun _ h => (by cases h), _, rfl, rfl⟩)
  · cases v
    · refine Ok.seq (Ok.regionW (G := fun _ => true) (C := TabP _) mixed layOk noT TabP_calm (.inl rfl) ?_)
      refine wstepN rfl rfl (by dsimp only [putV, List.set]) ?_
      first
        | refine wstepN rfl (lenT rfl rfl) (by dsimp only [putV, List.set]) ?_
        | refine wstepN rfl rfl (by dsimp only [putV, List.set]) ?_
      first
        | refine wstepN rfl (leqK h600 rfl rfl) (by dsimp only [putV, List.set]) ?_
        | refine wstepN rfl (leqK (by assumption) rfl rfl) (by dsimp only [putV, List.set]) ?_
        | refine wstepN rfl rfl (by dsimp only [putV, List.set]) ?_
      refine wstepN rfl rfl (by dsimp only [putV, List.set]) ?_
      first
        | refine wskipN rfl (by dsimp only [putV, List.set]) ?_
        | refine wstepN rfl rfl (by dsimp only [putV, List.set]) ?_
      first
        | refine wskipN rfl (by dsimp only [putV, List.set]) ?_
        | refine wstepN rfl (lenT rfl rfl) (by dsimp only [putV, List.set]) ?_
        | refine wstepN rfl rfl (by dsimp only [putV, List.set]) ?_
      first
        | refine wskipN rfl (by dsimp only [putV, List.set]) ?_
        | refine wstepN rfl (leqK h600 rfl rfl) (by dsimp only [putV, List.set]) ?_
        | refine wstepN rfl (leqK (by assumption) rfl rfl) (by dsimp only [putV, List.set]) ?_
        | refine wstepN rfl rfl (by dsimp only [putV, List.set]) ?_
      refine wstepN rfl rfl (by dsimp only [putV, List.set]) ?_
      refine wstepN rfl rfl (by dsimp only [putV, List.set]) ?_
      refine wnil (Ok.ret ⟨fun _ h => (by cases h), _, rfl, rfl⟩)
    · refine Ok.seq (Ok.regionW (G := fun _ => true) (C := TabP _) mixed layOk noT TabP_calm (.inl rfl) ?_)
      refine wstepN rfl rfl (by dsimp only [putV, List.set]) ?_
      first
        | refine wstepN rfl (lenT rfl rfl) (by dsimp only [putV, List.set]) ?_
        | refine wstepN rfl rfl (by dsimp only [putV, List.set]) ?_
      first
        | refine wstepN rfl (leqK h600 rfl rfl) (by dsimp only [putV, List.set]) ?_
        | refine wstepN rfl (leqK (by assumption) rfl rfl) (by dsimp only [putV, List.set]) ?_
        | refine wstepN rfl rfl (by dsimp only [putV, List.set]) ?_
      refine wstepN rfl rfl (by dsimp only [putV, List.set]) ?_
      first
        | refine wskipN rfl (by dsimp only [putV, List.set]) ?_
        | refine wstepN rfl rfl (by dsimp only [putV, List.set]) ?_
      first
        | refine wskipN rfl (by dsimp only [putV, List.set]) ?_
        | refine wstepN rfl (lenT rfl rfl) (by dsimp only [putV, List.set]) ?_
        | refine wstepN rfl rfl (by dsimp only [putV, List.set]) ?_
      first
        | refine wskipN rfl (by dsimp only [putV, List.set]) ?_
        | refine wstepN rfl (leqK h600 rfl rfl) (by dsimp only [putV, List.set]) ?_
        | refine wstepN rfl (leqK (by assumption) rfl rfl) (by dsimp only [putV, List.set]) ?_
        | refine wstepN rfl rfl (by dsimp only [putV, List.set]) ?_
      refine wstepN rfl rfl (by dsimp only [putV, List.set]) ?_
      refine wstepN rfl rfl (by dsimp only [putV, List.set]) ?_
      refine wnil (Ok.ret ⟨fun _ h => (by cases h), _, rfl, rfl⟩)

end Go.Proofs.YtiefcnghjcafbaaDoorV

/- Lists of files: what is read of them, and what finds an element. -/
namespace Go.Proofs.YtiefcnghjcafbaaDoorV
open Go Go.RowKit Go.Proofs.YtiefcnghjcafbaaDoor
set_option maxRecDepth 20000
set_option maxHeartbeats 4000000

abbrev rowF (f : Fl) : List S := [.val (.string (B f.path)), .val (.bool f.dir), .val (.string (B f.data))]
abbrev valF (f : Fl) : V := .agg [T f.path, bV f.dir, T f.data]
def rowsF (l : List Fl) : List (List S) := l.map rowF
theorem rowsF_len (l : List Fl) : (rowsF l).length = l.length := by simp [rowsF]
theorem rowsF_at {l : List Fl} {k : Nat} {f : Fl} (h : l[k]? = some f) : (rowsF l)[k]? = some (rowF f) := by simp [rowsF, h]

theorem less_is : ∀ a b : List UInt8, Op.bytesLess a b = ltB a b
  | _, [] => by cases ‹List UInt8› <;> rfl
  | [], _ :: _ => rfl
  | a :: x, b :: y => by rw [Op.bytesLess, ltB, less_is x y]

section
variable {L : Lay} {C : CallT} {ts : List V} {bs : List Bx} {t t' : TypeId} {x y : Operand} {v : Bool}
theorem lenF {l : List Fl} {n : Nat} {q : TypeId × Nat} (h : l.length = n) (hs : L.sl t = some q) (hx : evO ts x = some (.sl (rowsF l))) : evX L C (.call { callee := .builtin .len, args := #[x], argTypes := #[t] }) ts bs = some (iV (n : Int), bs) := by
  simp only [evX, evCall, hx, hs, view, rowsF_len, h]
theorem ldE {u : Value} {r : List S} (ha : evO ts x = some (.eptr (S.val u :: r))) (hc : L.cel t = some (1, false)) : evX L C (.load t x) ts bs = some (.val u, bs) := by
  simp only [evX, ev, ha, hc, rd, List.length_cons, Nat.le_add_left, if_true]
  rfl
theorem ldF {f : Fl} (ha : evO ts x = some (.eptr (rowF f))) (hc : L.cel t = some (3, true)) : evX L C (.load t x) ts bs = some (valF f, bs) := by
  simp only [evX, ev, ha, hc, rd]
  rfl
theorem cutF {hi : Operand} {l : List Fl} {b e : Nat} {k : IntKind} (h : b ≤ l.length) (hs : L.sl t = some (e, 3)) (hx : evO ts x = some (.sl (rowsF l))) (hh : evO ts hi = some (.val (.int k (b : Int)))) :
    evX L C (.slice t x none (some hi) none) ts bs = some (.sl (rowsF (l.take b)), bs) := by
  have h1 : (rowsF l).all (fun x => x.length == 3) = true := List.all_eq_true.2 fun r hr => by
    obtain ⟨f, _, rfl⟩ := List.mem_map.1 hr
    rfl
  simp only [evX, ev, hx, hs, bd, hh, Int.natCast_nonneg, if_true, Int.toNat_natCast, h1, Nat.zero_le, rowsF_len, h, and_self, List.drop_zero]
  rw [rowsF, rowsF, List.map_take]
theorem leT {l l' : List UInt8} (h : leB l l' = v) (hx : evO ts x = some (T l)) (hy : evO ts y = some (T l')) : evX L C (.binOp .leq t x y t') ts bs = some (bV v, bs) := by
  have : (Op.bytesLess (B l).toList (B l').toList || (B l).toList == (B l').toList) = v := by
    rw [Lib.toList_data, Lib.toList_data, less_is, ← h]
    rfl
  simp only [evX, ev, hx, hy, evB, this, Option.map_some]
end

theorem same65 (f : Fl) (p : List UInt8) : FnOk Tryd.prog 65 [valF f, .ptr 0 0] [.cells [T p]] (fun r bs' => r = bV (decide (f.path = p)) ∧ bs' = [.cells [T p]]) := by
  refine FnOk.of layOk Tryd.func65 rfl ?_
  generalize h : decide (f.path = p) = v
  refine Ok.seq (go 10 rfl ?_)
  refine Ok.seq (Ok.regionW (G := fun _ => true) (C := TabP _) mixed layOk noT TabP_calm (.inl rfl) ?_)
  refine wstepN rfl rfl (by dsimp only [putV, List.set]) ?_
  first
    | refine wstepN rfl (ldT rfl rfl) (by dsimp only [putV, List.set]) ?_
    | refine wstepN rfl (ldE rfl rfl) (by dsimp only [putV, List.set]) ?_
    | refine wstepN rfl rfl (by dsimp only [putV, List.set]) ?_
  first
    | refine wstepN rfl (ldT rfl rfl) (by dsimp only [putV, List.set]) ?_
    | refine wstepN rfl (ldE rfl rfl) (by dsimp only [putV, List.set]) ?_
    | refine wstepN rfl rfl (by dsimp only [putV, List.set]) ?_
  first
    | refine wstepN rfl (eqT (by assumption) rfl rfl) (by dsimp only [putV, List.set]) ?_
    | refine wstepN rfl rfl (by dsimp only [putV, List.set]) ?_
  refine wstepN rfl rfl (by dsimp only [putV, List.set]) ?_
  refine wnil ?_
  refine Ok.gc (bs2 := [.cells [T p]]) [0] [3] (by kernel_rfl) (by decide) (floor_ok rfl) ?_
  exact Ok.ret ⟨fun _ h => (by cases h), _, rfl, rfl, rfl⟩

inductive T65 (p : List UInt8) : FuncId → List V → List Bx → V → List Bx → Prop
  | k (a : List UInt8) (d : Bool) (e : List UInt8) : T65 p 65 [.agg [T a, bV d, T e], .ptr 0 0] [.cells [T p]] (bV (decide (a = p))) [.cells [T p]]
theorem T65_good (p : List UInt8) : Good Tryd.prog (TabB (T65 p)) := TabB_good fun f vs bs v bs' h => by
  cases h with
  | k a d e => exact ⟨same65 ⟨a, d, e⟩ p, Tryd.call65⟩
theorem T65_calm (p : List UInt8) {G : FuncId → Bool} (h : G 65 = false) : Calm G (TabB (T65 p)) := by
  intro f vs hg
  refine .inl fun bs => ?_
  unfold TabB
  rw [dif_neg]
  rintro ⟨q, hp⟩
  generalize q.1 = a at hp
  generalize q.2 = b at hp
  cases hp with
  | k a d e => rw [h] at hg; cases hg
theorem T65_hit {p : List UInt8} {f : Fl} : TabB (T65 p) 65 [valF f, .ptr 0 0] [.cells [T p]] = some (bV (decide (f.path = p)), [.cells [T p]]) := TabB_hit (fun v' b' h => by cases h; exact ⟨rfl, rfl⟩) (.k f.path f.dir f.data)

theorem idxF_at {l : List Fl} {p : List UInt8} {k : Nat} {f : Fl} (h : (l.take k).any (fun f => decide (f.path = p)) = false) (hk : l[k]? = some f) (hc : f.path = p) : idxF l p = (k : Int) := by
  have hlt : k < l.length := (List.getElem?_eq_some_iff.1 hk).1
  have : l.findIdx? (fun f => decide (f.path = p)) = some k := by
    rw [List.findIdx?_eq_some_iff_getElem]
    refine ⟨hlt, ?_, fun j hj => ?_⟩
    · rw [List.getElem?_eq_getElem hlt] at hk
      obtain rfl := Option.some.inj hk
      simpa using hc
    · have h1 := List.any_eq_false.1 h l[j] (List.mem_iff_getElem.2 ⟨j, by simp; omega, by simp⟩)
      simpa using h1
  unfold idxF
  rw [this]
theorem idxF_none {l : List Fl} {p : List UInt8} (h : l.any (fun f => decide (f.path = p)) = false) : idxF l p = -1 := by
  have : l.findIdx? (fun f => decide (f.path = p)) = none := by
    rw [List.findIdx?_eq_none_iff]
    intro x hx
    have := List.any_eq_false.1 h x hx
    simpa using this
  unfold idxF
  rw [this]
theorem take_anyF {α : Type} {l : List α} {k : Nat} {c : α} {q : α → Bool} (h : l[k]? = some c) : (l.take (k + 1)).any q = ((l.take k).any q || q c) := by
  rw [List.take_add_one, h]
  simp

theorem index64 (l : List Fl) (p : List UInt8) (hl : l.length ≤ 100000) : FnOk Tryd.prog 64 [.sl (rowsF l), .fn 65 [.ptr 0 0]] [.cells [T p]] (fun r bs' => r = iV (idxF l p) ∧ bs' = [.cells [T p]]) := by
  refine FnOk.of layOk Tryd.func64 rfl ?_
  obtain ⟨N, hN⟩ : ∃ N, l.length = N := ⟨_, rfl⟩
  refine Ok.seq (go 10 rfl ?_)
  refine Ok.seq ?_
  refine Ok.seq (Ok.regionW (G := fun _ => true) (C := TabP _) mixed layOk noT TabP_calm (.inl rfl) ?_)
  refine wstepN rfl rfl (by dsimp only [putV, List.set]) ?_
  first
    | refine wstepN rfl (lenR (by assumption) rfl rfl) (by dsimp only [putV, List.set]) ?_
    | refine wstepN rfl (lenF (by assumption) rfl rfl) (by dsimp only [putV, List.set]) ?_
    | refine wstepN rfl rfl (by dsimp only [putV, List.set]) ?_
  refine wstepN rfl rfl (by dsimp only [putV, List.set]) ?_
  refine wnil ?_
  refine Ok.gc (bs2 := [.cells [T p]]) [0] [0, 1, 7, 8] (by kernel_rfl) (by decide) (floor_ok rfl) ?_
  refine Ok.count N (fun k ts bs => (l.take k).any (fun f => decide (f.path = p)) = false ∧ k ≤ N ∧ bs = [.cells [T p]] ∧ ts = ((((List.replicate 19 V.gone).set 0 (.sl (rowsF l))).set 1 (.fn 65 [.ptr 0 0])).set 7 (iV (N : Int))).set 8 (iV (k : Int))) ?_ ?_
  · exact ⟨rfl, Nat.zero_le _, rfl, rfl⟩
  rintro k _ _ ⟨hno, hk, rfl, rfl⟩
  simp only [List.replicate, List.set]
  cases hlt : decide (k < N)
  · refine Ok.seq (Ok.regionW (G := fun _ => true) (C := TabP _) mixed layOk noT TabP_calm (.inl rfl) ?_)
    first
      | refine wstepN rfl (ltT (by assumption) rfl rfl) (by dsimp only [putV, List.set]) ?_
      | refine wstepN rfl (lssK (by assumption) rfl rfl) (by dsimp only [putV, List.set]) ?_
      | refine wstepN rfl rfl (by dsimp only [putV, List.set]) ?_
    refine wnil (Ok.seq (Ok.cond (b := false) rfl (fun h => by cases h) (fun _ => ?_)))
    refine Ok.exit ?_
    have := of_decide_eq_false hlt
    rw [List.take_of_length_le (by omega)] at hno
    rw [idxF_none hno]
    exact go 10 rfl ⟨fun _ h => (by cases h), _, rfl, rfl, rfl⟩
  · have hlt' : k < N := of_decide_eq_true hlt
    obtain ⟨f, hf⟩ : ∃ f, l[k]? = some f := ⟨_, List.getElem?_eq_getElem (by omega)⟩
    have hget := rowsF_at hf
    have hnext := take_anyF (q := fun f => decide (f.path = p)) hf
    refine Ok.seq (Ok.regionW (G := fun _ => true) (C := TabP _) mixed layOk noT TabP_calm (.inl rfl) ?_)
    first
      | refine wstepN rfl (ltT (by assumption) rfl rfl) (by dsimp only [putV, List.set]) ?_
      | refine wstepN rfl (lssK (by assumption) rfl rfl) (by dsimp only [putV, List.set]) ?_
      | refine wstepN rfl rfl (by dsimp only [putV, List.set]) ?_
    refine wnil (Ok.seq (Ok.cond (b := true) rfl (fun _ => ?_) (fun h => by cases h)))
    refine Ok.skip ?_
    refine Ok.after (Ok.seq (Ok.block ?_))
    refine Ok.seq (Ok.regionW (G := fun _ => true) (C := TabP _) mixed layOk noT TabP_calm (.inl rfl) ?_)
    refine wstepN rfl rfl (by dsimp only [putV, List.set]) ?_
    refine wstepN rfl rfl (by dsimp only [putV, List.set]) ?_
    refine wnil ?_
    refine Ok.seq ?_
    refine Ok.regionW (G := fun _ => false) (C := TabB (T65 p)) mixed layOk (T65_good p) (T65_calm p rfl) (.inl rfl) ?_
    refine wstepN rfl rfl (by dsimp only [putV, List.set]) ?_
    refine wstepN rfl rfl (by dsimp only [putV, List.set]) ?_
    refine wstepN rfl rfl (by dsimp only [putV, List.set]) ?_
    first
      | refine wstepN rfl (ev_ix rfl rfl rfl (by assumption) rfl) (by dsimp only [putV, List.set]) ?_
      | refine wstepN rfl rfl (by dsimp only [putV, List.set]) ?_
    first
      | refine wstepN rfl (ldF rfl rfl) (by dsimp only [putV, List.set]) ?_
      | refine wstepN rfl rfl (by dsimp only [putV, List.set]) ?_
    refine wstepN rfl (T65_hit) (by dsimp only [putV, List.set]) ?_
    cases hq : decide (f.path = p)
    · refine wnil (Ok.cond (b := false) rfl (fun h => by cases h) (fun _ => ?_))
      refine Ok.skip ?_
      refine Ok.regionW (G := fun _ => true) (C := TabP _) mixed layOk noT TabP_calm (.inl rfl) ?_
      first
        | refine wstepN rfl (incT (by omega) rfl rfl) (by dsimp only [putV, List.set]) ?_
        | refine wstepN rfl (addK (by assumption) rfl rfl) (by dsimp only [putV, List.set]) ?_
        | refine wstepN rfl rfl (by dsimp only [putV, List.set]) ?_
      refine wstepN rfl rfl (by dsimp only [putV, List.set]) ?_
      refine wnil ⟨[0], [0, 1, 7, 8], [.cells [T p]], by kernel_rfl, by decide, floor_ok rfl, hlt', by rw [hnext, hno, hq]; rfl, hlt', rfl, rfl⟩
    · refine wnil (Ok.cond (b := true) rfl (fun _ => ?_) (fun h => by cases h))
      rw [idxF_at hno hf (of_decide_eq_true hq)]
      refine Ok.seq (Ok.regionW (G := fun _ => true) (C := TabP _) mixed layOk noT TabP_calm (.inl rfl) ?_)
      refine wstepN rfl rfl (by dsimp only [putV, List.set]) ?_
      refine wstepN rfl rfl (by dsimp only [putV, List.set]) ?_
      refine wnil (Ok.ret ?_)
      exact ⟨[0], [4], [.cells [T p]], by kernel_rfl, by decide, floor_ok rfl, fun _ h => (by cases h), _, rfl, rfl, rfl⟩

inductive T64 (l : List Fl) (p : List UInt8) : FuncId → List V → List Bx → V → List Bx → Prop
  | k : T64 l p 64 [.sl (rowsF l), .fn 65 [.ptr 0 0]] [.cells [T p]] (iV (idxF l p)) [.cells [T p]]
theorem T64_good (l : List Fl) (p : List UInt8) (hl : l.length ≤ 100000) : Good Tryd.prog (TabB (T64 l p)) := TabB_good fun f vs bs v bs' h => by
  cases h with
  | k => exact ⟨index64 l p hl, Tryd.call64⟩
theorem T64_calm (l : List Fl) (p : List UInt8) {G : FuncId → Bool} (h : G 64 = false) : Calm G (TabB (T64 l p)) := by
  intro f vs hg
  refine .inl fun bs => ?_
  unfold TabB
  rw [dif_neg]
  rintro ⟨q, hp⟩
  generalize q.1 = a at hp
  generalize q.2 = b at hp
  cases hp with
  | k => rw [h] at hg; cases hg
theorem T64_hit {l : List Fl} {p : List UInt8} : TabB (T64 l p) 64 [.sl (rowsF l), .fn 65 [.ptr 0 0]] [.cells [T p]] = some (iV (idxF l p), [.cells [T p]]) := TabB_hit (fun v' b' h => by cases h; exact ⟨rfl, rfl⟩) .k

theorem index42 (l : List Fl) (p : List UInt8) (hl : l.length ≤ 100000) : FnOk Tryd.prog 42 [.sl (rowsF l), T p] [] (fun r bs' => fr bs' r = iV (idxF l p)) := by
  refine FnOk.fast (Q := fun r => r = iV (idxF l p)) layOk Tryd.func42 rfl ?_
  refine Ok.seq (go 10 rfl ?_)
  refine Ok.gc (bs2 := [.cells [T p]]) [0] [0, 3] (by kernel_rfl) (by decide) (floor_ok rfl) ?_
  refine Ok.seq (Ok.regionW (G := fun _ => false) (C := TabB (T64 l p)) mixed layOk (T64_good l p hl) (T64_calm l p rfl) (.inl rfl) ?_)
  refine wstepN rfl rfl (by dsimp only [putV, List.set]) ?_
  refine wstepN rfl rfl (by dsimp only [putV, List.set]) ?_
  refine wstepN rfl (T64_hit) (by dsimp only [putV, List.set]) ?_
  refine wstepN rfl rfl (by dsimp only [putV, List.set]) ?_
  refine wnil (Ok.ret ⟨fun _ h => (by cases h), _, rfl, rfl⟩)

theorem rfind46 (l : List Fl) (p : List UInt8) (hl : l.length ≤ 100000) : FnOk Tryd.prog 46 [.sl (rowsF l), T p] [] (fun r bs' => fr bs' r = iV (idxF l p)) := by
  refine FnOk.fast (Q := fun r => r = iV (idxF l p)) layOk Tryd.func46 rfl ?_
  obtain ⟨N, hN⟩ : ∃ N, l.length = N := ⟨_, rfl⟩
  refine Ok.seq (go 10 rfl ?_)
  refine Ok.seq (Ok.seq (go 10 rfl ?_))
  refine Ok.gc (bs2 := []) [] [0, 1, 5] (by kernel_rfl) (by decide) (floor_ok rfl) ?_
  refine Ok.count N (fun k ts bs => (l.take k).any (fun f => decide (f.path = p)) = false ∧ k ≤ N ∧ bs = [] ∧ ts = (((List.replicate 20 V.gone).set 0 (.sl (rowsF l))).set 1 (T p)).set 5 (iV (k : Int))) ?_ ?_
  · exact ⟨rfl, Nat.zero_le _, rfl, rfl⟩
  rintro k _ _ ⟨hno, hk, rfl, rfl⟩
  simp only [List.replicate, List.set]
  refine Ok.seq (Ok.seq ?_)
  cases hlt : decide (k < N)
  · refine Ok.regionW (G := fun _ => true) (C := TabP _) mixed layOk noT TabP_calm (.inl rfl) ?_
    refine wstepN rfl rfl (by dsimp only [putV, List.set]) ?_
    refine wstepN rfl rfl (by dsimp only [putV, List.set]) ?_
    first
      | refine wstepN rfl (lenR (by assumption) rfl rfl) (by dsimp only [putV, List.set]) ?_
      | refine wstepN rfl (lenF (by assumption) rfl rfl) (by dsimp only [putV, List.set]) ?_
      | refine wstepN rfl rfl (by dsimp only [putV, List.set]) ?_
    first
      | refine wstepN rfl (ltT (by assumption) rfl rfl) (by dsimp only [putV, List.set]) ?_
      | refine wstepN rfl (lssK (by assumption) rfl rfl) (by dsimp only [putV, List.set]) ?_
      | refine wstepN rfl rfl (by dsimp only [putV, List.set]) ?_
    refine wnil (Ok.cond (b := false) rfl (fun h => by cases h) (fun _ => ?_))
    refine Ok.exit ?_
    have := of_decide_eq_false hlt
    rw [List.take_of_length_le (by omega)] at hno
    rw [idxF_none hno]
    exact go 10 rfl ⟨fun _ h => (by cases h), _, rfl, rfl⟩
  · have hlt' : k < N := of_decide_eq_true hlt
    obtain ⟨f, hf⟩ : ∃ f, l[k]? = some f := ⟨_, List.getElem?_eq_getElem (by omega)⟩
    have hget := rowsF_at hf
    have hnext := take_anyF (q := fun f => decide (f.path = p)) hf
    refine Ok.regionW (G := fun _ => true) (C := TabP _) mixed layOk noT TabP_calm (.inl rfl) ?_
    refine wstepN rfl rfl (by dsimp only [putV, List.set]) ?_
    refine wstepN rfl rfl (by dsimp only [putV, List.set]) ?_
    first
      | refine wstepN rfl (lenR (by assumption) rfl rfl) (by dsimp only [putV, List.set]) ?_
      | refine wstepN rfl (lenF (by assumption) rfl rfl) (by dsimp only [putV, List.set]) ?_
      | refine wstepN rfl rfl (by dsimp only [putV, List.set]) ?_
    first
      | refine wstepN rfl (ltT (by assumption) rfl rfl) (by dsimp only [putV, List.set]) ?_
      | refine wstepN rfl (lssK (by assumption) rfl rfl) (by dsimp only [putV, List.set]) ?_
      | refine wstepN rfl rfl (by dsimp only [putV, List.set]) ?_
    refine wnil (Ok.cond (b := true) rfl (fun _ => ?_) (fun h => by cases h))
    refine Ok.skip ?_
    refine Ok.after (Ok.seq (Ok.block (Ok.seq ?_)))
    cases hq : decide (f.path = p)
    · refine Ok.regionW (G := fun _ => true) (C := TabP _) mixed layOk noT TabP_calm (.inl rfl) ?_
      refine wstepN rfl rfl (by dsimp only [putV, List.set]) ?_
      refine wstepN rfl rfl (by dsimp only [putV, List.set]) ?_
      first
        | refine wstepN rfl (ev_ix rfl rfl rfl (by assumption) rfl) (by dsimp only [putV, List.set]) ?_
        | refine wstepN rfl rfl (by dsimp only [putV, List.set]) ?_
      refine wstepN rfl rfl (by dsimp only [putV, List.set]) ?_
      first
        | refine wstepN rfl (ldT rfl rfl) (by dsimp only [putV, List.set]) ?_
        | refine wstepN rfl (ldE rfl rfl) (by dsimp only [putV, List.set]) ?_
        | refine wstepN rfl rfl (by dsimp only [putV, List.set]) ?_
      refine wstepN rfl rfl (by dsimp only [putV, List.set]) ?_
      first
        | refine wstepN rfl (eqT (by assumption) rfl rfl) (by dsimp only [putV, List.set]) ?_
        | refine wstepN rfl rfl (by dsimp only [putV, List.set]) ?_
      refine wnil (Ok.cond (b := false) rfl (fun h => by cases h) (fun _ => ?_))
      refine Ok.skip ?_
      refine Ok.regionW (G := fun _ => true) (C := TabP _) mixed layOk noT TabP_calm (.inl rfl) ?_
      refine wstepN rfl rfl (by dsimp only [putV, List.set]) ?_
      first
        | refine wstepN rfl (incT (by omega) rfl rfl) (by dsimp only [putV, List.set]) ?_
        | refine wstepN rfl (addK (by assumption) rfl rfl) (by dsimp only [putV, List.set]) ?_
        | refine wstepN rfl rfl (by dsimp only [putV, List.set]) ?_
      refine wstepN rfl rfl (by dsimp only [putV, List.set]) ?_
      refine wnil ⟨[], [0, 1, 5], [], by kernel_rfl, by decide, floor_ok rfl, hlt', by rw [hnext, hno, hq]; rfl, hlt', rfl, rfl⟩
    · rw [idxF_at hno hf (of_decide_eq_true hq)]
      refine Ok.regionW (G := fun _ => true) (C := TabP _) mixed layOk noT TabP_calm (.inl rfl) ?_
      refine wstepN rfl rfl (by dsimp only [putV, List.set]) ?_
      refine wstepN rfl rfl (by dsimp only [putV, List.set]) ?_
      first
        | refine wstepN rfl (ev_ix rfl rfl rfl (by assumption) rfl) (by dsimp only [putV, List.set]) ?_
        | refine wstepN rfl rfl (by dsimp only [putV, List.set]) ?_
      refine wstepN rfl rfl (by dsimp only [putV, List.set]) ?_
      first
        | refine wstepN rfl (ldT rfl rfl) (by dsimp only [putV, List.set]) ?_
        | refine wstepN rfl (ldE rfl rfl) (by dsimp only [putV, List.set]) ?_
        | refine wstepN rfl rfl (by dsimp only [putV, List.set]) ?_
      refine wstepN rfl rfl (by dsimp only [putV, List.set]) ?_
      first
        | refine wstepN rfl (eqT (by assumption) rfl rfl) (by dsimp only [putV, List.set]) ?_
        | refine wstepN rfl rfl (by dsimp only [putV, List.set]) ?_
      refine wnil (Ok.cond (b := true) rfl (fun _ => ?_) (fun h => by cases h))
      refine Ok.seq (Ok.regionW (G := fun _ => true) (C := TabP _) mixed layOk noT TabP_calm (.inl rfl) ?_)
      refine wstepN rfl rfl (by dsimp only [putV, List.set]) ?_
      refine wstepN rfl rfl (by dsimp only [putV, List.set]) ?_
      refine wnil (Ok.ret ?_)
      exact ⟨[], [4], [], by kernel_rfl, by decide, floor_ok rfl, fun _ h => (by cases h), _, rfl, rfl⟩

theorem above58 (a s : List UInt8) : FnOk Tryd.prog 58 [T a, T s] [] (fun r bs' => fr bs' r = bV (aboveB a s)) := by
  refine FnOk.fast (Q := fun r => r = bV (aboveB a s)) layOk Tryd.func58 rfl ?_
  refine Ok.seq (go 10 rfl ?_)
  refine Ok.seq ?_
  by_cases e0 : a = [47]
  · have hq0 : decide (a = [47]) = true := decide_eq_true e0
    rw [show aboveB a s = !decide (s = [47]) by rw [aboveB, if_pos e0]]
    generalize hq1 : decide (s = [47]) = v
    refine Ok.seq (Ok.regionW (G := fun _ => true) (C := TabP _) mixed layOk noT TabP_calm (.inl rfl) ?_)
    refine wstepN rfl rfl (by dsimp only [putV, List.set]) ?_
    first
      | refine wstepN rfl (eqT (by assumption) rfl rfl) (by dsimp only [putV, List.set]) ?_
      | refine wstepN rfl rfl (by dsimp only [putV, List.set]) ?_
    refine wnil (Ok.cond (b := true) rfl (fun _ => ?_) (fun h => by cases h))
    refine Ok.seq (Ok.regionW (G := fun _ => true) (C := TabP _) mixed layOk noT TabP_calm (.inl rfl) ?_)
    refine wstepN rfl rfl (by dsimp only [putV, List.set]) ?_
    first
      | refine wstepN rfl (neqT (by assumption) rfl rfl) (by dsimp only [putV, List.set]) ?_
      | refine wstepN rfl rfl (by dsimp only [putV, List.set]) ?_
    refine wstepN rfl rfl (by dsimp only [putV, List.set]) ?_
    refine wnil (Ok.ret ⟨fun _ h => (by cases h), _, rfl, rfl⟩)
  · have hq0 : decide (a = [47]) = false := decide_eq_false e0
    rw [show aboveB a s = (decide (a.length < s.length) && decide (s.take a.length = a) && decide (s[a.length]? = some 47)) by rw [aboveB, if_neg e0]]
    refine Ok.seq (Ok.regionW (G := fun _ => true) (C := TabP _) mixed layOk noT TabP_calm (.inl rfl) ?_)
    refine wstepN rfl rfl (by dsimp only [putV, List.set]) ?_
    first
      | refine wstepN rfl (eqT (by assumption) rfl rfl) (by dsimp only [putV, List.set]) ?_
      | refine wstepN rfl rfl (by dsimp only [putV, List.set]) ?_
    refine wnil (Ok.cond (b := false) rfl (fun h => by cases h) (fun _ => ?_))
    refine Ok.skip ?_
    by_cases h1 : a.length < s.length
    · have hq1 : decide ((s.length : Int) > (a.length : Int)) = true := decide_eq_true (by omega)
      obtain ⟨c, hc⟩ : ∃ c, s[a.length]? = some c := ⟨_, List.getElem?_eq_getElem h1⟩
      rw [show decide (a.length < s.length) = true from decide_eq_true h1, hc, show decide (some c = some (47 : UInt8)) = decide (c = 47) by simp]
      by_cases h2 : s.take a.length = a
      · have hq2 : decide (a = a) = true := by simp
        rw [show decide (s.take a.length = a) = true from decide_eq_true h2]
        generalize hq3 : decide (c = 47) = v
        refine Ok.seq (Ok.regionW (G := fun _ => true) (C := TabP _) mixed layOk noT TabP_calm (.inl rfl) ?_)
        refine wstepN rfl rfl (by dsimp only [putV, List.set]) ?_
        first
          | refine wstepN rfl (lenT rfl rfl) (by dsimp only [putV, List.set]) ?_
          | refine wstepN rfl rfl (by dsimp only [putV, List.set]) ?_
        refine wstepN rfl rfl (by dsimp only [putV, List.set]) ?_
        first
          | refine wstepN rfl (lenT rfl rfl) (by dsimp only [putV, List.set]) ?_
          | refine wstepN rfl rfl (by dsimp only [putV, List.set]) ?_
        first
          | refine wstepN rfl (gtrK (by assumption) rfl rfl) (by dsimp only [putV, List.set]) ?_
          | refine wstepN rfl rfl (by dsimp only [putV, List.set]) ?_
        refine wstepN rfl rfl (by dsimp only [putV, List.set]) ?_
        first
          | refine wskipN rfl (by dsimp only [putV, List.set]) ?_
          | refine wstepN rfl rfl (by dsimp only [putV, List.set]) ?_
        first
          | refine wskipN rfl (by dsimp only [putV, List.set]) ?_
          | refine wstepN rfl rfl (by dsimp only [putV, List.set]) ?_
        first
          | refine wskipN rfl (by dsimp only [putV, List.set]) ?_
          | refine wstepN rfl (lenT rfl rfl) (by dsimp only [putV, List.set]) ?_
          | refine wstepN rfl rfl (by dsimp only [putV, List.set]) ?_
        refine wstepN rfl (cutToR (l' := a) (b := a.length) (by omega) h2 rfl rfl rfl) (by dsimp only [putV, List.set]) ?_
        first
          | refine wskipN rfl (by dsimp only [putV, List.set]) ?_
          | refine wstepN rfl rfl (by dsimp only [putV, List.set]) ?_
        first
          | refine wskipN rfl (by dsimp only [putV, List.set]) ?_
          | refine wstepN rfl (eqT (by assumption) rfl rfl) (by dsimp only [putV, List.set]) ?_
          | refine wstepN rfl rfl (by dsimp only [putV, List.set]) ?_
        refine wstepN rfl rfl (by dsimp only [putV, List.set]) ?_
        refine wstepN rfl rfl (by dsimp only [putV, List.set]) ?_
        first
          | refine wskipN rfl (by dsimp only [putV, List.set]) ?_
          | refine wstepN rfl rfl (by dsimp only [putV, List.set]) ?_
        first
          | refine wskipN rfl (by dsimp only [putV, List.set]) ?_
          | refine wstepN rfl rfl (by dsimp only [putV, List.set]) ?_
        first
          | refine wskipN rfl (by dsimp only [putV, List.set]) ?_
          | refine wstepN rfl (lenT rfl rfl) (by dsimp only [putV, List.set]) ?_
          | refine wstepN rfl rfl (by dsimp only [putV, List.set]) ?_
        first
          | refine wskipN rfl (by dsimp only [putV, List.set]) ?_
          | refine wstepN rfl (idxT rfl rfl rfl (by assumption)) (by dsimp only [putV, List.set]) ?_
          | refine wstepN rfl rfl (by dsimp only [putV, List.set]) ?_
        first
          | refine wskipN rfl (by dsimp only [putV, List.set]) ?_
          | refine wstepN rfl (eqC (by first | rfl | assumption) (by assumption) rfl rfl) (by dsimp only [putV, List.set]) ?_
          | refine wstepN rfl (eqC (d := 47) rfl (by assumption) rfl rfl) (by dsimp only [putV, List.set]) ?_
          | refine wstepN rfl (eqC (d := 0) rfl (by assumption) rfl rfl) (by dsimp only [putV, List.set]) ?_
          | refine wstepN rfl (eqlK (by assumption) rfl rfl) (by dsimp only [putV, List.set]) ?_
          | refine wstepN rfl rfl (by dsimp only [putV, List.set]) ?_
        refine wstepN rfl rfl (by dsimp only [putV, List.set]) ?_
        refine wstepN rfl rfl (by dsimp only [putV, List.set]) ?_
        refine wnil (Ok.ret ⟨fun _ h => (by cases h), _, rfl, rfl⟩)
      · have hq2 : decide (s.take a.length = a) = false := decide_eq_false h2
        rw [hq2]
        refine Ok.seq (Ok.regionW (G := fun _ => true) (C := TabP _) mixed layOk noT TabP_calm (.inl rfl) ?_)
        refine wstepN rfl rfl (by dsimp only [putV, List.set]) ?_
        first
          | refine wstepN rfl (lenT rfl rfl) (by dsimp only [putV, List.set]) ?_
          | refine wstepN rfl rfl (by dsimp only [putV, List.set]) ?_
        refine wstepN rfl rfl (by dsimp only [putV, List.set]) ?_
        first
          | refine wstepN rfl (lenT rfl rfl) (by dsimp only [putV, List.set]) ?_
          | refine wstepN rfl rfl (by dsimp only [putV, List.set]) ?_
        first
          | refine wstepN rfl (gtrK (by assumption) rfl rfl) (by dsimp only [putV, List.set]) ?_
          | refine wstepN rfl rfl (by dsimp only [putV, List.set]) ?_
        refine wstepN rfl rfl (by dsimp only [putV, List.set]) ?_
        first
          | refine wskipN rfl (by dsimp only [putV, List.set]) ?_
          | refine wstepN rfl rfl (by dsimp only [putV, List.set]) ?_
        first
          | refine wskipN rfl (by dsimp only [putV, List.set]) ?_
          | refine wstepN rfl rfl (by dsimp only [putV, List.set]) ?_
        first
          | refine wskipN rfl (by dsimp only [putV, List.set]) ?_
          | refine wstepN rfl (lenT rfl rfl) (by dsimp only [putV, List.set]) ?_
          | refine wstepN rfl rfl (by dsimp only [putV, List.set]) ?_
        first
          | refine wskipN rfl (by dsimp only [putV, List.set]) ?_
          | refine wstepN rfl (cutToT rfl rfl rfl (by omega)) (by dsimp only [putV, List.set]) ?_
          | refine wstepN rfl (cutToT rfl rfl rfl (by assumption)) (by dsimp only [putV, List.set]) ?_
          | refine wstepN rfl rfl (by dsimp only [putV, List.set]) ?_
        first
          | refine wskipN rfl (by dsimp only [putV, List.set]) ?_
          | refine wstepN rfl rfl (by dsimp only [putV, List.set]) ?_
        first
          | refine wskipN rfl (by dsimp only [putV, List.set]) ?_
          | refine wstepN rfl (eqT (by assumption) rfl rfl) (by dsimp only [putV, List.set]) ?_
          | refine wstepN rfl rfl (by dsimp only [putV, List.set]) ?_
        refine wstepN rfl rfl (by dsimp only [putV, List.set]) ?_
        refine wstepN rfl rfl (by dsimp only [putV, List.set]) ?_
        first
          | refine wskipN rfl (by dsimp only [putV, List.set]) ?_
          | refine wstepN rfl rfl (by dsimp only [putV, List.set]) ?_
        first
          | refine wskipN rfl (by dsimp only [putV, List.set]) ?_
          | refine wstepN rfl rfl (by dsimp only [putV, List.set]) ?_
        first
          | refine wskipN rfl (by dsimp only [putV, List.set]) ?_
          | refine wstepN rfl (lenT rfl rfl) (by dsimp only [putV, List.set]) ?_
          | refine wstepN rfl rfl (by dsimp only [putV, List.set]) ?_
        first
          | refine wskipN rfl (by dsimp only [putV, List.set]) ?_
          | refine wstepN rfl (idxT rfl rfl rfl (by assumption)) (by dsimp only [putV, List.set]) ?_
          | refine wstepN rfl rfl (by dsimp only [putV, List.set]) ?_
        first
          | refine wskipN rfl (by dsimp only [putV, List.set]) ?_
          | refine wstepN rfl (eqC (by first | rfl | assumption) (by assumption) rfl rfl) (by dsimp only [putV, List.set]) ?_
          | refine wstepN rfl (eqC (d := 47) rfl (by assumption) rfl rfl) (by dsimp only [putV, List.set]) ?_
          | refine wstepN rfl (eqC (d := 0) rfl (by assumption) rfl rfl) (by dsimp only [putV, List.set]) ?_
          | refine wstepN rfl (eqlK (by assumption) rfl rfl) (by dsimp only [putV, List.set]) ?_
          | refine wstepN rfl rfl (by dsimp only [putV, List.set]) ?_
        refine wstepN rfl rfl (by dsimp only [putV, List.set]) ?_
        refine wstepN rfl rfl (by dsimp only [putV, List.set]) ?_
        refine wnil (Ok.ret ⟨fun _ h => (by cases h), _, rfl, rfl⟩)
    · have hq1 : decide ((s.length : Int) > (a.length : Int)) = false := decide_eq_false (by omega)
      rw [show decide (a.length < s.length) = false from decide_eq_false h1]
      refine Ok.seq (Ok.regionW (G := fun _ => true) (C := TabP _) mixed layOk noT TabP_calm (.inl rfl) ?_)
      refine wstepN rfl rfl (by dsimp only [putV, List.set]) ?_
      first
        | refine wstepN rfl (lenT rfl rfl) (by dsimp only [putV, List.set]) ?_
        | refine wstepN rfl rfl (by dsimp only [putV, List.set]) ?_
      refine wstepN rfl rfl (by dsimp only [putV, List.set]) ?_
      first
        | refine wstepN rfl (lenT rfl rfl) (by dsimp only [putV, List.set]) ?_
        | refine wstepN rfl rfl (by dsimp only [putV, List.set]) ?_
      first
        | refine wstepN rfl (gtrK (by assumption) rfl rfl) (by dsimp only [putV, List.set]) ?_
        | refine wstepN rfl rfl (by dsimp only [putV, List.set]) ?_
      refine wstepN rfl rfl (by dsimp only [putV, List.set]) ?_
      first
        | refine wskipN rfl (by dsimp only [putV, List.set]) ?_
        | refine wstepN rfl rfl (by dsimp only [putV, List.set]) ?_
      first
        | refine wskipN rfl (by dsimp only [putV, List.set]) ?_
        | refine wstepN rfl rfl (by dsimp only [putV, List.set]) ?_
      first
        | refine wskipN rfl (by dsimp only [putV, List.set]) ?_
        | refine wstepN rfl (lenT rfl rfl) (by dsimp only [putV, List.set]) ?_
        | refine wstepN rfl rfl (by dsimp only [putV, List.set]) ?_
      first
        | refine wskipN rfl (by dsimp only [putV, List.set]) ?_
        | refine wstepN rfl (cutToT rfl rfl rfl (by omega)) (by dsimp only [putV, List.set]) ?_
        | refine wstepN rfl (cutToT rfl rfl rfl (by assumption)) (by dsimp only [putV, List.set]) ?_
        | refine wstepN rfl rfl (by dsimp only [putV, List.set]) ?_
      first
        | refine wskipN rfl (by dsimp only [putV, List.set]) ?_
        | refine wstepN rfl rfl (by dsimp only [putV, List.set]) ?_
      first
        | refine wskipN rfl (by dsimp only [putV, List.set]) ?_
        | refine wstepN rfl (eqT (by assumption) rfl rfl) (by dsimp only [putV, List.set]) ?_
        | refine wstepN rfl rfl (by dsimp only [putV, List.set]) ?_
      refine wstepN rfl rfl (by dsimp only [putV, List.set]) ?_
      refine wstepN rfl rfl (by dsimp only [putV, List.set]) ?_
      first
        | refine wskipN rfl (by dsimp only [putV, List.set]) ?_
        | refine wstepN rfl rfl (by dsimp only [putV, List.set]) ?_
      first
        | refine wskipN rfl (by dsimp only [putV, List.set]) ?_
        | refine wstepN rfl rfl (by dsimp only [putV, List.set]) ?_
      first
        | refine wskipN rfl (by dsimp only [putV, List.set]) ?_
        | refine wstepN rfl (lenT rfl rfl) (by dsimp only [putV, List.set]) ?_
        | refine wstepN rfl rfl (by dsimp only [putV, List.set]) ?_
      first
        | refine wskipN rfl (by dsimp only [putV, List.set]) ?_
        | refine wstepN rfl (idxT rfl rfl rfl (by assumption)) (by dsimp only [putV, List.set]) ?_
        | refine wstepN rfl rfl (by dsimp only [putV, List.set]) ?_
      first
        | refine wskipN rfl (by dsimp only [putV, List.set]) ?_
        | refine wstepN rfl (eqC (by first | rfl | assumption) (by assumption) rfl rfl) (by dsimp only [putV, List.set]) ?_
        | refine wstepN rfl (eqC (d := 47) rfl (by assumption) rfl rfl) (by dsimp only [putV, List.set]) ?_
        | refine wstepN rfl (eqC (d := 0) rfl (by assumption) rfl rfl) (by dsimp only [putV, List.set]) ?_
        | refine wstepN rfl (eqlK (by assumption) rfl rfl) (by dsimp only [putV, List.set]) ?_
        | refine wstepN rfl rfl (by dsimp only [putV, List.set]) ?_
      refine wstepN rfl rfl (by dsimp only [putV, List.set]) ?_
      refine wstepN rfl rfl (by dsimp only [putV, List.set]) ?_
      refine wnil (Ok.ret ⟨fun _ h => (by cases h), _, rfl, rfl⟩)

end Go.Proofs.YtiefcnghjcafbaaDoorV

/- Lists of files: the errors about parents; small lists; lists compared. -/
namespace Go.Proofs.YtiefcnghjcafbaaDoorV
open Go Go.RowKit Go.Proofs.YtiefcnghjcafbaaDoor
set_option maxRecDepth 20000
set_option maxHeartbeats 4000000

section
variable {L : Lay} {C : CallT} {ts : List V} {bs : List Bx} {t t' p q r : TypeId} {x y : Operand} {v : Bool} {f g : Fl}
theorem eqF (h : decide (f = g) = v) (he : L.eqs t = some [p, q, r]) (h1 : L.str p = true) (h2 : L.bool q = true) (h3 : L.str r = true) (hx : evO ts x = some (valF f)) (hy : evO ts y = some (valF g)) : evX L C (.binOp .eql t x y t') ts bs = some (bV v, bs) := by
  have : eqL L [p, q, r] [T f.path, bV f.dir, T f.data] [T g.path, bV g.dir, T g.data] = some v := by
    simp only [eqL, h1, h2, h3, if_true, B_inj, beq_iff_eq]
    rw [← h]
    cases f; cases g
    simp only [Fl.mk.injEq]
    split
    · split
      · split <;> simp_all
      · simp_all
    · simp_all
  simp only [evX, ev, hx, hy, he, this, Option.map_some]
theorem neF (h : decide (f = g) = v) (he : L.eqs t = some [p, q, r]) (h1 : L.str p = true) (h2 : L.bool q = true) (h3 : L.str r = true) (hx : evO ts x = some (valF f)) (hy : evO ts y = some (valF g)) : evX L C (.binOp .neq t x y t') ts bs = some (bV !v, bs) := by
  have : eqL L [p, q, r] [T f.path, bV f.dir, T f.data] [T g.path, bV g.dir, T g.data] = some v := by
    simp only [eqL, h1, h2, h3, if_true, B_inj, beq_iff_eq]
    rw [← h]
    cases f; cases g
    simp only [Fl.mk.injEq]
    split
    · split
      · split <;> simp_all
      · simp_all
    · simp_all
  simp only [evX, ev, hx, hy, he, this, Option.map_some]
end

theorem parentB_lt (a : List UInt8) : parentB a = [47] ∨ (parentB a).length < a.length := by
  unfold parentB
  split
  · rename_i i h
    have := (List.getElem?_eq_some_iff.1 (last_lt h)).1
    refine .inr ?_
    simp
    omega
  · exact .inl rfl
theorem parentB_ne (a : List UInt8) : parentB a ≠ [] := by
  unfold parentB
  split
  · rename_i i h
    have := (List.getElem?_eq_some_iff.1 (last_lt h)).1
    intro e
    have := congrArg List.length e
    rw [List.length_take, Nat.min_eq_left (by omega)] at this
    simp at this
  · simp
theorem idx_cases (l : List Fl) (p : List UInt8) : (idxF l p = -1 ∧ notDir l p = false) ∨ ∃ k f, idxF l p = ((k : Nat) : Int) ∧ l[k]? = some f ∧ notDir l p = !f.dir := by
  unfold idxF notDir
  cases h : l.findIdx? fun f => decide (f.path = p) with
  | none =>
    refine .inl ⟨rfl, ?_⟩
    have h1 := List.findIdx?_eq_none_iff.1 h
    have : (l.find? fun f => decide (f.path = p)) = none := List.find?_eq_none.2 fun x hx => by
      have := h1 x hx
      simpa using this
    rw [this]
  | some k =>
    obtain ⟨h1, h2, h3⟩ := List.findIdx?_eq_some_iff_getElem.1 h
    refine .inr ⟨k, l[k], rfl, List.getElem?_eq_getElem h1, ?_⟩
    have : (l.find? fun f => decide (f.path = p)) = some l[k] := List.find?_eq_some_iff_getElem.2 ⟨h2, k, h1, rfl, fun j hj => by
      have := h3 j hj
      simpa using this⟩
    rw [this]

inductive P43 (l : List Fl) : FuncId → List V → V → Prop
  | par (s : List UInt8) (h : s.length ≤ 100000) : P43 l 36 [T s] (T (parentB s))
  | idx (p : List UInt8) : P43 l 42 [.sl (rowsF l), T p] (iV (idxF l p))
theorem P43_u (l : List Fl) : Uniq (P43 l) := fun f vs v v' h h' => by cases h <;> cases h' <;> rfl
theorem P43_good (l : List Fl) (hl : l.length ≤ 100000) : Good Tryd.prog (TabP (P43 l)) := TabP_good fun f vs v h => by
  cases h with
  | par s h => exact ⟨parent36 s h, rfl, rfl, Tryd.call36⟩
  | idx p => exact ⟨index42 l p hl, rfl, rfl, Tryd.call42⟩

theorem perr43 (l : List Fl) (p : List UInt8) (hl : l.length ≤ 100000) (hp : p.length ≤ 10000) : FnOk Tryd.prog 43 [.sl (rowsF l), T p] [] (fun r bs' => fr bs' r = iV (perrP l p)) := by
  refine FnOk.fast (Q := fun r => r = iV (perrP l p)) layOk Tryd.func43 rfl ?_
  have hT := P43_good l hl
  have hU := P43_u l
  have hpp : P43 l 36 [T p] (T (parentB p)) := .par p (by omega)
  have hlen := parentB_len p
  refine Ok.seq (go 10 rfl ?_)
  refine Ok.seq (Ok.seq ?_)
  refine Ok.regionW (G := fun _ => true) (C := TabP _) mixed layOk hT TabP_calm (.inl rfl) ?_
  refine wstepN rfl rfl (by dsimp only [putV, List.set]) ?_
  first
    | refine wstepN rfl (hit36 (by first | assumption | omega)) (by dsimp only [putV, List.set]) ?_
    | refine wstepN rfl (T1_hit) (by dsimp only [putV, List.set]) ?_
    | refine wstepN rfl (TabP_use (by assumption) (by assumption)) (by dsimp only [putV, List.set]) ?_
    | refine wstepN rfl (TabP_hit (fun v' h => by cases h; rfl) (by assumption)) (by dsimp only [putV, List.set]) ?_
    | refine wstepN rfl (TabP_hit (fun v' h => by cases h; rfl) (by constructor)) (by dsimp only [putV, List.set]) ?_
    | refine wstepN rfl rfl (by dsimp only [putV, List.set]) ?_
  refine wstepN rfl rfl (by dsimp only [putV, List.set]) ?_
  refine wnil ?_
  refine Ok.gc (bs2 := []) [] [0, 1, 5] (by kernel_rfl) (by decide) (floor_ok rfl) ?_
  refine Ok.block (Ok.loop (fun n ts bs => ∃ a, a ≠ [] ∧ (a = [47] ∨ a.length ≤ n) ∧ n ≤ 20000 ∧ blockP l (parentB p).length (parentB p) = blockP l n a ∧ bs = [] ∧ ts = (((List.replicate 31 V.gone).set 0 (.sl (rowsF l))).set 1 (T p)).set 5 (T a)) (parentB p).length ?_ ?_)
  · exact ⟨parentB p, parentB_ne p, .inr (Nat.le_refl _), by omega, rfl, rfl, rfl⟩
  rintro n _ _ ⟨a, hane, han, hn, hblk, rfl, rfl⟩
  simp only [List.replicate, List.set]
  refine Ok.seq (Ok.seq ?_)
  by_cases e47 : a = [47]
  · have hq : decide (a = [47]) = true := decide_eq_true e47
    have hb0 : blockP l n a = false := by
      subst e47
      cases n with
      | zero => rfl
      | succ n => rfl
    rw [hb0] at hblk
    refine Ok.regionW (G := fun _ => true) (C := TabP _) mixed layOk noT TabP_calm (.inl rfl) ?_
    refine wstepN rfl rfl (by dsimp only [putV, List.set]) ?_
    first
      | refine wstepN rfl (neqT (by assumption) rfl rfl) (by dsimp only [putV, List.set]) ?_
      | refine wstepN rfl rfl (by dsimp only [putV, List.set]) ?_
    refine wnil (Ok.cond (b := false) rfl (fun h => by cases h) (fun _ => ?_))
    refine Ok.exit ?_
    have hix : P43 l 42 [.sl (rowsF l), T (parentB p)] (iV (idxF l (parentB p))) := .idx _
    have hhas := idxF_has l (parentB p)
    refine Ok.seq ?_
    cases hh : hasF l (parentB p)
    · rw [hh] at hhas
      rw [show perrP l p = 8 by rw [perrP, hblk, hh]; rfl]
      refine Ok.seq (Ok.regionW (G := fun _ => true) (C := TabP _) mixed layOk hT TabP_calm (.inl rfl) ?_)
      refine wstepN rfl rfl (by dsimp only [putV, List.set]) ?_
      refine wstepN rfl rfl (by dsimp only [putV, List.set]) ?_
      first
        | refine wstepN rfl (hit36 (by first | assumption | omega)) (by dsimp only [putV, List.set]) ?_
        | refine wstepN rfl (T1_hit) (by dsimp only [putV, List.set]) ?_
        | refine wstepN rfl (TabP_use (by assumption) (by assumption)) (by dsimp only [putV, List.set]) ?_
        | refine wstepN rfl (TabP_hit (fun v' h => by cases h; rfl) (by assumption)) (by dsimp only [putV, List.set]) ?_
        | refine wstepN rfl (TabP_hit (fun v' h => by cases h; rfl) (by constructor)) (by dsimp only [putV, List.set]) ?_
        | refine wstepN rfl rfl (by dsimp only [putV, List.set]) ?_
      first
        | refine wstepN rfl (hit42 (by first | assumption | omega)) (by dsimp only [putV, List.set]) ?_
        | refine wstepN rfl (T1_hit) (by dsimp only [putV, List.set]) ?_
        | refine wstepN rfl (TabP_use (by assumption) (by assumption)) (by dsimp only [putV, List.set]) ?_
        | refine wstepN rfl (TabP_hit (fun v' h => by cases h; rfl) (by assumption)) (by dsimp only [putV, List.set]) ?_
        | refine wstepN rfl (TabP_hit (fun v' h => by cases h; rfl) (by constructor)) (by dsimp only [putV, List.set]) ?_
        | refine wstepN rfl rfl (by dsimp only [putV, List.set]) ?_
      first
        | refine wstepN rfl (lssK h0 rfl rfl) (by dsimp only [putV, List.set]) ?_
        | refine wstepN rfl (ltT (by assumption) rfl rfl) (by dsimp only [putV, List.set]) ?_
        | refine wstepN rfl (lssK (by assumption) rfl rfl) (by dsimp only [putV, List.set]) ?_
        | refine wstepN rfl rfl (by dsimp only [putV, List.set]) ?_
      refine wnil (Ok.cond (b := true) rfl (fun _ => ?_) (fun h => by cases h))
      exact go 10 rfl ⟨fun _ h => (by cases h), _, rfl, rfl⟩
    · rw [hh] at hhas
      rw [show perrP l p = 0 by rw [perrP, hblk, hh]; rfl]
      refine Ok.seq (Ok.regionW (G := fun _ => true) (C := TabP _) mixed layOk hT TabP_calm (.inl rfl) ?_)
      refine wstepN rfl rfl (by dsimp only [putV, List.set]) ?_
      refine wstepN rfl rfl (by dsimp only [putV, List.set]) ?_
      first
        | refine wstepN rfl (hit36 (by first | assumption | omega)) (by dsimp only [putV, List.set]) ?_
        | refine wstepN rfl (T1_hit) (by dsimp only [putV, List.set]) ?_
        | refine wstepN rfl (TabP_use (by assumption) (by assumption)) (by dsimp only [putV, List.set]) ?_
        | refine wstepN rfl (TabP_hit (fun v' h => by cases h; rfl) (by assumption)) (by dsimp only [putV, List.set]) ?_
        | refine wstepN rfl (TabP_hit (fun v' h => by cases h; rfl) (by constructor)) (by dsimp only [putV, List.set]) ?_
        | refine wstepN rfl rfl (by dsimp only [putV, List.set]) ?_
      first
        | refine wstepN rfl (hit42 (by first | assumption | omega)) (by dsimp only [putV, List.set]) ?_
        | refine wstepN rfl (T1_hit) (by dsimp only [putV, List.set]) ?_
        | refine wstepN rfl (TabP_use (by assumption) (by assumption)) (by dsimp only [putV, List.set]) ?_
        | refine wstepN rfl (TabP_hit (fun v' h => by cases h; rfl) (by assumption)) (by dsimp only [putV, List.set]) ?_
        | refine wstepN rfl (TabP_hit (fun v' h => by cases h; rfl) (by constructor)) (by dsimp only [putV, List.set]) ?_
        | refine wstepN rfl rfl (by dsimp only [putV, List.set]) ?_
      first
        | refine wstepN rfl (lssK h0 rfl rfl) (by dsimp only [putV, List.set]) ?_
        | refine wstepN rfl (ltT (by assumption) rfl rfl) (by dsimp only [putV, List.set]) ?_
        | refine wstepN rfl (lssK (by assumption) rfl rfl) (by dsimp only [putV, List.set]) ?_
        | refine wstepN rfl rfl (by dsimp only [putV, List.set]) ?_
      refine wnil (Ok.cond (b := false) rfl (fun h => by cases h) (fun _ => ?_))
      refine Ok.skip ?_
      exact go 10 rfl ⟨fun _ h => (by cases h), _, rfl, rfl⟩
  · have hq : decide (a = [47]) = false := decide_eq_false e47
    have han' : a.length ≤ n := han.resolve_left e47
    obtain ⟨m, rfl⟩ : ∃ m, n = m + 1 := by
      cases n with
      | zero => exact absurd (List.eq_nil_of_length_eq_zero (by omega)) hane
      | succ m => exact ⟨m, rfl⟩
    have hb1 : blockP l (m + 1) a = (notDir l a || blockP l m (parentB a)) := by
      rw [blockP, hq]
      rfl
    rw [hb1] at hblk
    have hix : P43 l 42 [.sl (rowsF l), T a] (iV (idxF l a)) := .idx _
    have hpa : P43 l 36 [T a] (T (parentB a)) := .par a (by omega)
    refine Ok.regionW (G := fun _ => true) (C := TabP _) mixed layOk noT TabP_calm (.inl rfl) ?_
    refine wstepN rfl rfl (by dsimp only [putV, List.set]) ?_
    first
      | refine wstepN rfl (neqT (by assumption) rfl rfl) (by dsimp only [putV, List.set]) ?_
      | refine wstepN rfl rfl (by dsimp only [putV, List.set]) ?_
    refine wnil (Ok.cond (b := true) rfl (fun _ => ?_) (fun h => by cases h))
    refine Ok.skip ?_
    refine Ok.after (Ok.seq (Ok.block ?_))
    refine Ok.seq (Ok.regionW (G := fun _ => true) (C := TabP _) mixed layOk hT TabP_calm (.inl rfl) ?_)
    refine wstepN rfl rfl (by dsimp only [putV, List.set]) ?_
    refine wstepN rfl rfl (by dsimp only [putV, List.set]) ?_
    first
      | refine wstepN rfl (hit42 (by first | assumption | omega)) (by dsimp only [putV, List.set]) ?_
      | refine wstepN rfl (T1_hit) (by dsimp only [putV, List.set]) ?_
      | refine wstepN rfl (TabP_use (by assumption) (by assumption)) (by dsimp only [putV, List.set]) ?_
      | refine wstepN rfl (TabP_hit (fun v' h => by cases h; rfl) (by assumption)) (by dsimp only [putV, List.set]) ?_
      | refine wstepN rfl (TabP_hit (fun v' h => by cases h; rfl) (by constructor)) (by dsimp only [putV, List.set]) ?_
      | refine wstepN rfl rfl (by dsimp only [putV, List.set]) ?_
    refine wstepN rfl rfl (by dsimp only [putV, List.set]) ?_
    refine wnil ?_
    refine Ok.seq ?_
    have hnext : parentB a = [47] ∨ (parentB a).length ≤ m := by
      rcases parentB_lt a with h | h
      · exact .inl h
      · exact .inr (by omega)
    rcases idx_cases l a with ⟨h1, h2⟩ | ⟨k, f, h1, h2, h3⟩
    · have hq2 : decide (idxF l a ≥ 0) = false := by rw [h1]; rfl
      rw [h2, Bool.false_or] at hblk
      refine Ok.regionW (G := fun _ => true) (C := TabP _) mixed layOk noT TabP_calm (.inl rfl) ?_
      refine wstepN rfl rfl (by dsimp only [putV, List.set]) ?_
      first
        | refine wstepN rfl (geqK h0 rfl rfl) (by dsimp only [putV, List.set]) ?_
        | refine wstepN rfl (geqK (by assumption) rfl rfl) (by dsimp only [putV, List.set]) ?_
        | refine wstepN rfl rfl (by dsimp only [putV, List.set]) ?_
      refine wstepN rfl rfl (by dsimp only [putV, List.set]) ?_
      first
        | refine wskipN rfl (by dsimp only [putV, List.set]) ?_
        | refine wstepN rfl rfl (by dsimp only [putV, List.set]) ?_
      first
        | refine wskipN rfl (by dsimp only [putV, List.set]) ?_
        | refine wstepN rfl rfl (by dsimp only [putV, List.set]) ?_
      first
        | refine wskipN rfl (by dsimp only [putV, List.set]) ?_
        | refine wstepN rfl (ev_ix rfl rfl rfl (by assumption) rfl) (by dsimp only [putV, List.set]) ?_
        | refine wstepN rfl rfl (by dsimp only [putV, List.set]) ?_
      first
        | refine wskipN rfl (by dsimp only [putV, List.set]) ?_
        | refine wstepN rfl rfl (by dsimp only [putV, List.set]) ?_
      first
        | refine wskipN rfl (by dsimp only [putV, List.set]) ?_
        | refine wstepN rfl rfl (by dsimp only [putV, List.set]) ?_
      first
        | refine wskipN rfl (by dsimp only [putV, List.set]) ?_
        | refine wstepN rfl rfl (by dsimp only [putV, List.set]) ?_
      refine wstepN rfl rfl (by dsimp only [putV, List.set]) ?_
      refine wnil (Ok.cond (b := false) rfl (fun h => by cases h) (fun _ => ?_))
      refine Ok.skip ?_
      refine Ok.regionW (G := fun _ => true) (C := TabP _) mixed layOk hT TabP_calm (.inl rfl) ?_
      refine wstepN rfl rfl (by dsimp only [putV, List.set]) ?_
      first
        | refine wstepN rfl (hit36 (by first | assumption | omega)) (by dsimp only [putV, List.set]) ?_
        | refine wstepN rfl (T1_hit) (by dsimp only [putV, List.set]) ?_
        | refine wstepN rfl (TabP_use (by assumption) (by assumption)) (by dsimp only [putV, List.set]) ?_
        | refine wstepN rfl (TabP_hit (fun v' h => by cases h; rfl) (by assumption)) (by dsimp only [putV, List.set]) ?_
        | refine wstepN rfl (TabP_hit (fun v' h => by cases h; rfl) (by constructor)) (by dsimp only [putV, List.set]) ?_
        | refine wstepN rfl rfl (by dsimp only [putV, List.set]) ?_
      refine wstepN rfl rfl (by dsimp only [putV, List.set]) ?_
      refine wnil ⟨[], [0, 1, 5], [], by kernel_rfl, by decide, floor_ok rfl, m, by omega, parentB a, parentB_ne a, hnext, by omega, hblk, rfl, rfl⟩
    · rw [h1]
      have hq2 : decide (((k : Nat) : Int) ≥ 0) = true := by simp
      have hget := rowsF_at h2
      rw [h3] at hblk
      cases hd : f.dir
      · rw [hd] at hblk
        rw [show perrP l p = 18 by rw [perrP, hblk]; rfl]
        refine Ok.regionW (G := fun _ => true) (C := TabP _) mixed layOk noT TabP_calm (.inl rfl) ?_
        refine wstepN rfl rfl (by dsimp only [putV, List.set]) ?_
        first
          | refine wstepN rfl (geqK h0 rfl rfl) (by dsimp only [putV, List.set]) ?_
          | refine wstepN rfl (geqK (by assumption) rfl rfl) (by dsimp only [putV, List.set]) ?_
          | refine wstepN rfl rfl (by dsimp only [putV, List.set]) ?_
        refine wstepN rfl rfl (by dsimp only [putV, List.set]) ?_
        first
          | refine wskipN rfl (by dsimp only [putV, List.set]) ?_
          | refine wstepN rfl rfl (by dsimp only [putV, List.set]) ?_
        first
          | refine wskipN rfl (by dsimp only [putV, List.set]) ?_
          | refine wstepN rfl rfl (by dsimp only [putV, List.set]) ?_
        first
          | refine wskipN rfl (by dsimp only [putV, List.set]) ?_
          | refine wstepN rfl (ev_ix rfl rfl rfl (by assumption) rfl) (by dsimp only [putV, List.set]) ?_
          | refine wstepN rfl rfl (by dsimp only [putV, List.set]) ?_
        first
          | refine wskipN rfl (by dsimp only [putV, List.set]) ?_
          | refine wstepN rfl rfl (by dsimp only [putV, List.set]) ?_
        first
          | refine wskipN rfl (by dsimp only [putV, List.set]) ?_
          | refine wstepN rfl rfl (by dsimp only [putV, List.set]) ?_
        first
          | refine wskipN rfl (by dsimp only [putV, List.set]) ?_
          | refine wstepN rfl rfl (by dsimp only [putV, List.set]) ?_
        refine wstepN rfl rfl (by dsimp only [putV, List.set]) ?_
        rw [hd]
        refine wnil (Ok.cond (b := true) rfl (fun _ => ?_) (fun h => by cases h))
        refine Ok.seq (Ok.regionW (G := fun _ => true) (C := TabP _) mixed layOk noT TabP_calm (.inl rfl) ?_)
        refine wstepN rfl rfl (by dsimp only [putV, List.set]) ?_
        refine wnil (Ok.ret ?_)
        exact ⟨[], [4], [], by kernel_rfl, by decide, floor_ok rfl, fun _ h => (by cases h), _, rfl, rfl⟩
      · rw [hd] at hblk
        refine Ok.regionW (G := fun _ => true) (C := TabP _) mixed layOk noT TabP_calm (.inl rfl) ?_
        refine wstepN rfl rfl (by dsimp only [putV, List.set]) ?_
        first
          | refine wstepN rfl (geqK h0 rfl rfl) (by dsimp only [putV, List.set]) ?_
          | refine wstepN rfl (geqK (by assumption) rfl rfl) (by dsimp only [putV, List.set]) ?_
          | refine wstepN rfl rfl (by dsimp only [putV, List.set]) ?_
        refine wstepN rfl rfl (by dsimp only [putV, List.set]) ?_
        first
          | refine wskipN rfl (by dsimp only [putV, List.set]) ?_
          | refine wstepN rfl rfl (by dsimp only [putV, List.set]) ?_
        first
          | refine wskipN rfl (by dsimp only [putV, List.set]) ?_
          | refine wstepN rfl rfl (by dsimp only [putV, List.set]) ?_
        first
          | refine wskipN rfl (by dsimp only [putV, List.set]) ?_
          | refine wstepN rfl (ev_ix rfl rfl rfl (by assumption) rfl) (by dsimp only [putV, List.set]) ?_
          | refine wstepN rfl rfl (by dsimp only [putV, List.set]) ?_
        first
          | refine wskipN rfl (by dsimp only [putV, List.set]) ?_
          | refine wstepN rfl rfl (by dsimp only [putV, List.set]) ?_
        first
          | refine wskipN rfl (by dsimp only [putV, List.set]) ?_
          | refine wstepN rfl rfl (by dsimp only [putV, List.set]) ?_
        first
          | refine wskipN rfl (by dsimp only [putV, List.set]) ?_
          | refine wstepN rfl rfl (by dsimp only [putV, List.set]) ?_
        refine wstepN rfl rfl (by dsimp only [putV, List.set]) ?_
        rw [hd]
        refine wnil (Ok.cond (b := false) rfl (fun h => by cases h) (fun _ => ?_))
        refine Ok.skip ?_
        refine Ok.regionW (G := fun _ => true) (C := TabP _) mixed layOk hT TabP_calm (.inl rfl) ?_
        refine wstepN rfl rfl (by dsimp only [putV, List.set]) ?_
        first
          | refine wstepN rfl (hit36 (by first | assumption | omega)) (by dsimp only [putV, List.set]) ?_
          | refine wstepN rfl (T1_hit) (by dsimp only [putV, List.set]) ?_
          | refine wstepN rfl (TabP_use (by assumption) (by assumption)) (by dsimp only [putV, List.set]) ?_
          | refine wstepN rfl (TabP_hit (fun v' h => by cases h; rfl) (by assumption)) (by dsimp only [putV, List.set]) ?_
          | refine wstepN rfl (TabP_hit (fun v' h => by cases h; rfl) (by constructor)) (by dsimp only [putV, List.set]) ?_
          | refine wstepN rfl rfl (by dsimp only [putV, List.set]) ?_
        refine wstepN rfl rfl (by dsimp only [putV, List.set]) ?_
        refine wnil ⟨[], [0, 1, 5], [], by kernel_rfl, by decide, floor_ok rfl, m, by omega, parentB a, parentB_ne a, hnext, by omega, hblk, rfl, rfl⟩

inductive P33 (l : List Fl) : FuncId → List V → V → Prop
  | par (s : List UInt8) (h : s.length ≤ 100000) : P33 l 40 [T s] (T (parentB s))
  | idx (p : List UInt8) : P33 l 46 [.sl (rowsF l), T p] (iV (idxF l p))
  | above (a s : List UInt8) : P33 l 58 [T a, T s] (bV (aboveB a s))
theorem P33_u (l : List Fl) : Uniq (P33 l) := fun f vs v v' h h' => by cases h <;> cases h' <;> rfl
theorem P33_good (l : List Fl) (hl : l.length ≤ 100000) : Good Tryd.prog (TabP (P33 l)) := TabP_good fun f vs v h => by
  cases h with
  | par s h => exact ⟨rparent40 s h, rfl, rfl, Tryd.call40⟩
  | idx p => exact ⟨rfind46 l p hl, rfl, rfl, Tryd.call46⟩
  | above a s => exact ⟨above58 a s, rfl, rfl, Tryd.call58⟩

theorem rperr33 (l : List Fl) (p : List UInt8) (hl : l.length ≤ 100000) (hp : p.length ≤ 10000) : FnOk Tryd.prog 33 [.sl (rowsF l), T p] [] (fun r bs' => fr bs' r = iV (perrR l p)) := by
  refine FnOk.fast (Q := fun r => r = iV (perrR l p)) layOk Tryd.func33 rfl ?_
  have hT := P33_good l hl
  have hU := P33_u l
  have hpp : P33 l 40 [T p] (T (parentB p)) := .par p (by omega)
  obtain ⟨N, hN⟩ : ∃ N, l.length = N := ⟨_, rfl⟩
  refine Ok.seq (go 10 rfl ?_)
  refine Ok.seq (Ok.seq (go 10 rfl ?_))
  refine Ok.gc (bs2 := []) [] [0, 1, 5] (by kernel_rfl) (by decide) (floor_ok rfl) ?_
  refine Ok.count N (fun k ts bs => (l.take k).any (fun f => !f.dir && aboveB f.path p) = false ∧ k ≤ N ∧ bs = [] ∧ ts = (((List.replicate 32 V.gone).set 0 (.sl (rowsF l))).set 1 (T p)).set 5 (iV (k : Int))) ?_ ?_
  · exact ⟨rfl, Nat.zero_le _, rfl, rfl⟩
  rintro k _ _ ⟨hno, hk, rfl, rfl⟩
  simp only [List.replicate, List.set]
  refine Ok.seq (Ok.seq ?_)
  cases hlt : decide (k < N)
  · refine Ok.regionW (G := fun _ => true) (C := TabP _) mixed layOk noT TabP_calm (.inl rfl) ?_
    refine wstepN rfl rfl (by dsimp only [putV, List.set]) ?_
    refine wstepN rfl rfl (by dsimp only [putV, List.set]) ?_
    first
      | refine wstepN rfl (lenF hN rfl rfl) (by dsimp only [putV, List.set]) ?_
      | refine wstepN rfl (lenF hM rfl rfl) (by dsimp only [putV, List.set]) ?_
      | refine wstepN rfl (lenF (by assumption) rfl rfl) (by dsimp only [putV, List.set]) ?_
      | refine wstepN rfl rfl (by dsimp only [putV, List.set]) ?_
    first
      | refine wstepN rfl (ltT hlt rfl rfl) (by dsimp only [putV, List.set]) ?_
      | refine wstepN rfl (ltT (by assumption) rfl rfl) (by dsimp only [putV, List.set]) ?_
      | refine wstepN rfl (lssK (by assumption) rfl rfl) (by dsimp only [putV, List.set]) ?_
      | refine wstepN rfl rfl (by dsimp only [putV, List.set]) ?_
    refine wnil (Ok.cond (b := false) rfl (fun h => by cases h) (fun _ => ?_))
    refine Ok.exit ?_
    have := of_decide_eq_false hlt
    rw [List.take_of_length_le (by omega)] at hno
    have hix : P33 l 46 [.sl (rowsF l), T (parentB p)] (iV (idxF l (parentB p))) := .idx _
    have hhas := idxF_has l (parentB p)
    refine Ok.seq ?_
    cases hh : hasF l (parentB p)
    · rw [hh] at hhas
      rw [show perrR l p = 8 by rw [perrR, hno, hh]; rfl]
      refine Ok.seq (Ok.regionW (G := fun _ => true) (C := TabP _) mixed layOk hT TabP_calm (.inl rfl) ?_)
      refine wstepN rfl rfl (by dsimp only [putV, List.set]) ?_
      refine wstepN rfl rfl (by dsimp only [putV, List.set]) ?_
      first
        | refine wstepN rfl (hit40 (by first | assumption | omega)) (by dsimp only [putV, List.set]) ?_
        | refine wstepN rfl (T1_hit) (by dsimp only [putV, List.set]) ?_
        | refine wstepN rfl (TabP_use (by assumption) (by assumption)) (by dsimp only [putV, List.set]) ?_
        | refine wstepN rfl (TabP_hit (fun v' h => by cases h; rfl) (by assumption)) (by dsimp only [putV, List.set]) ?_
        | refine wstepN rfl (TabP_hit (fun v' h => by cases h; rfl) (by constructor)) (by dsimp only [putV, List.set]) ?_
        | refine wstepN rfl rfl (by dsimp only [putV, List.set]) ?_
      first
        | refine wstepN rfl (hit46 (by first | assumption | omega)) (by dsimp only [putV, List.set]) ?_
        | refine wstepN rfl (T1_hit) (by dsimp only [putV, List.set]) ?_
        | refine wstepN rfl (TabP_use (by assumption) (by assumption)) (by dsimp only [putV, List.set]) ?_
        | refine wstepN rfl (TabP_hit (fun v' h => by cases h; rfl) (by assumption)) (by dsimp only [putV, List.set]) ?_
        | refine wstepN rfl (TabP_hit (fun v' h => by cases h; rfl) (by constructor)) (by dsimp only [putV, List.set]) ?_
        | refine wstepN rfl rfl (by dsimp only [putV, List.set]) ?_
      first
        | refine wstepN rfl (lssK h0 rfl rfl) (by dsimp only [putV, List.set]) ?_
        | refine wstepN rfl (ltT (by assumption) rfl rfl) (by dsimp only [putV, List.set]) ?_
        | refine wstepN rfl (lssK (by assumption) rfl rfl) (by dsimp only [putV, List.set]) ?_
        | refine wstepN rfl rfl (by dsimp only [putV, List.set]) ?_
      refine wnil (Ok.cond (b := true) rfl (fun _ => ?_) (fun h => by cases h))
      exact go 10 rfl ⟨fun _ h => (by cases h), _, rfl, rfl⟩
    · rw [hh] at hhas
      rw [show perrR l p = 0 by rw [perrR, hno, hh]; rfl]
      refine Ok.seq (Ok.regionW (G := fun _ => true) (C := TabP _) mixed layOk hT TabP_calm (.inl rfl) ?_)
      refine wstepN rfl rfl (by dsimp only [putV, List.set]) ?_
      refine wstepN rfl rfl (by dsimp only [putV, List.set]) ?_
      first
        | refine wstepN rfl (hit40 (by first | assumption | omega)) (by dsimp only [putV, List.set]) ?_
        | refine wstepN rfl (T1_hit) (by dsimp only [putV, List.set]) ?_
        | refine wstepN rfl (TabP_use (by assumption) (by assumption)) (by dsimp only [putV, List.set]) ?_
        | refine wstepN rfl (TabP_hit (fun v' h => by cases h; rfl) (by assumption)) (by dsimp only [putV, List.set]) ?_
        | refine wstepN rfl (TabP_hit (fun v' h => by cases h; rfl) (by constructor)) (by dsimp only [putV, List.set]) ?_
        | refine wstepN rfl rfl (by dsimp only [putV, List.set]) ?_
      first
        | refine wstepN rfl (hit46 (by first | assumption | omega)) (by dsimp only [putV, List.set]) ?_
        | refine wstepN rfl (T1_hit) (by dsimp only [putV, List.set]) ?_
        | refine wstepN rfl (TabP_use (by assumption) (by assumption)) (by dsimp only [putV, List.set]) ?_
        | refine wstepN rfl (TabP_hit (fun v' h => by cases h; rfl) (by assumption)) (by dsimp only [putV, List.set]) ?_
        | refine wstepN rfl (TabP_hit (fun v' h => by cases h; rfl) (by constructor)) (by dsimp only [putV, List.set]) ?_
        | refine wstepN rfl rfl (by dsimp only [putV, List.set]) ?_
      first
        | refine wstepN rfl (lssK h0 rfl rfl) (by dsimp only [putV, List.set]) ?_
        | refine wstepN rfl (ltT (by assumption) rfl rfl) (by dsimp only [putV, List.set]) ?_
        | refine wstepN rfl (lssK (by assumption) rfl rfl) (by dsimp only [putV, List.set]) ?_
        | refine wstepN rfl rfl (by dsimp only [putV, List.set]) ?_
      refine wnil (Ok.cond (b := false) rfl (fun h => by cases h) (fun _ => ?_))
      refine Ok.skip ?_
      exact go 10 rfl ⟨fun _ h => (by cases h), _, rfl, rfl⟩
  · have hlt' : k < N := of_decide_eq_true hlt
    obtain ⟨f, hf⟩ : ∃ f, l[k]? = some f := ⟨_, List.getElem?_eq_getElem (by omega)⟩
    have hget := rowsF_at hf
    have hnext := take_anyF (q := fun f => !f.dir && aboveB f.path p) hf
    have hmem := List.mem_of_getElem? hf
    have hab : P33 l 58 [T f.path, T p] (bV (aboveB f.path p)) := .above _ _
    refine Ok.regionW (G := fun _ => true) (C := TabP _) mixed layOk noT TabP_calm (.inl rfl) ?_
    refine wstepN rfl rfl (by dsimp only [putV, List.set]) ?_
    refine wstepN rfl rfl (by dsimp only [putV, List.set]) ?_
    first
      | refine wstepN rfl (lenF hN rfl rfl) (by dsimp only [putV, List.set]) ?_
      | refine wstepN rfl (lenF hM rfl rfl) (by dsimp only [putV, List.set]) ?_
      | refine wstepN rfl (lenF (by assumption) rfl rfl) (by dsimp only [putV, List.set]) ?_
      | refine wstepN rfl rfl (by dsimp only [putV, List.set]) ?_
    first
      | refine wstepN rfl (ltT hlt rfl rfl) (by dsimp only [putV, List.set]) ?_
      | refine wstepN rfl (ltT (by assumption) rfl rfl) (by dsimp only [putV, List.set]) ?_
      | refine wstepN rfl (lssK (by assumption) rfl rfl) (by dsimp only [putV, List.set]) ?_
      | refine wstepN rfl rfl (by dsimp only [putV, List.set]) ?_
    refine wnil (Ok.cond (b := true) rfl (fun _ => ?_) (fun h => by cases h))
    refine Ok.skip ?_
    refine Ok.after (Ok.seq (Ok.block (Ok.seq ?_)))
    cases hd : f.dir
    · cases ha : aboveB f.path p
      · rw [ha] at hab
        refine Ok.regionW (G := fun _ => true) (C := TabP _) mixed layOk hT TabP_calm (.inl rfl) ?_
        refine wstepN rfl rfl (by dsimp only [putV, List.set]) ?_
        refine wstepN rfl rfl (by dsimp only [putV, List.set]) ?_
        first
          | refine wstepN rfl (ev_ix rfl rfl rfl (by assumption) rfl) (by dsimp only [putV, List.set]) ?_
          | refine wstepN rfl rfl (by dsimp only [putV, List.set]) ?_
        refine wstepN rfl rfl (by dsimp only [putV, List.set]) ?_
        refine wstepN rfl rfl (by dsimp only [putV, List.set]) ?_
        rw [hd]
        refine wstepN rfl rfl (by dsimp only [putV, List.set]) ?_
        refine wstepN rfl rfl (by dsimp only [putV, List.set]) ?_
        first
          | refine wskipN rfl (by dsimp only [putV, List.set]) ?_
          | refine wstepN rfl rfl (by dsimp only [putV, List.set]) ?_
        first
          | refine wskipN rfl (by dsimp only [putV, List.set]) ?_
          | refine wstepN rfl rfl (by dsimp only [putV, List.set]) ?_
        first
          | refine wskipN rfl (by dsimp only [putV, List.set]) ?_
          | refine wstepN rfl (ev_ix rfl rfl rfl (by assumption) rfl) (by dsimp only [putV, List.set]) ?_
          | refine wstepN rfl rfl (by dsimp only [putV, List.set]) ?_
        first
          | refine wskipN rfl (by dsimp only [putV, List.set]) ?_
          | refine wstepN rfl rfl (by dsimp only [putV, List.set]) ?_
        first
          | refine wskipN rfl (by dsimp only [putV, List.set]) ?_
          | refine wstepN rfl (ldT rfl rfl) (by dsimp only [putV, List.set]) ?_
          | refine wstepN rfl (ldE rfl rfl) (by dsimp only [putV, List.set]) ?_
          | refine wstepN rfl rfl (by dsimp only [putV, List.set]) ?_
        first
          | refine wskipN rfl (by dsimp only [putV, List.set]) ?_
          | refine wstepN rfl rfl (by dsimp only [putV, List.set]) ?_
        first
          | refine wskipN rfl (by dsimp only [putV, List.set]) ?_
          | refine wstepN rfl (hit58 (by first | assumption | omega)) (by dsimp only [putV, List.set]) ?_
          | refine wstepN rfl (T1_hit) (by dsimp only [putV, List.set]) ?_
          | refine wstepN rfl (TabP_use (by assumption) (by assumption)) (by dsimp only [putV, List.set]) ?_
          | refine wstepN rfl (TabP_hit (fun v' h => by cases h; rfl) (by assumption)) (by dsimp only [putV, List.set]) ?_
          | refine wstepN rfl (TabP_hit (fun v' h => by cases h; rfl) (by constructor)) (by dsimp only [putV, List.set]) ?_
          | refine wstepN rfl rfl (by dsimp only [putV, List.set]) ?_
        refine wstepN rfl rfl (by dsimp only [putV, List.set]) ?_
        refine wnil (Ok.cond (b := false) rfl (fun h => by cases h) (fun _ => ?_))
        refine Ok.skip ?_
        refine Ok.regionW (G := fun _ => true) (C := TabP _) mixed layOk noT TabP_calm (.inl rfl) ?_
        refine wstepN rfl rfl (by dsimp only [putV, List.set]) ?_
        first
          | refine wstepN rfl (incT (by omega) rfl rfl) (by dsimp only [putV, List.set]) ?_
          | refine wstepN rfl (addK (by assumption) rfl rfl) (by dsimp only [putV, List.set]) ?_
          | refine wstepN rfl rfl (by dsimp only [putV, List.set]) ?_
        refine wstepN rfl rfl (by dsimp only [putV, List.set]) ?_
        refine wnil ⟨[], [0, 1, 5], [], by kernel_rfl, by decide, floor_ok rfl, hlt', by rw [hnext, hno, ha, Bool.and_false]; rfl, hlt', rfl, rfl⟩
      · rw [ha] at hab
        rw [show perrR l p = 18 by
          rw [perrR, if_pos (List.any_eq_true.2 ⟨f, hmem, by rw [hd, ha]; rfl⟩)]]
        refine Ok.regionW (G := fun _ => true) (C := TabP _) mixed layOk hT TabP_calm (.inl rfl) ?_
        refine wstepN rfl rfl (by dsimp only [putV, List.set]) ?_
        refine wstepN rfl rfl (by dsimp only [putV, List.set]) ?_
        first
          | refine wstepN rfl (ev_ix rfl rfl rfl (by assumption) rfl) (by dsimp only [putV, List.set]) ?_
          | refine wstepN rfl rfl (by dsimp only [putV, List.set]) ?_
        refine wstepN rfl rfl (by dsimp only [putV, List.set]) ?_
        refine wstepN rfl rfl (by dsimp only [putV, List.set]) ?_
        rw [hd]
        refine wstepN rfl rfl (by dsimp only [putV, List.set]) ?_
        refine wstepN rfl rfl (by dsimp only [putV, List.set]) ?_
        first
          | refine wskipN rfl (by dsimp only [putV, List.set]) ?_
          | refine wstepN rfl rfl (by dsimp only [putV, List.set]) ?_
        first
          | refine wskipN rfl (by dsimp only [putV, List.set]) ?_
          | refine wstepN rfl rfl (by dsimp only [putV, List.set]) ?_
        first
          | refine wskipN rfl (by dsimp only [putV, List.set]) ?_
          | refine wstepN rfl (ev_ix rfl rfl rfl (by assumption) rfl) (by dsimp only [putV, List.set]) ?_
          | refine wstepN rfl rfl (by dsimp only [putV, List.set]) ?_
        first
          | refine wskipN rfl (by dsimp only [putV, List.set]) ?_
          | refine wstepN rfl rfl (by dsimp only [putV, List.set]) ?_
        first
          | refine wskipN rfl (by dsimp only [putV, List.set]) ?_
          | refine wstepN rfl (ldT rfl rfl) (by dsimp only [putV, List.set]) ?_
          | refine wstepN rfl (ldE rfl rfl) (by dsimp only [putV, List.set]) ?_
          | refine wstepN rfl rfl (by dsimp only [putV, List.set]) ?_
        first
          | refine wskipN rfl (by dsimp only [putV, List.set]) ?_
          | refine wstepN rfl rfl (by dsimp only [putV, List.set]) ?_
        first
          | refine wskipN rfl (by dsimp only [putV, List.set]) ?_
          | refine wstepN rfl (hit58 (by first | assumption | omega)) (by dsimp only [putV, List.set]) ?_
          | refine wstepN rfl (T1_hit) (by dsimp only [putV, List.set]) ?_
          | refine wstepN rfl (TabP_use (by assumption) (by assumption)) (by dsimp only [putV, List.set]) ?_
          | refine wstepN rfl (TabP_hit (fun v' h => by cases h; rfl) (by assumption)) (by dsimp only [putV, List.set]) ?_
          | refine wstepN rfl (TabP_hit (fun v' h => by cases h; rfl) (by constructor)) (by dsimp only [putV, List.set]) ?_
          | refine wstepN rfl rfl (by dsimp only [putV, List.set]) ?_
        refine wstepN rfl rfl (by dsimp only [putV, List.set]) ?_
        refine wnil (Ok.cond (b := true) rfl (fun _ => ?_) (fun h => by cases h))
        refine Ok.seq (Ok.regionW (G := fun _ => true) (C := TabP _) mixed layOk noT TabP_calm (.inl rfl) ?_)
        refine wstepN rfl rfl (by dsimp only [putV, List.set]) ?_
        refine wnil (Ok.ret ?_)
        exact ⟨[], [4], [], by kernel_rfl, by decide, floor_ok rfl, fun _ h => (by cases h), _, rfl, rfl⟩
    · refine Ok.regionW (G := fun _ => true) (C := TabP _) mixed layOk noT TabP_calm (.inl rfl) ?_
      refine wstepN rfl rfl (by dsimp only [putV, List.set]) ?_
      refine wstepN rfl rfl (by dsimp only [putV, List.set]) ?_
      first
        | refine wstepN rfl (ev_ix rfl rfl rfl (by assumption) rfl) (by dsimp only [putV, List.set]) ?_
        | refine wstepN rfl rfl (by dsimp only [putV, List.set]) ?_
      refine wstepN rfl rfl (by dsimp only [putV, List.set]) ?_
      refine wstepN rfl rfl (by dsimp only [putV, List.set]) ?_
      rw [hd]
      refine wstepN rfl rfl (by dsimp only [putV, List.set]) ?_
      refine wstepN rfl rfl (by dsimp only [putV, List.set]) ?_
      first
        | refine wskipN rfl (by dsimp only [putV, List.set]) ?_
        | refine wstepN rfl rfl (by dsimp only [putV, List.set]) ?_
      first
        | refine wskipN rfl (by dsimp only [putV, List.set]) ?_
        | refine wstepN rfl rfl (by dsimp only [putV, List.set]) ?_
      first
        | refine wskipN rfl (by dsimp only [putV, List.set]) ?_
        | refine wstepN rfl (ev_ix rfl rfl rfl (by assumption) rfl) (by dsimp only [putV, List.set]) ?_
        | refine wstepN rfl rfl (by dsimp only [putV, List.set]) ?_
      first
        | refine wskipN rfl (by dsimp only [putV, List.set]) ?_
        | refine wstepN rfl rfl (by dsimp only [putV, List.set]) ?_
      first
        | refine wskipN rfl (by dsimp only [putV, List.set]) ?_
        | refine wstepN rfl (ldT rfl rfl) (by dsimp only [putV, List.set]) ?_
        | refine wstepN rfl (ldE rfl rfl) (by dsimp only [putV, List.set]) ?_
        | refine wstepN rfl rfl (by dsimp only [putV, List.set]) ?_
      first
        | refine wskipN rfl (by dsimp only [putV, List.set]) ?_
        | refine wstepN rfl rfl (by dsimp only [putV, List.set]) ?_
      first
        | refine wskipN rfl (by dsimp only [putV, List.set]) ?_
        | refine wstepN rfl (hit58 (by first | assumption | omega)) (by dsimp only [putV, List.set]) ?_
        | refine wstepN rfl (T1_hit) (by dsimp only [putV, List.set]) ?_
        | refine wstepN rfl (TabP_use (by assumption) (by assumption)) (by dsimp only [putV, List.set]) ?_
        | refine wstepN rfl (TabP_hit (fun v' h => by cases h; rfl) (by assumption)) (by dsimp only [putV, List.set]) ?_
        | refine wstepN rfl (TabP_hit (fun v' h => by cases h; rfl) (by constructor)) (by dsimp only [putV, List.set]) ?_
        | refine wstepN rfl rfl (by dsimp only [putV, List.set]) ?_
      refine wstepN rfl rfl (by dsimp only [putV, List.set]) ?_
      refine wnil (Ok.cond (b := false) rfl (fun h => by cases h) (fun _ => ?_))
      refine Ok.skip ?_
      refine Ok.regionW (G := fun _ => true) (C := TabP _) mixed layOk noT TabP_calm (.inl rfl) ?_
      refine wstepN rfl rfl (by dsimp only [putV, List.set]) ?_
      first
        | refine wstepN rfl (incT (by omega) rfl rfl) (by dsimp only [putV, List.set]) ?_
        | refine wstepN rfl (addK (by assumption) rfl rfl) (by dsimp only [putV, List.set]) ?_
        | refine wstepN rfl rfl (by dsimp only [putV, List.set]) ?_
      refine wstepN rfl rfl (by dsimp only [putV, List.set]) ?_
      refine wnil ⟨[], [0, 1, 5], [], by kernel_rfl, by decide, floor_ok rfl, hlt', by rw [hnext, hno, hd]; rfl, hlt', rfl, rfl⟩

def smallG (N : Nat) : Nat → Nat → List Fl → Bool
  | _, n, [] => decide (N ≤ 140) && decide (n < 40000)
  | i, n, f :: r => if i < 140 ∧ n < 40000 then (if 300 < f.path.length ∨ 9000 < f.data.length then false else smallG N (i + 1) (n + f.path.length + f.data.length) r) else decide (N ≤ 140) && decide (n < 40000)
def smallB (l : List Fl) : Bool := smallG l.length 0 0 l
theorem smallG_is {N : Nat} : ∀ (r : List Fl) (i n : Nat), i + r.length = N → smallG N i n r = true → N ≤ 140 ∧ ∀ f ∈ r, f.path.length ≤ 300 ∧ f.data.length ≤ 9000
  | [], i, n, hN, h => by
    simp only [smallG, Bool.and_eq_true, decide_eq_true_eq] at h
    exact ⟨h.1, fun f hf => by cases hf⟩
  | f :: r, i, n, hN, h => by
    rw [smallG] at h
    simp only [List.length_cons] at hN
    split at h
    · split at h
      · cases h
      · rename_i h1 h2
        obtain ⟨h3, h4⟩ := smallG_is r (i + 1) _ (by omega) h
        refine ⟨h3, fun g hg => ?_⟩
        rcases List.mem_cons.1 hg with rfl | hg
        · omega
        · exact h4 g hg
    · rename_i h1
      simp only [Bool.and_eq_true, decide_eq_true_eq] at h
      omega
theorem small_is {l : List Fl} (h : smallB l = true) : l.length ≤ 140 ∧ ∀ f ∈ l, f.path.length ≤ 300 ∧ f.data.length ≤ 9000 := smallG_is l 0 0 (by omega) h
theorem smallG_drop {N : Nat} {l : List Fl} {k n : Nat} {f : Fl} (hf : l[k]? = some f) : smallG N k n (l.drop k) = if k < 140 ∧ n < 40000 then (if 300 < f.path.length ∨ 9000 < f.data.length then false else smallG N (k + 1) (n + f.path.length + f.data.length) (l.drop (k + 1))) else decide (N ≤ 140) && decide (n < 40000) := by
  obtain ⟨h1, h2⟩ := List.getElem?_eq_some_iff.1 hf
  rw [List.drop_eq_getElem_cons h1, h2, smallG]

theorem small8 (l : List Fl) : FnOk Tryd.prog 8 [.sl (rowsF l)] [] (fun r bs' => fr bs' r = bV (smallB l)) := by
  refine FnOk.fast (Q := fun r => r = bV (smallB l)) layOk Tryd.func8 rfl ?_
  obtain ⟨N, hN⟩ : ∃ N, l.length = N := ⟨_, rfl⟩
  rw [show smallB l = smallG N 0 0 l by rw [smallB, hN]]
  refine Ok.seq (go 10 rfl ?_)
  refine Ok.seq (go 10 rfl ?_)
  refine Ok.seq (Ok.seq (go 10 rfl ?_))
  refine Ok.gc (bs2 := []) [] [0, 3, 4] (by kernel_rfl) (by decide) (floor_ok rfl) ?_
  refine Ok.count 140 (fun k ts bs => ∃ n : Nat, smallG N 0 0 l = smallG N k n (l.drop k) ∧ k ≤ N ∧ k ≤ 140 ∧ n ≤ 50000 ∧ bs = [] ∧ ts = (((List.replicate 57 V.gone).set 0 (.sl (rowsF l))).set 3 (iV (n : Int))).set 4 (iV (k : Int))) ?_ ?_
  · exact ⟨0, rfl, Nat.zero_le _, Nat.zero_le _, Nat.zero_le _, rfl, rfl⟩
  rintro k _ _ ⟨n, hsm, hk, hk140, hn, rfl, rfl⟩
  simp only [List.replicate, List.set]
  refine Ok.seq (Ok.seq ?_)
  cases hlt : decide (k < N)
  · have hge := of_decide_eq_false hlt
    rw [List.drop_of_length_le (by omega), smallG] at hsm
    refine Ok.regionW (G := fun _ => true) (C := TabP _) mixed layOk noT TabP_calm (.inl rfl) ?_
    refine wstepN rfl rfl (by dsimp only [putV, List.set]) ?_
    refine wstepN rfl rfl (by dsimp only [putV, List.set]) ?_
    first
      | refine wstepN rfl (lenF hN rfl rfl) (by dsimp only [putV, List.set]) ?_
      | refine wstepN rfl (lenF hM rfl rfl) (by dsimp only [putV, List.set]) ?_
      | refine wstepN rfl (lenF (by assumption) rfl rfl) (by dsimp only [putV, List.set]) ?_
      | refine wstepN rfl rfl (by dsimp only [putV, List.set]) ?_
    first
      | refine wstepN rfl (ltT hlt rfl rfl) (by dsimp only [putV, List.set]) ?_
      | refine wstepN rfl (ltT (by assumption) rfl rfl) (by dsimp only [putV, List.set]) ?_
      | refine wstepN rfl (lssK (by assumption) rfl rfl) (by dsimp only [putV, List.set]) ?_
      | refine wstepN rfl rfl (by dsimp only [putV, List.set]) ?_
    refine wstepN rfl rfl (by dsimp only [putV, List.set]) ?_
    first
      | refine wskipN rfl (by dsimp only [putV, List.set]) ?_
      | refine wstepN rfl rfl (by dsimp only [putV, List.set]) ?_
    first
      | refine wskipN rfl (by dsimp only [putV, List.set]) ?_
      | refine wstepN rfl (lssK h140 rfl rfl) (by dsimp only [putV, List.set]) ?_
      | refine wstepN rfl (ltT (by assumption) rfl rfl) (by dsimp only [putV, List.set]) ?_
      | refine wstepN rfl (lssK (by assumption) rfl rfl) (by dsimp only [putV, List.set]) ?_
      | refine wstepN rfl rfl (by dsimp only [putV, List.set]) ?_
    refine wstepN rfl rfl (by dsimp only [putV, List.set]) ?_
    refine wstepN rfl rfl (by dsimp only [putV, List.set]) ?_
    first
      | refine wskipN rfl (by dsimp only [putV, List.set]) ?_
      | refine wstepN rfl rfl (by dsimp only [putV, List.set]) ?_
    first
      | refine wskipN rfl (by dsimp only [putV, List.set]) ?_
      | refine wstepN rfl (lssK h40000 rfl rfl) (by dsimp only [putV, List.set]) ?_
      | refine wstepN rfl (ltT (by assumption) rfl rfl) (by dsimp only [putV, List.set]) ?_
      | refine wstepN rfl (lssK (by assumption) rfl rfl) (by dsimp only [putV, List.set]) ?_
      | refine wstepN rfl rfl (by dsimp only [putV, List.set]) ?_
    refine wstepN rfl rfl (by dsimp only [putV, List.set]) ?_
    refine wnil (Ok.cond (b := false) rfl (fun h => by cases h) (fun _ => ?_))
    refine Ok.exit ?_
    cases h140 : decide ((N : Int) ≤ 140)
    · rw [show decide (N ≤ 140) = false from decide_eq_false (by have := of_decide_eq_false h140; omega)] at hsm
      rw [hsm]
      refine Ok.seq (Ok.regionW (G := fun _ => true) (C := TabP _) mixed layOk noT TabP_calm (.inl rfl) ?_)
      refine wstepN rfl rfl (by dsimp only [putV, List.set]) ?_
      first
        | refine wstepN rfl (lenF hN rfl rfl) (by dsimp only [putV, List.set]) ?_
        | refine wstepN rfl (lenF hM rfl rfl) (by dsimp only [putV, List.set]) ?_
        | refine wstepN rfl (lenF (by assumption) rfl rfl) (by dsimp only [putV, List.set]) ?_
        | refine wstepN rfl rfl (by dsimp only [putV, List.set]) ?_
      first
        | refine wstepN rfl (leqK h140 rfl rfl) (by dsimp only [putV, List.set]) ?_
        | refine wstepN rfl (leqK (by assumption) rfl rfl) (by dsimp only [putV, List.set]) ?_
        | refine wstepN rfl rfl (by dsimp only [putV, List.set]) ?_
      refine wstepN rfl rfl (by dsimp only [putV, List.set]) ?_
      first
        | refine wskipN rfl (by dsimp only [putV, List.set]) ?_
        | refine wstepN rfl rfl (by dsimp only [putV, List.set]) ?_
      first
        | refine wskipN rfl (by dsimp only [putV, List.set]) ?_
        | refine wstepN rfl (lssK h40000 rfl rfl) (by dsimp only [putV, List.set]) ?_
        | refine wstepN rfl (ltT (by assumption) rfl rfl) (by dsimp only [putV, List.set]) ?_
        | refine wstepN rfl (lssK (by assumption) rfl rfl) (by dsimp only [putV, List.set]) ?_
        | refine wstepN rfl rfl (by dsimp only [putV, List.set]) ?_
      refine wstepN rfl rfl (by dsimp only [putV, List.set]) ?_
      refine wstepN rfl rfl (by dsimp only [putV, List.set]) ?_
      refine wnil (Ok.ret ⟨fun _ h => (by cases h), _, rfl, rfl⟩)
    · rw [show decide (N ≤ 140) = true from decide_eq_true (by have := of_decide_eq_true h140; omega)] at hsm
      cases h40000 : decide ((n : Int) < 40000)
      · rw [show decide (n < 40000) = false from decide_eq_false (by have := of_decide_eq_false h40000; omega)] at hsm
        rw [hsm]
        refine Ok.seq (Ok.regionW (G := fun _ => true) (C := TabP _) mixed layOk noT TabP_calm (.inl rfl) ?_)
        refine wstepN rfl rfl (by dsimp only [putV, List.set]) ?_
        first
          | refine wstepN rfl (lenF hN rfl rfl) (by dsimp only [putV, List.set]) ?_
          | refine wstepN rfl (lenF hM rfl rfl) (by dsimp only [putV, List.set]) ?_
          | refine wstepN rfl (lenF (by assumption) rfl rfl) (by dsimp only [putV, List.set]) ?_
          | refine wstepN rfl rfl (by dsimp only [putV, List.set]) ?_
        first
          | refine wstepN rfl (leqK h140 rfl rfl) (by dsimp only [putV, List.set]) ?_
          | refine wstepN rfl (leqK (by assumption) rfl rfl) (by dsimp only [putV, List.set]) ?_
          | refine wstepN rfl rfl (by dsimp only [putV, List.set]) ?_
        refine wstepN rfl rfl (by dsimp only [putV, List.set]) ?_
        first
          | refine wskipN rfl (by dsimp only [putV, List.set]) ?_
          | refine wstepN rfl rfl (by dsimp only [putV, List.set]) ?_
        first
          | refine wskipN rfl (by dsimp only [putV, List.set]) ?_
          | refine wstepN rfl (lssK h40000 rfl rfl) (by dsimp only [putV, List.set]) ?_
          | refine wstepN rfl (ltT (by assumption) rfl rfl) (by dsimp only [putV, List.set]) ?_
          | refine wstepN rfl (lssK (by assumption) rfl rfl) (by dsimp only [putV, List.set]) ?_
          | refine wstepN rfl rfl (by dsimp only [putV, List.set]) ?_
        refine wstepN rfl rfl (by dsimp only [putV, List.set]) ?_
        refine wstepN rfl rfl (by dsimp only [putV, List.set]) ?_
        refine wnil (Ok.ret ⟨fun _ h => (by cases h), _, rfl, rfl⟩)
      · rw [show decide (n < 40000) = true from decide_eq_true (by have := of_decide_eq_true h40000; omega)] at hsm
        rw [hsm]
        refine Ok.seq (Ok.regionW (G := fun _ => true) (C := TabP _) mixed layOk noT TabP_calm (.inl rfl) ?_)
        refine wstepN rfl rfl (by dsimp only [putV, List.set]) ?_
        first
          | refine wstepN rfl (lenF hN rfl rfl) (by dsimp only [putV, List.set]) ?_
          | refine wstepN rfl (lenF hM rfl rfl) (by dsimp only [putV, List.set]) ?_
          | refine wstepN rfl (lenF (by assumption) rfl rfl) (by dsimp only [putV, List.set]) ?_
          | refine wstepN rfl rfl (by dsimp only [putV, List.set]) ?_
        first
          | refine wstepN rfl (leqK h140 rfl rfl) (by dsimp only [putV, List.set]) ?_
          | refine wstepN rfl (leqK (by assumption) rfl rfl) (by dsimp only [putV, List.set]) ?_
          | refine wstepN rfl rfl (by dsimp only [putV, List.set]) ?_
        refine wstepN rfl rfl (by dsimp only [putV, List.set]) ?_
        first
          | refine wskipN rfl (by dsimp only [putV, List.set]) ?_
          | refine wstepN rfl rfl (by dsimp only [putV, List.set]) ?_
        first
          | refine wskipN rfl (by dsimp only [putV, List.set]) ?_
          | refine wstepN rfl (lssK h40000 rfl rfl) (by dsimp only [putV, List.set]) ?_
          | refine wstepN rfl (ltT (by assumption) rfl rfl) (by dsimp only [putV, List.set]) ?_
          | refine wstepN rfl (lssK (by assumption) rfl rfl) (by dsimp only [putV, List.set]) ?_
          | refine wstepN rfl rfl (by dsimp only [putV, List.set]) ?_
        refine wstepN rfl rfl (by dsimp only [putV, List.set]) ?_
        refine wstepN rfl rfl (by dsimp only [putV, List.set]) ?_
        refine wnil (Ok.ret ⟨fun _ h => (by cases h), _, rfl, rfl⟩)
  have hlt' : k < N := of_decide_eq_true hlt
  obtain ⟨f, hf⟩ : ∃ f, l[k]? = some f := ⟨_, List.getElem?_eq_getElem (by omega)⟩
  rw [smallG_drop hf] at hsm
  cases h140 : decide ((k : Int) < 140)
  · have hge := of_decide_eq_false h140
    rw [if_neg (by omega)] at hsm
    refine Ok.regionW (G := fun _ => true) (C := TabP _) mixed layOk noT TabP_calm (.inl rfl) ?_
    refine wstepN rfl rfl (by dsimp only [putV, List.set]) ?_
    refine wstepN rfl rfl (by dsimp only [putV, List.set]) ?_
    first
      | refine wstepN rfl (lenF hN rfl rfl) (by dsimp only [putV, List.set]) ?_
      | refine wstepN rfl (lenF hM rfl rfl) (by dsimp only [putV, List.set]) ?_
      | refine wstepN rfl (lenF (by assumption) rfl rfl) (by dsimp only [putV, List.set]) ?_
      | refine wstepN rfl rfl (by dsimp only [putV, List.set]) ?_
    first
      | refine wstepN rfl (ltT hlt rfl rfl) (by dsimp only [putV, List.set]) ?_
      | refine wstepN rfl (ltT (by assumption) rfl rfl) (by dsimp only [putV, List.set]) ?_
      | refine wstepN rfl (lssK (by assumption) rfl rfl) (by dsimp only [putV, List.set]) ?_
      | refine wstepN rfl rfl (by dsimp only [putV, List.set]) ?_
    refine wstepN rfl rfl (by dsimp only [putV, List.set]) ?_
    first
      | refine wskipN rfl (by dsimp only [putV, List.set]) ?_
      | refine wstepN rfl rfl (by dsimp only [putV, List.set]) ?_
    first
      | refine wskipN rfl (by dsimp only [putV, List.set]) ?_
      | refine wstepN rfl (lssK h140 rfl rfl) (by dsimp only [putV, List.set]) ?_
      | refine wstepN rfl (ltT (by assumption) rfl rfl) (by dsimp only [putV, List.set]) ?_
      | refine wstepN rfl (lssK (by assumption) rfl rfl) (by dsimp only [putV, List.set]) ?_
      | refine wstepN rfl rfl (by dsimp only [putV, List.set]) ?_
    refine wstepN rfl rfl (by dsimp only [putV, List.set]) ?_
    refine wstepN rfl rfl (by dsimp only [putV, List.set]) ?_
    first
      | refine wskipN rfl (by dsimp only [putV, List.set]) ?_
      | refine wstepN rfl rfl (by dsimp only [putV, List.set]) ?_
    first
      | refine wskipN rfl (by dsimp only [putV, List.set]) ?_
      | refine wstepN rfl (lssK h40000 rfl rfl) (by dsimp only [putV, List.set]) ?_
      | refine wstepN rfl (ltT (by assumption) rfl rfl) (by dsimp only [putV, List.set]) ?_
      | refine wstepN rfl (lssK (by assumption) rfl rfl) (by dsimp only [putV, List.set]) ?_
      | refine wstepN rfl rfl (by dsimp only [putV, List.set]) ?_
    refine wstepN rfl rfl (by dsimp only [putV, List.set]) ?_
    refine wnil (Ok.cond (b := false) rfl (fun h => by cases h) (fun _ => ?_))
    refine Ok.exit ?_
    cases h140 : decide ((N : Int) ≤ 140)
    · rw [show decide (N ≤ 140) = false from decide_eq_false (by have := of_decide_eq_false h140; omega)] at hsm
      rw [hsm]
      refine Ok.seq (Ok.regionW (G := fun _ => true) (C := TabP _) mixed layOk noT TabP_calm (.inl rfl) ?_)
      refine wstepN rfl rfl (by dsimp only [putV, List.set]) ?_
      first
        | refine wstepN rfl (lenF hN rfl rfl) (by dsimp only [putV, List.set]) ?_
        | refine wstepN rfl (lenF hM rfl rfl) (by dsimp only [putV, List.set]) ?_
        | refine wstepN rfl (lenF (by assumption) rfl rfl) (by dsimp only [putV, List.set]) ?_
        | refine wstepN rfl rfl (by dsimp only [putV, List.set]) ?_
      first
        | refine wstepN rfl (leqK h140 rfl rfl) (by dsimp only [putV, List.set]) ?_
        | refine wstepN rfl (leqK (by assumption) rfl rfl) (by dsimp only [putV, List.set]) ?_
        | refine wstepN rfl rfl (by dsimp only [putV, List.set]) ?_
      refine wstepN rfl rfl (by dsimp only [putV, List.set]) ?_
      first
        | refine wskipN rfl (by dsimp only [putV, List.set]) ?_
        | refine wstepN rfl rfl (by dsimp only [putV, List.set]) ?_
      first
        | refine wskipN rfl (by dsimp only [putV, List.set]) ?_
        | refine wstepN rfl (lssK h40000 rfl rfl) (by dsimp only [putV, List.set]) ?_
        | refine wstepN rfl (ltT (by assumption) rfl rfl) (by dsimp only [putV, List.set]) ?_
        | refine wstepN rfl (lssK (by assumption) rfl rfl) (by dsimp only [putV, List.set]) ?_
        | refine wstepN rfl rfl (by dsimp only [putV, List.set]) ?_
      refine wstepN rfl rfl (by dsimp only [putV, List.set]) ?_
      refine wstepN rfl rfl (by dsimp only [putV, List.set]) ?_
      refine wnil (Ok.ret ⟨fun _ h => (by cases h), _, rfl, rfl⟩)
    · rw [show decide (N ≤ 140) = true from decide_eq_true (by have := of_decide_eq_true h140; omega)] at hsm
      cases h40000 : decide ((n : Int) < 40000)
      · rw [show decide (n < 40000) = false from decide_eq_false (by have := of_decide_eq_false h40000; omega)] at hsm
        rw [hsm]
        refine Ok.seq (Ok.regionW (G := fun _ => true) (C := TabP _) mixed layOk noT TabP_calm (.inl rfl) ?_)
        refine wstepN rfl rfl (by dsimp only [putV, List.set]) ?_
        first
          | refine wstepN rfl (lenF hN rfl rfl) (by dsimp only [putV, List.set]) ?_
          | refine wstepN rfl (lenF hM rfl rfl) (by dsimp only [putV, List.set]) ?_
          | refine wstepN rfl (lenF (by assumption) rfl rfl) (by dsimp only [putV, List.set]) ?_
          | refine wstepN rfl rfl (by dsimp only [putV, List.set]) ?_
        first
          | refine wstepN rfl (leqK h140 rfl rfl) (by dsimp only [putV, List.set]) ?_
          | refine wstepN rfl (leqK (by assumption) rfl rfl) (by dsimp only [putV, List.set]) ?_
          | refine wstepN rfl rfl (by dsimp only [putV, List.set]) ?_
        refine wstepN rfl rfl (by dsimp only [putV, List.set]) ?_
        first
          | refine wskipN rfl (by dsimp only [putV, List.set]) ?_
          | refine wstepN rfl rfl (by dsimp only [putV, List.set]) ?_
        first
          | refine wskipN rfl (by dsimp only [putV, List.set]) ?_
          | refine wstepN rfl (lssK h40000 rfl rfl) (by dsimp only [putV, List.set]) ?_
          | refine wstepN rfl (ltT (by assumption) rfl rfl) (by dsimp only [putV, List.set]) ?_
          | refine wstepN rfl (lssK (by assumption) rfl rfl) (by dsimp only [putV, List.set]) ?_
          | refine wstepN rfl rfl (by dsimp only [putV, List.set]) ?_
        refine wstepN rfl rfl (by dsimp only [putV, List.set]) ?_
        refine wstepN rfl rfl (by dsimp only [putV, List.set]) ?_
        refine wnil (Ok.ret ⟨fun _ h => (by cases h), _, rfl, rfl⟩)
      · rw [show decide (n < 40000) = true from decide_eq_true (by have := of_decide_eq_true h40000; omega)] at hsm
        rw [hsm]
        refine Ok.seq (Ok.regionW (G := fun _ => true) (C := TabP _) mixed layOk noT TabP_calm (.inl rfl) ?_)
        refine wstepN rfl rfl (by dsimp only [putV, List.set]) ?_
        first
          | refine wstepN rfl (lenF hN rfl rfl) (by dsimp only [putV, List.set]) ?_
          | refine wstepN rfl (lenF hM rfl rfl) (by dsimp only [putV, List.set]) ?_
          | refine wstepN rfl (lenF (by assumption) rfl rfl) (by dsimp only [putV, List.set]) ?_
          | refine wstepN rfl rfl (by dsimp only [putV, List.set]) ?_
        first
          | refine wstepN rfl (leqK h140 rfl rfl) (by dsimp only [putV, List.set]) ?_
          | refine wstepN rfl (leqK (by assumption) rfl rfl) (by dsimp only [putV, List.set]) ?_
          | refine wstepN rfl rfl (by dsimp only [putV, List.set]) ?_
        refine wstepN rfl rfl (by dsimp only [putV, List.set]) ?_
        first
          | refine wskipN rfl (by dsimp only [putV, List.set]) ?_
          | refine wstepN rfl rfl (by dsimp only [putV, List.set]) ?_
        first
          | refine wskipN rfl (by dsimp only [putV, List.set]) ?_
          | refine wstepN rfl (lssK h40000 rfl rfl) (by dsimp only [putV, List.set]) ?_
          | refine wstepN rfl (ltT (by assumption) rfl rfl) (by dsimp only [putV, List.set]) ?_
          | refine wstepN rfl (lssK (by assumption) rfl rfl) (by dsimp only [putV, List.set]) ?_
          | refine wstepN rfl rfl (by dsimp only [putV, List.set]) ?_
        refine wstepN rfl rfl (by dsimp only [putV, List.set]) ?_
        refine wstepN rfl rfl (by dsimp only [putV, List.set]) ?_
        refine wnil (Ok.ret ⟨fun _ h => (by cases h), _, rfl, rfl⟩)
  have h140' := of_decide_eq_true h140
  cases h40000 : decide ((n : Int) < 40000)
  · have hge := of_decide_eq_false h40000
    rw [if_neg (by omega)] at hsm
    rw [show decide (n < 40000) = false from decide_eq_false (by omega), Bool.and_false] at hsm
    rw [hsm]
    refine Ok.regionW (G := fun _ => true) (C := TabP _) mixed layOk noT TabP_calm (.inl rfl) ?_
    refine wstepN rfl rfl (by dsimp only [putV, List.set]) ?_
    refine wstepN rfl rfl (by dsimp only [putV, List.set]) ?_
    first
      | refine wstepN rfl (lenF hN rfl rfl) (by dsimp only [putV, List.set]) ?_
      | refine wstepN rfl (lenF hM rfl rfl) (by dsimp only [putV, List.set]) ?_
      | refine wstepN rfl (lenF (by assumption) rfl rfl) (by dsimp only [putV, List.set]) ?_
      | refine wstepN rfl rfl (by dsimp only [putV, List.set]) ?_
    first
      | refine wstepN rfl (ltT hlt rfl rfl) (by dsimp only [putV, List.set]) ?_
      | refine wstepN rfl (ltT (by assumption) rfl rfl) (by dsimp only [putV, List.set]) ?_
      | refine wstepN rfl (lssK (by assumption) rfl rfl) (by dsimp only [putV, List.set]) ?_
      | refine wstepN rfl rfl (by dsimp only [putV, List.set]) ?_
    refine wstepN rfl rfl (by dsimp only [putV, List.set]) ?_
    first
      | refine wskipN rfl (by dsimp only [putV, List.set]) ?_
      | refine wstepN rfl rfl (by dsimp only [putV, List.set]) ?_
    first
      | refine wskipN rfl (by dsimp only [putV, List.set]) ?_
      | refine wstepN rfl (lssK h140 rfl rfl) (by dsimp only [putV, List.set]) ?_
      | refine wstepN rfl (ltT (by assumption) rfl rfl) (by dsimp only [putV, List.set]) ?_
      | refine wstepN rfl (lssK (by assumption) rfl rfl) (by dsimp only [putV, List.set]) ?_
      | refine wstepN rfl rfl (by dsimp only [putV, List.set]) ?_
    refine wstepN rfl rfl (by dsimp only [putV, List.set]) ?_
    refine wstepN rfl rfl (by dsimp only [putV, List.set]) ?_
    first
      | refine wskipN rfl (by dsimp only [putV, List.set]) ?_
      | refine wstepN rfl rfl (by dsimp only [putV, List.set]) ?_
    first
      | refine wskipN rfl (by dsimp only [putV, List.set]) ?_
      | refine wstepN rfl (lssK h40000 rfl rfl) (by dsimp only [putV, List.set]) ?_
      | refine wstepN rfl (ltT (by assumption) rfl rfl) (by dsimp only [putV, List.set]) ?_
      | refine wstepN rfl (lssK (by assumption) rfl rfl) (by dsimp only [putV, List.set]) ?_
      | refine wstepN rfl rfl (by dsimp only [putV, List.set]) ?_
    refine wstepN rfl rfl (by dsimp only [putV, List.set]) ?_
    refine wnil (Ok.cond (b := false) rfl (fun h => by cases h) (fun _ => ?_))
    refine Ok.exit ?_
    cases h140 : decide ((N : Int) ≤ 140)
    · refine Ok.seq (Ok.regionW (G := fun _ => true) (C := TabP _) mixed layOk noT TabP_calm (.inl rfl) ?_)
      refine wstepN rfl rfl (by dsimp only [putV, List.set]) ?_
      first
        | refine wstepN rfl (lenF hN rfl rfl) (by dsimp only [putV, List.set]) ?_
        | refine wstepN rfl (lenF hM rfl rfl) (by dsimp only [putV, List.set]) ?_
        | refine wstepN rfl (lenF (by assumption) rfl rfl) (by dsimp only [putV, List.set]) ?_
        | refine wstepN rfl rfl (by dsimp only [putV, List.set]) ?_
      first
        | refine wstepN rfl (leqK h140 rfl rfl) (by dsimp only [putV, List.set]) ?_
        | refine wstepN rfl (leqK (by assumption) rfl rfl) (by dsimp only [putV, List.set]) ?_
        | refine wstepN rfl rfl (by dsimp only [putV, List.set]) ?_
      refine wstepN rfl rfl (by dsimp only [putV, List.set]) ?_
      first
        | refine wskipN rfl (by dsimp only [putV, List.set]) ?_
        | refine wstepN rfl rfl (by dsimp only [putV, List.set]) ?_
      first
        | refine wskipN rfl (by dsimp only [putV, List.set]) ?_
        | refine wstepN rfl (lssK h40000 rfl rfl) (by dsimp only [putV, List.set]) ?_
        | refine wstepN rfl (ltT (by assumption) rfl rfl) (by dsimp only [putV, List.set]) ?_
        | refine wstepN rfl (lssK (by assumption) rfl rfl) (by dsimp only [putV, List.set]) ?_
        | refine wstepN rfl rfl (by dsimp only [putV, List.set]) ?_
      refine wstepN rfl rfl (by dsimp only [putV, List.set]) ?_
      refine wstepN rfl rfl (by dsimp only [putV, List.set]) ?_
      refine wnil (Ok.ret ⟨fun _ h => (by cases h), _, rfl, rfl⟩)
    · refine Ok.seq (Ok.regionW (G := fun _ => true) (C := TabP _) mixed layOk noT TabP_calm (.inl rfl) ?_)
      refine wstepN rfl rfl (by dsimp only [putV, List.set]) ?_
      first
        | refine wstepN rfl (lenF hN rfl rfl) (by dsimp only [putV, List.set]) ?_
        | refine wstepN rfl (lenF hM rfl rfl) (by dsimp only [putV, List.set]) ?_
        | refine wstepN rfl (lenF (by assumption) rfl rfl) (by dsimp only [putV, List.set]) ?_
        | refine wstepN rfl rfl (by dsimp only [putV, List.set]) ?_
      first
        | refine wstepN rfl (leqK h140 rfl rfl) (by dsimp only [putV, List.set]) ?_
        | refine wstepN rfl (leqK (by assumption) rfl rfl) (by dsimp only [putV, List.set]) ?_
        | refine wstepN rfl rfl (by dsimp only [putV, List.set]) ?_
      refine wstepN rfl rfl (by dsimp only [putV, List.set]) ?_
      first
        | refine wskipN rfl (by dsimp only [putV, List.set]) ?_
        | refine wstepN rfl rfl (by dsimp only [putV, List.set]) ?_
      first
        | refine wskipN rfl (by dsimp only [putV, List.set]) ?_
        | refine wstepN rfl (lssK h40000 rfl rfl) (by dsimp only [putV, List.set]) ?_
        | refine wstepN rfl (ltT (by assumption) rfl rfl) (by dsimp only [putV, List.set]) ?_
        | refine wstepN rfl (lssK (by assumption) rfl rfl) (by dsimp only [putV, List.set]) ?_
        | refine wstepN rfl rfl (by dsimp only [putV, List.set]) ?_
      refine wstepN rfl rfl (by dsimp only [putV, List.set]) ?_
      refine wstepN rfl rfl (by dsimp only [putV, List.set]) ?_
      refine wnil (Ok.ret ⟨fun _ h => (by cases h), _, rfl, rfl⟩)
  have h4' := of_decide_eq_true h40000
  rw [if_pos (by omega)] at hsm
  have hget := rowsF_at hf
  refine Ok.regionW (G := fun _ => true) (C := TabP _) mixed layOk noT TabP_calm (.inl rfl) ?_
  refine wstepN rfl rfl (by dsimp only [putV, List.set]) ?_
  refine wstepN rfl rfl (by dsimp only [putV, List.set]) ?_
  first
    | refine wstepN rfl (lenF hN rfl rfl) (by dsimp only [putV, List.set]) ?_
    | refine wstepN rfl (lenF hM rfl rfl) (by dsimp only [putV, List.set]) ?_
    | refine wstepN rfl (lenF (by assumption) rfl rfl) (by dsimp only [putV, List.set]) ?_
    | refine wstepN rfl rfl (by dsimp only [putV, List.set]) ?_
  first
    | refine wstepN rfl (ltT hlt rfl rfl) (by dsimp only [putV, List.set]) ?_
    | refine wstepN rfl (ltT (by assumption) rfl rfl) (by dsimp only [putV, List.set]) ?_
    | refine wstepN rfl (lssK (by assumption) rfl rfl) (by dsimp only [putV, List.set]) ?_
    | refine wstepN rfl rfl (by dsimp only [putV, List.set]) ?_
  refine wstepN rfl rfl (by dsimp only [putV, List.set]) ?_
  first
    | refine wskipN rfl (by dsimp only [putV, List.set]) ?_
    | refine wstepN rfl rfl (by dsimp only [putV, List.set]) ?_
  first
    | refine wskipN rfl (by dsimp only [putV, List.set]) ?_
    | refine wstepN rfl (lssK h140 rfl rfl) (by dsimp only [putV, List.set]) ?_
    | refine wstepN rfl (ltT (by assumption) rfl rfl) (by dsimp only [putV, List.set]) ?_
    | refine wstepN rfl (lssK (by assumption) rfl rfl) (by dsimp only [putV, List.set]) ?_
    | refine wstepN rfl rfl (by dsimp only [putV, List.set]) ?_
  refine wstepN rfl rfl (by dsimp only [putV, List.set]) ?_
  refine wstepN rfl rfl (by dsimp only [putV, List.set]) ?_
  first
    | refine wskipN rfl (by dsimp only [putV, List.set]) ?_
    | refine wstepN rfl rfl (by dsimp only [putV, List.set]) ?_
  first
    | refine wskipN rfl (by dsimp only [putV, List.set]) ?_
    | refine wstepN rfl (lssK h40000 rfl rfl) (by dsimp only [putV, List.set]) ?_
    | refine wstepN rfl (ltT (by assumption) rfl rfl) (by dsimp only [putV, List.set]) ?_
    | refine wstepN rfl (lssK (by assumption) rfl rfl) (by dsimp only [putV, List.set]) ?_
    | refine wstepN rfl rfl (by dsimp only [putV, List.set]) ?_
  refine wstepN rfl rfl (by dsimp only [putV, List.set]) ?_
  refine wnil (Ok.cond (b := true) rfl (fun _ => ?_) (fun h => by cases h))
  refine Ok.skip ?_
  refine Ok.after (Ok.seq (Ok.block (Ok.seq (Ok.seq ?_))))
  cases h300 : decide ((f.path.length : Int) > 300)
  · have h3' := of_decide_eq_false h300
    cases h9000 : decide ((f.data.length : Int) > 9000)
    · have h9' := of_decide_eq_false h9000
      rw [if_neg (by omega)] at hsm
      have ha1 : IntKind.i64.wrap ((n : Int) + (f.path.length : Int)) = ((n + f.path.length : Nat) : Int) := by rw [wrap64 (by omega) (by omega)]; omega
      have ha2 : IntKind.i64.wrap (((n + f.path.length : Nat) : Int) + (f.data.length : Int)) = ((n + f.path.length + f.data.length : Nat) : Int) := by rw [wrap64 (by omega) (by omega)]; omega
      refine Ok.regionW (G := fun _ => true) (C := TabP _) mixed layOk noT TabP_calm (.inl rfl) ?_
      refine wstepN rfl rfl (by dsimp only [putV, List.set]) ?_
      refine wstepN rfl rfl (by dsimp only [putV, List.set]) ?_
      first
        | refine wstepN rfl (ev_ix rfl rfl rfl (by assumption) rfl) (by dsimp only [putV, List.set]) ?_
        | refine wstepN rfl rfl (by dsimp only [putV, List.set]) ?_
      refine wstepN rfl rfl (by dsimp only [putV, List.set]) ?_
      first
        | refine wstepN rfl (ldT rfl rfl) (by dsimp only [putV, List.set]) ?_
        | refine wstepN rfl (ldE rfl rfl) (by dsimp only [putV, List.set]) ?_
        | refine wstepN rfl rfl (by dsimp only [putV, List.set]) ?_
      first
        | refine wstepN rfl (lenT rfl rfl) (by dsimp only [putV, List.set]) ?_
        | refine wstepN rfl rfl (by dsimp only [putV, List.set]) ?_
      first
        | refine wstepN rfl (gtrK h300 rfl rfl) (by dsimp only [putV, List.set]) ?_
        | refine wstepN rfl (gtrK (by assumption) rfl rfl) (by dsimp only [putV, List.set]) ?_
        | refine wstepN rfl rfl (by dsimp only [putV, List.set]) ?_
      refine wstepN rfl rfl (by dsimp only [putV, List.set]) ?_
      first
        | refine wskipN rfl (by dsimp only [putV, List.set]) ?_
        | refine wstepN rfl rfl (by dsimp only [putV, List.set]) ?_
      first
        | refine wskipN rfl (by dsimp only [putV, List.set]) ?_
        | refine wstepN rfl rfl (by dsimp only [putV, List.set]) ?_
      first
        | refine wskipN rfl (by dsimp only [putV, List.set]) ?_
        | refine wstepN rfl (ev_ix rfl rfl rfl (by assumption) rfl) (by dsimp only [putV, List.set]) ?_
        | refine wstepN rfl rfl (by dsimp only [putV, List.set]) ?_
      first
        | refine wskipN rfl (by dsimp only [putV, List.set]) ?_
        | refine wstepN rfl rfl (by dsimp only [putV, List.set]) ?_
      first
        | refine wskipN rfl (by dsimp only [putV, List.set]) ?_
        | refine wstepN rfl (ldT rfl rfl) (by dsimp only [putV, List.set]) ?_
        | refine wstepN rfl (ldE rfl rfl) (by dsimp only [putV, List.set]) ?_
        | refine wstepN rfl rfl (by dsimp only [putV, List.set]) ?_
      first
        | refine wskipN rfl (by dsimp only [putV, List.set]) ?_
        | refine wstepN rfl (lenT rfl rfl) (by dsimp only [putV, List.set]) ?_
        | refine wstepN rfl rfl (by dsimp only [putV, List.set]) ?_
      first
        | refine wskipN rfl (by dsimp only [putV, List.set]) ?_
        | refine wstepN rfl (gtrK h9000 rfl rfl) (by dsimp only [putV, List.set]) ?_
        | refine wstepN rfl (gtrK (by assumption) rfl rfl) (by dsimp only [putV, List.set]) ?_
        | refine wstepN rfl rfl (by dsimp only [putV, List.set]) ?_
      refine wstepN rfl rfl (by dsimp only [putV, List.set]) ?_
      refine wnil (Ok.cond (b := false) rfl (fun h => by cases h) (fun _ => ?_))
      refine Ok.skip ?_
      refine Ok.regionW (G := fun _ => true) (C := TabP _) mixed layOk noT TabP_calm (.inr ⟨by kernel_rfl, by kernel_rfl⟩) ?_
      refine wstepN rfl rfl (by dsimp only [putV, List.set]) ?_
      refine wstepN rfl rfl (by dsimp only [putV, List.set]) ?_
      refine wstepN rfl rfl (by dsimp only [putV, List.set]) ?_
      first
        | refine wstepN rfl (ev_ix rfl rfl rfl (by assumption) rfl) (by dsimp only [putV, List.set]) ?_
        | refine wstepN rfl rfl (by dsimp only [putV, List.set]) ?_
      refine wstepN rfl rfl (by dsimp only [putV, List.set]) ?_
      first
        | refine wstepN rfl (ldT rfl rfl) (by dsimp only [putV, List.set]) ?_
        | refine wstepN rfl (ldE rfl rfl) (by dsimp only [putV, List.set]) ?_
        | refine wstepN rfl rfl (by dsimp only [putV, List.set]) ?_
      first
        | refine wstepN rfl (lenT rfl rfl) (by dsimp only [putV, List.set]) ?_
        | refine wstepN rfl rfl (by dsimp only [putV, List.set]) ?_
      first
        | refine wstepN rfl (addK (by assumption) rfl rfl) (by dsimp only [putV, List.set]) ?_
        | refine wstepN rfl rfl (by dsimp only [putV, List.set]) ?_
      refine wstepN rfl rfl (by dsimp only [putV, List.set]) ?_
      refine wstepN rfl rfl (by dsimp only [putV, List.set]) ?_
      first
        | refine wstepN rfl (ev_ix rfl rfl rfl (by assumption) rfl) (by dsimp only [putV, List.set]) ?_
        | refine wstepN rfl rfl (by dsimp only [putV, List.set]) ?_
      refine wstepN rfl rfl (by dsimp only [putV, List.set]) ?_
      first
        | refine wstepN rfl (ldT rfl rfl) (by dsimp only [putV, List.set]) ?_
        | refine wstepN rfl (ldE rfl rfl) (by dsimp only [putV, List.set]) ?_
        | refine wstepN rfl rfl (by dsimp only [putV, List.set]) ?_
      first
        | refine wstepN rfl (lenT rfl rfl) (by dsimp only [putV, List.set]) ?_
        | refine wstepN rfl rfl (by dsimp only [putV, List.set]) ?_
      first
        | refine wstepN rfl (addK (by assumption) rfl rfl) (by dsimp only [putV, List.set]) ?_
        | refine wstepN rfl rfl (by dsimp only [putV, List.set]) ?_
      refine wstepN rfl rfl (by dsimp only [putV, List.set]) ?_
      refine wnil ?_
      refine Ok.regionW (G := fun _ => true) (C := TabP _) mixed layOk noT TabP_calm (.inl rfl) ?_
      refine wstepN rfl rfl (by dsimp only [putV, List.set]) ?_
      first
        | refine wstepN rfl (incT (by omega) rfl rfl) (by dsimp only [putV, List.set]) ?_
        | refine wstepN rfl (addK (by assumption) rfl rfl) (by dsimp only [putV, List.set]) ?_
        | refine wstepN rfl rfl (by dsimp only [putV, List.set]) ?_
      refine wstepN rfl rfl (by dsimp only [putV, List.set]) ?_
      refine wnil ⟨[], [0, 3, 4], [], by kernel_rfl, by decide, floor_ok rfl, by omega, n + f.path.length + f.data.length, hsm, hlt', by omega, by omega, rfl, rfl⟩
    · have h9' := of_decide_eq_true h9000
      rw [if_pos (by omega)] at hsm
      rw [hsm]
      refine Ok.regionW (G := fun _ => true) (C := TabP _) mixed layOk noT TabP_calm (.inl rfl) ?_
      refine wstepN rfl rfl (by dsimp only [putV, List.set]) ?_
      refine wstepN rfl rfl (by dsimp only [putV, List.set]) ?_
      first
        | refine wstepN rfl (ev_ix rfl rfl rfl (by assumption) rfl) (by dsimp only [putV, List.set]) ?_
        | refine wstepN rfl rfl (by dsimp only [putV, List.set]) ?_
      refine wstepN rfl rfl (by dsimp only [putV, List.set]) ?_
      first
        | refine wstepN rfl (ldT rfl rfl) (by dsimp only [putV, List.set]) ?_
        | refine wstepN rfl (ldE rfl rfl) (by dsimp only [putV, List.set]) ?_
        | refine wstepN rfl rfl (by dsimp only [putV, List.set]) ?_
      first
        | refine wstepN rfl (lenT rfl rfl) (by dsimp only [putV, List.set]) ?_
        | refine wstepN rfl rfl (by dsimp only [putV, List.set]) ?_
      first
        | refine wstepN rfl (gtrK h300 rfl rfl) (by dsimp only [putV, List.set]) ?_
        | refine wstepN rfl (gtrK (by assumption) rfl rfl) (by dsimp only [putV, List.set]) ?_
        | refine wstepN rfl rfl (by dsimp only [putV, List.set]) ?_
      refine wstepN rfl rfl (by dsimp only [putV, List.set]) ?_
      first
        | refine wskipN rfl (by dsimp only [putV, List.set]) ?_
        | refine wstepN rfl rfl (by dsimp only [putV, List.set]) ?_
      first
        | refine wskipN rfl (by dsimp only [putV, List.set]) ?_
        | refine wstepN rfl rfl (by dsimp only [putV, List.set]) ?_
      first
        | refine wskipN rfl (by dsimp only [putV, List.set]) ?_
        | refine wstepN rfl (ev_ix rfl rfl rfl (by assumption) rfl) (by dsimp only [putV, List.set]) ?_
        | refine wstepN rfl rfl (by dsimp only [putV, List.set]) ?_
      first
        | refine wskipN rfl (by dsimp only [putV, List.set]) ?_
        | refine wstepN rfl rfl (by dsimp only [putV, List.set]) ?_
      first
        | refine wskipN rfl (by dsimp only [putV, List.set]) ?_
        | refine wstepN rfl (ldT rfl rfl) (by dsimp only [putV, List.set]) ?_
        | refine wstepN rfl (ldE rfl rfl) (by dsimp only [putV, List.set]) ?_
        | refine wstepN rfl rfl (by dsimp only [putV, List.set]) ?_
      first
        | refine wskipN rfl (by dsimp only [putV, List.set]) ?_
        | refine wstepN rfl (lenT rfl rfl) (by dsimp only [putV, List.set]) ?_
        | refine wstepN rfl rfl (by dsimp only [putV, List.set]) ?_
      first
        | refine wskipN rfl (by dsimp only [putV, List.set]) ?_
        | refine wstepN rfl (gtrK h9000 rfl rfl) (by dsimp only [putV, List.set]) ?_
        | refine wstepN rfl (gtrK (by assumption) rfl rfl) (by dsimp only [putV, List.set]) ?_
        | refine wstepN rfl rfl (by dsimp only [putV, List.set]) ?_
      refine wstepN rfl rfl (by dsimp only [putV, List.set]) ?_
      refine wnil (Ok.cond (b := true) rfl (fun _ => ?_) (fun h => by cases h))
      refine Ok.seq (Ok.regionW (G := fun _ => true) (C := TabP _) mixed layOk noT TabP_calm (.inl rfl) ?_)
      refine wstepN rfl rfl (by dsimp only [putV, List.set]) ?_
      refine wnil (Ok.ret ?_)
      exact ⟨[], [2], [], by kernel_rfl, by decide, floor_ok rfl, fun _ h => (by cases h), _, rfl, rfl⟩
  · have h3' := of_decide_eq_true h300
    rw [if_pos (by omega)] at hsm
    rw [hsm]
    refine Ok.regionW (G := fun _ => true) (C := TabP _) mixed layOk noT TabP_calm (.inl rfl) ?_
    refine wstepN rfl rfl (by dsimp only [putV, List.set]) ?_
    refine wstepN rfl rfl (by dsimp only [putV, List.set]) ?_
    first
      | refine wstepN rfl (ev_ix rfl rfl rfl (by assumption) rfl) (by dsimp only [putV, List.set]) ?_
      | refine wstepN rfl rfl (by dsimp only [putV, List.set]) ?_
    refine wstepN rfl rfl (by dsimp only [putV, List.set]) ?_
    first
      | refine wstepN rfl (ldT rfl rfl) (by dsimp only [putV, List.set]) ?_
      | refine wstepN rfl (ldE rfl rfl) (by dsimp only [putV, List.set]) ?_
      | refine wstepN rfl rfl (by dsimp only [putV, List.set]) ?_
    first
      | refine wstepN rfl (lenT rfl rfl) (by dsimp only [putV, List.set]) ?_
      | refine wstepN rfl rfl (by dsimp only [putV, List.set]) ?_
    first
      | refine wstepN rfl (gtrK h300 rfl rfl) (by dsimp only [putV, List.set]) ?_
      | refine wstepN rfl (gtrK (by assumption) rfl rfl) (by dsimp only [putV, List.set]) ?_
      | refine wstepN rfl rfl (by dsimp only [putV, List.set]) ?_
    refine wstepN rfl rfl (by dsimp only [putV, List.set]) ?_
    first
      | refine wskipN rfl (by dsimp only [putV, List.set]) ?_
      | refine wstepN rfl rfl (by dsimp only [putV, List.set]) ?_
    first
      | refine wskipN rfl (by dsimp only [putV, List.set]) ?_
      | refine wstepN rfl rfl (by dsimp only [putV, List.set]) ?_
    first
      | refine wskipN rfl (by dsimp only [putV, List.set]) ?_
      | refine wstepN rfl (ev_ix rfl rfl rfl (by assumption) rfl) (by dsimp only [putV, List.set]) ?_
      | refine wstepN rfl rfl (by dsimp only [putV, List.set]) ?_
    first
      | refine wskipN rfl (by dsimp only [putV, List.set]) ?_
      | refine wstepN rfl rfl (by dsimp only [putV, List.set]) ?_
    first
      | refine wskipN rfl (by dsimp only [putV, List.set]) ?_
      | refine wstepN rfl (ldT rfl rfl) (by dsimp only [putV, List.set]) ?_
      | refine wstepN rfl (ldE rfl rfl) (by dsimp only [putV, List.set]) ?_
      | refine wstepN rfl rfl (by dsimp only [putV, List.set]) ?_
    first
      | refine wskipN rfl (by dsimp only [putV, List.set]) ?_
      | refine wstepN rfl (lenT rfl rfl) (by dsimp only [putV, List.set]) ?_
      | refine wstepN rfl rfl (by dsimp only [putV, List.set]) ?_
    first
      | refine wskipN rfl (by dsimp only [putV, List.set]) ?_
      | refine wstepN rfl (gtrK h9000 rfl rfl) (by dsimp only [putV, List.set]) ?_
      | refine wstepN rfl (gtrK (by assumption) rfl rfl) (by dsimp only [putV, List.set]) ?_
      | refine wstepN rfl rfl (by dsimp only [putV, List.set]) ?_
    refine wstepN rfl rfl (by dsimp only [putV, List.set]) ?_
    refine wnil (Ok.cond (b := true) rfl (fun _ => ?_) (fun h => by cases h))
    refine Ok.seq (Ok.regionW (G := fun _ => true) (C := TabP _) mixed layOk noT TabP_calm (.inl rfl) ?_)
    refine wstepN rfl rfl (by dsimp only [putV, List.set]) ?_
    refine wnil (Ok.ret ?_)
    exact ⟨[], [2], [], by kernel_rfl, by decide, floor_ok rfl, fun _ h => (by cases h), _, rfl, rfl⟩

theorem same12 (a b : List Fl) (ha : a.length ≤ 100000) (hb : b.length ≤ 100000) : FnOk Tryd.prog 12 [.sl (rowsF a), .sl (rowsF b)] [] (fun r bs' => fr bs' r = bV (decide (a = b))) := by
  refine FnOk.fast (Q := fun r => r = bV (decide (a = b))) layOk Tryd.func12 rfl ?_
  obtain ⟨N, hN⟩ : ∃ N, a.length = N := ⟨_, rfl⟩
  obtain ⟨M, hM⟩ : ∃ M, b.length = M := ⟨_, rfl⟩
  refine Ok.seq (go 10 rfl ?_)
  refine Ok.seq ?_
  cases hne : ((N : Int) != (M : Int))
  · have hNM : N = M := by
      have : (N : Int) = (M : Int) := by simpa using hne
      omega
    refine Ok.seq (Ok.regionW (G := fun _ => true) (C := TabP _) mixed layOk noT TabP_calm (.inl rfl) ?_)
    refine wstepN rfl rfl (by dsimp only [putV, List.set]) ?_
    first
      | refine wstepN rfl (lenF hN rfl rfl) (by dsimp only [putV, List.set]) ?_
      | refine wstepN rfl (lenF hM rfl rfl) (by dsimp only [putV, List.set]) ?_
      | refine wstepN rfl (lenF (by assumption) rfl rfl) (by dsimp only [putV, List.set]) ?_
      | refine wstepN rfl rfl (by dsimp only [putV, List.set]) ?_
    refine wstepN rfl rfl (by dsimp only [putV, List.set]) ?_
    first
      | refine wstepN rfl (lenF hN rfl rfl) (by dsimp only [putV, List.set]) ?_
      | refine wstepN rfl (lenF hM rfl rfl) (by dsimp only [putV, List.set]) ?_
      | refine wstepN rfl (lenF (by assumption) rfl rfl) (by dsimp only [putV, List.set]) ?_
      | refine wstepN rfl rfl (by dsimp only [putV, List.set]) ?_
    first
      | refine wstepN rfl (neqK (by assumption) rfl rfl) (by dsimp only [putV, List.set]) ?_
      | refine wstepN rfl rfl (by dsimp only [putV, List.set]) ?_
    refine wnil (Ok.cond (b := false) rfl (fun h => by cases h) (fun _ => ?_))
    refine Ok.skip ?_
    refine Ok.seq (Ok.seq (go 10 rfl ?_))
    refine Ok.gc (bs2 := []) [] [0, 1, 5] (by kernel_rfl) (by decide) (floor_ok rfl) ?_
    refine Ok.count N (fun k ts bs => a.take k = b.take k ∧ k ≤ N ∧ bs = [] ∧ ts = (((List.replicate 26 V.gone).set 0 (.sl (rowsF a))).set 1 (.sl (rowsF b))).set 5 (iV (k : Int))) ?_ ?_
    · exact ⟨rfl, Nat.zero_le _, rfl, rfl⟩
    rintro k _ _ ⟨heq, hk, rfl, rfl⟩
    simp only [List.replicate, List.set]
    refine Ok.seq (Ok.seq ?_)
    cases hlt : decide (k < N)
    · refine Ok.regionW (G := fun _ => true) (C := TabP _) mixed layOk noT TabP_calm (.inl rfl) ?_
      refine wstepN rfl rfl (by dsimp only [putV, List.set]) ?_
      refine wstepN rfl rfl (by dsimp only [putV, List.set]) ?_
      first
        | refine wstepN rfl (lenF hN rfl rfl) (by dsimp only [putV, List.set]) ?_
        | refine wstepN rfl (lenF hM rfl rfl) (by dsimp only [putV, List.set]) ?_
        | refine wstepN rfl (lenF (by assumption) rfl rfl) (by dsimp only [putV, List.set]) ?_
        | refine wstepN rfl rfl (by dsimp only [putV, List.set]) ?_
      first
        | refine wstepN rfl (ltT hlt rfl rfl) (by dsimp only [putV, List.set]) ?_
        | refine wstepN rfl (ltT (by assumption) rfl rfl) (by dsimp only [putV, List.set]) ?_
        | refine wstepN rfl (lssK (by assumption) rfl rfl) (by dsimp only [putV, List.set]) ?_
        | refine wstepN rfl rfl (by dsimp only [putV, List.set]) ?_
      refine wnil (Ok.cond (b := false) rfl (fun h => by cases h) (fun _ => ?_))
      refine Ok.exit ?_
      have := of_decide_eq_false hlt
      rw [List.take_of_length_le (by omega), List.take_of_length_le (by omega)] at heq
      rw [show decide (a = b) = true from decide_eq_true heq]
      exact go 10 rfl ⟨fun _ h => (by cases h), _, rfl, rfl⟩
    · have hlt' : k < N := of_decide_eq_true hlt
      obtain ⟨f, hf⟩ : ∃ f, a[k]? = some f := ⟨_, List.getElem?_eq_getElem (by omega)⟩
      obtain ⟨g, hg⟩ : ∃ g, b[k]? = some g := ⟨_, List.getElem?_eq_getElem (by omega)⟩
      have hget := rowsF_at hf
      have hget2 := rowsF_at hg
      refine Ok.regionW (G := fun _ => true) (C := TabP _) mixed layOk noT TabP_calm (.inl rfl) ?_
      refine wstepN rfl rfl (by dsimp only [putV, List.set]) ?_
      refine wstepN rfl rfl (by dsimp only [putV, List.set]) ?_
      first
        | refine wstepN rfl (lenF hN rfl rfl) (by dsimp only [putV, List.set]) ?_
        | refine wstepN rfl (lenF hM rfl rfl) (by dsimp only [putV, List.set]) ?_
        | refine wstepN rfl (lenF (by assumption) rfl rfl) (by dsimp only [putV, List.set]) ?_
        | refine wstepN rfl rfl (by dsimp only [putV, List.set]) ?_
      first
        | refine wstepN rfl (ltT hlt rfl rfl) (by dsimp only [putV, List.set]) ?_
        | refine wstepN rfl (ltT (by assumption) rfl rfl) (by dsimp only [putV, List.set]) ?_
        | refine wstepN rfl (lssK (by assumption) rfl rfl) (by dsimp only [putV, List.set]) ?_
        | refine wstepN rfl rfl (by dsimp only [putV, List.set]) ?_
      refine wnil (Ok.cond (b := true) rfl (fun _ => ?_) (fun h => by cases h))
      refine Ok.skip ?_
      refine Ok.after (Ok.seq (Ok.block (Ok.seq ?_)))
      cases hq : decide (f = g)
      · rw [show decide (a = b) = false from decide_eq_false fun e => by
          have := of_decide_eq_false hq
          rw [e, hg] at hf
          exact this (Option.some.inj hf).symm]
        refine Ok.regionW (G := fun _ => true) (C := TabP _) mixed layOk noT TabP_calm (.inr ⟨by kernel_rfl, by kernel_rfl⟩) ?_
        refine wstepN rfl rfl (by dsimp only [putV, List.set]) ?_
        refine wstepN rfl rfl (by dsimp only [putV, List.set]) ?_
        first
          | refine wstepN rfl (ev_ix rfl rfl rfl (by assumption) rfl) (by dsimp only [putV, List.set]) ?_
          | refine wstepN rfl rfl (by dsimp only [putV, List.set]) ?_
        first
          | refine wstepN rfl (ldF rfl rfl) (by dsimp only [putV, List.set]) ?_
          | refine wstepN rfl rfl (by dsimp only [putV, List.set]) ?_
        refine wstepN rfl rfl (by dsimp only [putV, List.set]) ?_
        refine wstepN rfl rfl (by dsimp only [putV, List.set]) ?_
        first
          | refine wstepN rfl (ev_ix rfl rfl rfl (by assumption) rfl) (by dsimp only [putV, List.set]) ?_
          | refine wstepN rfl rfl (by dsimp only [putV, List.set]) ?_
        first
          | refine wstepN rfl (ldF rfl rfl) (by dsimp only [putV, List.set]) ?_
          | refine wstepN rfl rfl (by dsimp only [putV, List.set]) ?_
        first
          | refine wstepN rfl (neF (by assumption) rfl rfl rfl rfl rfl rfl) (by dsimp only [putV, List.set]) ?_
          | refine wstepN rfl rfl (by dsimp only [putV, List.set]) ?_
        refine wnil (Ok.cond (b := true) rfl (fun _ => ?_) (fun h => by cases h))
        refine Ok.seq (Ok.regionW (G := fun _ => true) (C := TabP _) mixed layOk noT TabP_calm (.inl rfl) ?_)
        refine wstepN rfl rfl (by dsimp only [putV, List.set]) ?_
        refine wnil (Ok.ret ?_)
        exact ⟨[], [4], [], by kernel_rfl, by decide, floor_ok rfl, fun _ h => (by cases h), _, rfl, rfl⟩
      · have hfg := of_decide_eq_true hq
        refine Ok.regionW (G := fun _ => true) (C := TabP _) mixed layOk noT TabP_calm (.inr ⟨by kernel_rfl, by kernel_rfl⟩) ?_
        refine wstepN rfl rfl (by dsimp only [putV, List.set]) ?_
        refine wstepN rfl rfl (by dsimp only [putV, List.set]) ?_
        first
          | refine wstepN rfl (ev_ix rfl rfl rfl (by assumption) rfl) (by dsimp only [putV, List.set]) ?_
          | refine wstepN rfl rfl (by dsimp only [putV, List.set]) ?_
        first
          | refine wstepN rfl (ldF rfl rfl) (by dsimp only [putV, List.set]) ?_
          | refine wstepN rfl rfl (by dsimp only [putV, List.set]) ?_
        refine wstepN rfl rfl (by dsimp only [putV, List.set]) ?_
        refine wstepN rfl rfl (by dsimp only [putV, List.set]) ?_
        first
          | refine wstepN rfl (ev_ix rfl rfl rfl (by assumption) rfl) (by dsimp only [putV, List.set]) ?_
          | refine wstepN rfl rfl (by dsimp only [putV, List.set]) ?_
        first
          | refine wstepN rfl (ldF rfl rfl) (by dsimp only [putV, List.set]) ?_
          | refine wstepN rfl rfl (by dsimp only [putV, List.set]) ?_
        first
          | refine wstepN rfl (neF (by assumption) rfl rfl rfl rfl rfl rfl) (by dsimp only [putV, List.set]) ?_
          | refine wstepN rfl rfl (by dsimp only [putV, List.set]) ?_
        refine wnil (Ok.cond (b := false) rfl (fun h => by cases h) (fun _ => ?_))
        refine Ok.skip ?_
        refine Ok.regionW (G := fun _ => true) (C := TabP _) mixed layOk noT TabP_calm (.inl rfl) ?_
        refine wstepN rfl rfl (by dsimp only [putV, List.set]) ?_
        first
          | refine wstepN rfl (incT (by omega) rfl rfl) (by dsimp only [putV, List.set]) ?_
          | refine wstepN rfl (addK (by assumption) rfl rfl) (by dsimp only [putV, List.set]) ?_
          | refine wstepN rfl rfl (by dsimp only [putV, List.set]) ?_
        refine wstepN rfl rfl (by dsimp only [putV, List.set]) ?_
        refine wnil ⟨[], [0, 1, 5], [], by kernel_rfl, by decide, floor_ok rfl, hlt', by rw [List.take_add_one, List.take_add_one, hf, hg, heq, hfg], hlt', rfl, rfl⟩
  · have hNM : ¬ N = M := by
      have : ¬ (N : Int) = (M : Int) := by simpa using hne
      omega
    rw [show decide (a = b) = false from decide_eq_false fun e => hNM (by rw [← hN, ← hM, e])]
    refine Ok.seq (Ok.regionW (G := fun _ => true) (C := TabP _) mixed layOk noT TabP_calm (.inl rfl) ?_)
    refine wstepN rfl rfl (by dsimp only [putV, List.set]) ?_
    first
      | refine wstepN rfl (lenF hN rfl rfl) (by dsimp only [putV, List.set]) ?_
      | refine wstepN rfl (lenF hM rfl rfl) (by dsimp only [putV, List.set]) ?_
      | refine wstepN rfl (lenF (by assumption) rfl rfl) (by dsimp only [putV, List.set]) ?_
      | refine wstepN rfl rfl (by dsimp only [putV, List.set]) ?_
    refine wstepN rfl rfl (by dsimp only [putV, List.set]) ?_
    first
      | refine wstepN rfl (lenF hN rfl rfl) (by dsimp only [putV, List.set]) ?_
      | refine wstepN rfl (lenF hM rfl rfl) (by dsimp only [putV, List.set]) ?_
      | refine wstepN rfl (lenF (by assumption) rfl rfl) (by dsimp only [putV, List.set]) ?_
      | refine wstepN rfl rfl (by dsimp only [putV, List.set]) ?_
    first
      | refine wstepN rfl (neqK (by assumption) rfl rfl) (by dsimp only [putV, List.set]) ?_
      | refine wstepN rfl rfl (by dsimp only [putV, List.set]) ?_
    refine wnil (Ok.cond (b := true) rfl (fun _ => ?_) (fun h => by cases h))
    exact go 10 rfl ⟨fun _ h => (by cases h), _, rfl, rfl⟩

abbrev rootF : Fl := ⟨[47], true, []⟩
theorem new13 : FnOk Tryd.prog 13 [] [] (fun r bs' => fr bs' r = .sl (rowsF [rootF])) :=
  FnOk.fast (Q := fun r => r = .sl (rowsF [rootF])) layOk Tryd.func13 rfl (goOut 100 (r := .sl (rowsF [rootF])) (by kernel_rfl) rfl)
theorem rnew14 : FnOk Tryd.prog 14 [] [] (fun r bs' => fr bs' r = .sl (rowsF [rootF])) :=
  FnOk.fast (Q := fun r => r = .sl (rowsF [rootF])) layOk Tryd.func14 rfl (goOut 100 (r := .sl (rowsF [rootF])) (by kernel_rfl) rfl)

end Go.Proofs.YtiefcnghjcafbaaDoorV

/- Windows on arrays of files: what is made, copied, cut, stored, appended, handed back. -/
namespace Go.Proofs.YtiefcnghjcafbaaDoorV
open Go Go.RowKit Go.Proofs.YtiefcnghjcafbaaDoor
set_option maxRecDepth 20000
set_option maxHeartbeats 1000000

abbrev cellsF (f : Fl) : List V := [T f.path, bV f.dir, T f.data]
def flatF : List Fl → List V
  | [] => []
  | f :: l => cellsF f ++ flatF l
abbrev zeroF : Fl := ⟨[], false, []⟩
theorem flatF_len : ∀ l, (flatF l).length = l.length * 3
  | [] => rfl
  | f :: l => by rw [flatF, List.length_append, flatF_len l, List.length_cons]; simp; omega
theorem flatF_app : ∀ a b, flatF (a ++ b) = flatF a ++ flatF b
  | [], b => rfl
  | f :: a, b => by rw [List.cons_append, flatF, flatF_app a b, flatF, List.append_assoc]
theorem flatF_take : ∀ (l : List Fl) (k : Nat), (flatF l).take (k * 3) = flatF (l.take k)
  | [], k => by simp [flatF]
  | f :: l, 0 => by simp [flatF]
  | f :: l, k + 1 => by
    rw [flatF, List.take_succ_cons, flatF, ← flatF_take l k, show (k + 1) * 3 = (cellsF f).length + k * 3 by simp; omega, List.take_length_add_append]
theorem flatF_drop : ∀ (l : List Fl) (k : Nat), (flatF l).drop (k * 3) = flatF (l.drop k)
  | [], k => by simp [flatF]
  | f :: l, 0 => by simp [flatF]
  | f :: l, k + 1 => by
    rw [flatF, List.drop_succ_cons, ← flatF_drop l k, show (k + 1) * 3 = (cellsF f).length + k * 3 by simp; omega, List.drop_length_add_append]
theorem flatF_rep (n : Nat) : flatF (List.replicate n zeroF) = (List.replicate n (cellsF zeroF)).flatten := by
  induction n with
  | zero => rfl
  | succ n ih => rw [List.replicate_succ, flatF, ih, List.replicate_succ, List.flatten_cons]
theorem flatF_rows (l : List Fl) : (rowsF l).flatten.map S.up = flatF l := by
  induction l with
  | nil => rfl
  | cons f l ih =>
    rw [rowsF, List.map_cons, List.flatten_cons, List.map_append, flatF, ← ih]
    rfl
theorem flatF_downs (l : List Fl) : downs (flatF l) = some (rowsF l).flatten := by
  induction l with
  | nil => rfl
  | cons f l ih =>
    rw [rowsF, List.map_cons, List.flatten_cons, flatF]
    simp only [downs, List.cons_append, List.nil_append, ih]
    rfl
theorem flatF_spl {a s : List Fl} {k : Nat} : spl (flatF a) (k * 3) (flatF s) = flatF (a.take k ++ s ++ a.drop (k + s.length)) := by
  rw [spl, flatF_take, flatF_len, ← Nat.add_mul, flatF_drop, flatF_app, flatF_app]
theorem chunk_rows (l : List Fl) : chunk 3 l.length (rowsF l).flatten = rowsF l := by
  refine List.ext_getElem? fun i => ?_
  unfold chunk
  rw [List.getElem?_map]
  by_cases h : i < l.length
  · rw [List.getElem?_range h, rowsF_at (List.getElem?_eq_getElem h)]
    simp only [Option.map_some, Option.some.injEq]
    have h1 : ∀ (m : List Fl) (j : Nat), (rowsF m).flatten.drop (j * 3) = (rowsF (m.drop j)).flatten := by
      intro m
      induction m with
      | nil => intro j; simp [rowsF]
      | cons f m ih =>
        intro j
        cases j with
        | zero => simp
        | succ j =>
          rw [List.drop_succ_cons, ← ih j, rowsF, List.map_cons, List.flatten_cons, show (j + 1) * 3 = (rowF f).length + j * 3 by simp; omega, List.drop_length_add_append]
          rfl
    rw [h1, List.drop_eq_getElem_cons h, rowsF, List.map_cons, List.flatten_cons]
    rfl
  · rw [List.getElem?_eq_none (by simpa using h), List.getElem?_eq_none (by rw [rowsF_len]; omega)]
    rfl
theorem set_at {a : List Fl} {z : Nat} {f : Fl} (h : a[z]? = some f) (d : List UInt8) : (flatF a).set (z * 3 + 2) (T d) = flatF (a.set z ⟨f.path, f.dir, d⟩) := by
  obtain ⟨h1, h2⟩ := List.getElem?_eq_some_iff.1 h
  have e : a = a.take z ++ f :: a.drop (z + 1) := by rw [← h2, ← List.drop_eq_getElem_cons h1, List.take_append_drop]
  have hz : (a.take z).length = z := by simp; omega
  generalize a.take z = x at e hz
  generalize a.drop (z + 1) = y at e
  subst e
  subst hz
  rw [List.set_append_right _ _ (by omega), flatF_app, flatF_app, List.set_append_right _ _ (by rw [flatF_len]; omega), flatF_len]
  simp only [Nat.add_sub_cancel_left, Nat.sub_self, List.set_cons_zero, flatF]
  rfl

theorem flatF_vals (l : List Fl) : ∀ x ∈ flatF l, ∃ v, x = .val v := by
  induction l with
  | nil => intro x hx; cases hx
  | cons f l ih =>
    intro x hx
    rw [flatF] at hx
    rcases List.mem_append.1 hx with h | h
    · simp only [List.mem_cons, List.not_mem_nil, or_false] at h
      rcases h with rfl | rfl | rfl <;> exact ⟨_, rfl⟩
    · exact ih x h
theorem gc1 (ks : List Nat) (l : List Fl) : rnB ks (.cells (flatF l)) = some (.cells (flatF l)) := by simp only [rnB, rnL_vals (flatF_vals l), Option.map_some]
theorem gc2 (f : Fl) (l : List Fl) (r : List Bx) : rnBs (.cells (cellsF f) :: .cells (flatF l) :: r) [0, 1] [0, 1] = some [.cells (cellsF f), .cells (flatF l)] := by
  have h0 : ((Bx.cells (cellsF f) :: Bx.cells (flatF l) :: r)[0]?).bind (rnB [0, 1]) = some (.cells (cellsF f)) := rfl
  have h1 : ((Bx.cells (cellsF f) :: Bx.cells (flatF l) :: r)[1]?).bind (rnB [0, 1]) = some (.cells (flatF l)) := gc1 _ _
  rw [rnBs, h0, rnBs, h1]
  rfl

section
variable {L : Lay} {C : CallT} {ts : List V} {bs : List Bx} {t t' : TypeId} {x y d s : Operand} {k : IntKind}
theorem mkF {ln cp : Operand} {e b n c : Nat} (h0 : n ≤ c) (h1 : c ≤ 100000000) (hl : L.sl t = some (e, 3)) (hb : L.byt e = some b) (hb2 : b ≤ 1000) (hz : L.zero e = some (cellsF zeroF)) (hn : evO ts ln = some (iV (n : Int))) (hc : evO ts cp = some (iV (c : Int))) :
    evX L C (.makeSlice t ln cp) ts bs = some (.win bs.length 3 0 n c, bs ++ [.cells (flatF (List.replicate c zeroF))]) := by
  have h3 : (c : Int) ≤ 140737488355328 := by omega
  have h4 : (n : Int) ≤ (c : Int) := by omega
  have h5 : c * b ≤ 140737488355328 := Nat.le_trans (Nat.mul_le_mul h1 hb2) (by decide)
  rw [flatF_rep]
  simp only [evX, ev, hn, hc, hl, hb, hz, List.length_cons, List.length_nil, Nat.zero_add, Int.natCast_nonneg, h4, h3, Int.toNat_natCast, h5, and_self, if_true]
theorem srcs_sl {m : Nat} {l : List Fl} (hm : m ≤ l.length) : srcs bs 3 m (.sl (rowsF l)) = some (flatF (l.take m)) := by
  have h1 : (rowsF l).all (fun x => x.length == 3) = true := List.all_eq_true.2 fun r hr => by
    obtain ⟨f, _, rfl⟩ := List.mem_map.1 hr
    rfl
  rw [srcs, rowsS, if_pos ⟨by rw [rowsF_len]; exact hm, h1⟩, ← flatF_rows, rowsF, rowsF, List.map_take]
theorem srcs_win {j q m n c : Nat} {a : List Fl} (hb : bs[j]? = some (.cells (flatF a))) (hm : m ≤ n) (hq : q + m ≤ a.length) : srcs bs 3 m (.win j 3 q n c) = some (flatF ((a.drop q).take m)) := by
  have h1 : (q + m) * 3 ≤ (flatF a).length := by rw [flatF_len]; omega
  simp only [srcs, hb, hm, and_self, if_true, h1]
  rw [flatF_drop, flatF_take]
theorem cpF {j q n c m len : Nat} {u : V} {a a' r : List Fl} {p : TypeId × Nat} (hsl : r.length = m) (hm : Nat.min len n = m) (hq : q + n ≤ a.length) (ha : a.take q ++ r ++ a.drop (q + m) = a') (hsrc : srcs bs 3 m u = some (flatF r)) (hlen : lenV bs u = some len) (hb : bs[j]? = some (.cells (flatF a)))
    (hs : L.sl t = some p) (hp : p.2 = 3) (hx : evO ts d = some (.win j 3 q n c)) (hy : evO ts s = some u) :
    evX L C (.call { callee := .builtin .copy, args := #[d, s], argTypes := #[t, t'] }) ts bs = some (iV (m : Int), bs.set j (.cells (flatF a'))) := by
  obtain ⟨e, z⟩ := p
  simp only at hp
  subst hp
  have h1 : (q + n) * 3 ≤ (flatF a).length := by rw [flatF_len]; omega
  simp only [evX, evCall, hx, hy, hs, if_true, hlen, hb, h1, hm, hsrc]
  rw [flatF_spl, hsl, ha]
theorem fromW {lo : Operand} {j q n c i e : Nat} (h1 : i ≤ n) (h2 : n ≤ c) (h3 : i < c) (hl : L.sl t = some (e, 3)) (hx : evO ts x = some (.win j 3 q n c)) (hi : evO ts lo = some (.val (.int k (i : Int)))) :
    evX L C (.slice t x (some lo) none none) ts bs = some (.win j 3 (q + i) (n - i) (c - i), bs) := by
  simp only [evX, ev, hx, hl, bd, hi, Int.natCast_nonneg, if_true, Int.toNat_natCast, h1, h2, and_self]
  rw [if_neg (by omega)]
theorem toW3 {hi : Operand} {j q n c i e : Nat} (h2 : i ≤ c) (hl : L.sl t = some (e, 3)) (hx : evO ts x = some (.win j 3 q n c)) (hi2 : evO ts hi = some (.val (.int k (i : Int)))) :
    evX L C (.slice t x none (some hi) none) ts bs = some (.win j 3 q i c, bs) := by
  simp only [evX, ev, hx, hl, bd, hi2, Int.natCast_nonneg, if_true, Int.toNat_natCast, Nat.zero_le, h2, and_self, Nat.sub_zero, Nat.add_zero, ite_self]
theorem ixW3 {q o m c z e : Nat} (hz : z < m) (hl : L.sl t = some (e, 3)) (hx : evO ts x = some (.win q 3 o m c)) (hi : evO ts y = some (.val (.int k (z : Int)))) : evX L C (.indexAddr t x y) ts bs = some (.ptr q ((o + z) * 3), bs) := by
  simp only [evX, ev, hx, hi, hl, Int.natCast_nonneg, if_true, Int.toNat_natCast, idxP, hz, and_self, Option.map_some]
theorem apW {j q n c m : Nat} {u : V} {a a' r : List Fl} {p : TypeId × Nat} (hsl : r.length = m) (hc : n + m ≤ c) (hq : q + c ≤ a.length) (ha : a.take (q + n) ++ r ++ a.drop (q + n + m) = a') (hsrc : srcs bs 3 m u = some (flatF r)) (hlen : lenV bs u = some m) (hb : bs[j]? = some (.cells (flatF a)))
    (hs : L.sl t = some p) (hp : p.2 = 3) (hx : evO ts d = some (.win j 3 q n c)) (hy : evO ts s = some u) :
    evX L C (.call { callee := .builtin .append, args := #[d, s], argTypes := #[t, t] }) ts bs = some (.win j 3 q (n + m) c, bs.set j (.cells (flatF a'))) := by
  obtain ⟨e, z⟩ := p
  simp only at hp
  subst hp
  have h1 : (q + c) * 3 ≤ (flatF a).length := by rw [flatF_len]; omega
  simp only [evX, evCall, hx, hy, if_true, evAppW, hs, hlen, hb, hc, h1, and_self, hsrc]
  rw [flatF_spl, hsl, ha]
theorem fr_winF {j q n c : Nat} {a : List Fl} (hb : bs[j]? = some (.cells (flatF a))) (hq : q + n ≤ a.length) : frA bs (.win j 3 q n c) = .sl (rowsF ((a.drop q).take n)) := by
  have hl : ((a.drop q).take n).length = n := by simp; omega
  have h1 : (rowsF ((a.drop q).take n)).flatten.length = n * 3 := by
    have := congrArg List.length (flatF_rows ((a.drop q).take n))
    rw [List.length_map, flatF_len, hl] at this
    exact this
  simp only [frA, hb]
  rw [flatF_drop, flatF_take, flatF_downs]
  simp only [h1, true_and, Nat.zero_lt_succ, if_true]
  have := chunk_rows ((a.drop q).take n)
  rw [hl] at this
  rw [this]
end

end Go.Proofs.YtiefcnghjcafbaaDoorV

/- The calculus of values, twenty-eighth text: slices.overlaps at a slice that is read and a window of the call's own. -/
namespace Go.Proofs.YtiefcnghjcafbaaDoorV
open Go Go.RowKit

theorem ext_overlaps {P : Program} {f : FuncId} {tS tR e : TypeId} {size : Nat} (hf : ∀ args w, (callFunc f args).run P w = ((Extern.SlicesOverlaps.overlaps #[tS, tS] #[tR] args).run P w).andThen fun v w' => .ok (.value v) w')
    (ht : P.underlying tS = some (.slice e)) (hz : ∀ w, (sizeOf e).run P w = .ok size w) {x : S} {r : List S} {xs : List (List S)} {bs : List Bx} {k sz q n c : Nat} {cs : List V} (hb : bs[k]? = some (.cells cs)) :
    ExtOkB P f [.sl ((x :: r) :: xs), .win k sz q n c] bs (.val (.bool false)) := by
  intro T w φ vargs hs ha
  obtain ⟨h1, h2⟩ := ha
  obtain ⟨l⟩ := vargs
  match l, h1 with
  | [v0, v1], _ =>
    have k0 := h2 0 _ rfl
    have k1 := h2 1 _ rfl
    have k0 : RV (okOf T bs φ) w φ (.sl ((x :: r) :: xs)) v0 := k0
    have k1 : RV (okOf T bs φ) w φ (.win k sz q n c) v1 := k1
    cases k0 with
    | sl _ _ h0 =>
      cases h0 with
      | cons _ ad c0 sz0 f0 hne hs0 hc0 hm0 hok hlt hcell hr0 =>
        cases k1 with
        | win _ _ _ _ _ g hφ hn hm =>
          obtain ⟨v, hv, g', arr, t, rfl, hg, hsz, _⟩ := hs.box k _ hb
          rw [hφ] at hv
          cases hv
          have hcx := hcell 0 _ 0 x rfl rfl
          have hAb : (ad.add (0 * sz0 + 0)).block = ad.block := add_block _ _
          generalize ad.add (0 * sz0 + 0) = A at hcx hAb
          generalize f0 0 0 = fv at hcx
          unfold World.cell? at hcx
          rw [hAb] at hcx
          split at hcx
          · rename_i arr2 t2 fz2 hh
            have hpos : arr2.size ≠ 0 := fun e0 => by
              have : arr2 = #[] := Array.eq_empty_of_size_eq_zero e0
              subst this
              by_cases hsp : A.spot.isSome = true
              · rw [if_pos hsp] at hcx
                cases hcx
              · rw [if_neg hsp] at hcx
                simp at hcx
            have hblk : ad.block ≠ g := fun e0 => by
              refine hok.2 ⟨k, _, _, hb, rfl, hφ, ?_⟩
              rw [e0]
              rfl
            refine ⟨.bool false, ?_, .val _ rfl⟩
            rw [hf]
            have key : ∀ la : Nat, (Extern.SlicesOverlaps.overlaps #[tS, tS] #[tR] #[.slice (some ad) la c0, .slice (some ⟨g, q * sz, none⟩) n c]).run P w = .ok (.bool false) w := by
              intro la
              have hnb : (ad.block != g) = true := by simpa using hblk
              have hnb' : (ad.block == g) = false := by simpa using hblk
              have hsa : w.shape? ad.block = some (t2, arr2.size) := by unfold World.shape?; rw [hh]
              have hsb : w.shape? g = some (t, arr.size) := by unfold World.shape?; rw [hg]
              have hfb : ∀ o, w.frozen? { block := g, off := o } = false := fun o => by unfold World.frozen?; simp [hg]
              change Sem.run P (α := Value) (do
                let some t := (#[tS, tS] : Array TypeId)[0]? | stuck "slices.overlaps: no parameter types"
                let .slice elem ← underlying t | stuck "slices.overlaps: slice type expected"
                let size ← sizeOf elem
                match (some ad : Option Addr), (some (⟨g, q * sz, none⟩ : Addr) : Option Addr) with
                | some a, some b =>
                  if la = 0 ∨ n = 0 ∨ size = 0 then pure (Value.bool false)
                  else if a.block != b.block && (← frozen a) && (← frozen b) then unsupported .addressObserved
                  else do
                    if a.block != b.block then do
                      noView a; noView b
                      if ← mayBeOne a b then return Value.bool ((← choose (.extern "sameAddr.stringBytes" 2)) == 1)
                    pure (Value.bool (a.block == b.block && a.off < b.off + n * size && b.off < a.off + la * size))
                | _, _ => pure (Value.bool false)) w = _
              by_cases h0 : la = 0 ∨ n = 0 ∨ size = 0
              · simp [run_underlying ht, hz, h0]
              · cases ha2 : arr2.size with
                | zero => exact absurd ha2 hpos
                | succ kB =>
                  rw [ha2] at hsa
                  simp [run_underlying ht, hz, h0, hnb, hnb', frozen, noView, viewAt, mayBeOne, stringish, shape, Sem.run, hsa, hsb, hfb]
            have := key ((x :: r) :: xs).length
            show ((Extern.SlicesOverlaps.overlaps #[tS, tS] #[tR] #[.slice (some ad) ((x :: r) :: xs).length c0, .slice (some ⟨g, q * sz, none⟩) n c]).run P w).andThen _ = _
            rw [this]
            rfl
          · cases hcx
        

end Go.Proofs.YtiefcnghjcafbaaDoorV

/- The calculus of values, twenty-ninth text: a window cut with a bound on its room; a window cleared; regions stepped by operations. -/
namespace Go.Proofs.YtiefcnghjcafbaaDoorV
open Go Go.RowKit

section
variable {P : Program} {L : Lay} {ts ts1 : List V} {bs bs1 : List Bx} {o : Oper} {C : CallT} {ops : Array Oper} {N : List V → List Bx → Prop} {r : List Oper}

theorem onil (h : N ts bs) : Ops P ops N [] ts bs := h
theorem ostep {v : V} (hL : LayOk P L) (hC : Good P C) (h1 : wantV ops o ts = some true) (h2 : evX L C o.op ts bs = some (v, bs1)) (h3 : putV o.dst v ts = ts1) (h : Ops P ops N r ts1 bs1) : Ops P ops N (o :: r) ts bs := by
  refine ⟨true, h1, fun _ => (evX_sound hL hC h2).mono ?_, fun h => by cases h⟩
  rintro _ _ ⟨rfl, rfl⟩
  rw [h3]
  exact h
theorem ostepO {v : V} (h1 : wantV ops o ts = some true) (h2 : OpOk P o (fun ts' bs' => ts' = putV o.dst v ts ∧ bs' = bs1) ts bs) (h3 : putV o.dst v ts = ts1) (h : Ops P ops N r ts1 bs1) : Ops P ops N (o :: r) ts bs := by
  refine ⟨true, h1, fun _ => h2.mono ?_, fun h => by cases h⟩
  rintro _ _ ⟨rfl, rfl⟩
  rw [h3]
  exact h

/-- A window is cut, with a bound on its room. -/
theorem op_cut3 (hL : LayOk P L) {t e k sz q n c l h m : Nat} {k1 k2 k3 : IntKind} {x0 lo hi mx : Operand} (ho : o.op = .slice t x0 (some lo) (some hi) (some mx)) (hx : evO ts x0 = some (.win k sz q n c)) (hl : L.sl t = some (e, sz))
    (hlo : evO ts lo = some (.val (.int k1 (l : Int)))) (hhi : evO ts hi = some (.val (.int k2 (h : Int)))) (hmx : evO ts mx = some (.val (.int k3 (m : Int)))) (h1 : l ≤ h) (h2 : h ≤ m) (h3 : m ≤ c) :
    OpOk P o (fun ts' bs' => ts' = putV o.dst (if m = l then .win k sz q (h - l) (m - l) else .win k sz (q + l) (h - l) (m - l)) ts ∧ bs' = bs) ts bs := by
  refine OpOk.value fun T φ w a hs ht => ?_
  have h4 := evO_sound ht hx
  have e1 := RV.bool_of (evO_sound ht hlo)
  have e2 := RV.bool_of (evO_sound ht hhi)
  have e3 := RV.bool_of (evO_sound ht hmx)
  generalize he : a.eval x0 = u at h4
  cases h4 with
  | win _ _ _ _ _ g hk hn hm =>
    refine ⟨.slice (if m = l then some ⟨g, q * sz, none⟩ else some ⟨g, (q + l) * sz, none⟩) (h - l) (m - l), ?_, ?_⟩
    · obtain ⟨hu, hi0, _⟩ := hL.sl t e sz hl
      cases hq : P.info? e with
      | none => rw [hq] at hi0; cases hi0
      | some inf =>
        rw [hq] at hi0
        have hi2 : inf.size = sz := by simpa using hi0
        have hcut : (Instr.sliceBounds true n c (some (.int k1 (l : Int))) (some (.int k2 (h : Int))) (some (.int k3 (m : Int)))).run P w = .ok (l, h, m) w := by
          simp [Instr.sliceBounds, Instr.sliceBound, asIntOf, h1, h2, h3]
        have hr : (Instr.sliceAt t (.slice (some ⟨g, q * sz, none⟩) n c) (some (.int k1 (l : Int))) (some (.int k2 (h : Int))) (some (.int k3 (m : Int)))).run P w = .ok (.slice (if m = l then some ⟨g, q * sz, none⟩ else (some ⟨g, q * sz, none⟩ : Option Addr).map (·.add (l * sz))) (h - l) (m - l)) w := by
          simp [Instr.sliceAt, Instr.slice, run_underlying hu, hcut, sizeOf, typeInfo, hq, hi2]
        simp [execOp, ho, he, e1, e2, e3, hr, add_plain, Nat.add_mul]
    · split
      · exact .win k sz q _ _ g hk (by omega) (by omega)
      · exact .win k sz (q + l) _ _ g hk (by omega) (by omega)

/-- A window is cleared. -/
theorem op_clear (hL : LayOk P L) {t e k sz q n c : Nat} {x0 : Operand} {cs zs : List V} (ho : o.op = .call { callee := .builtin .clear, args := #[x0], argTypes := #[t] }) (hx : evO ts x0 = some (.win k sz q n c)) (hl : L.sl t = some (e, sz)) (hz : L.zero e = some zs) (hzs : zs.length = sz) (hn : 0 < n) (hb : bs[k]? = some (.cells cs)) (hle : (q + n) * sz ≤ cs.length) :
    OpOk P o (fun ts' bs' => ts' = putV o.dst (.tup []) ts ∧ bs' = bs.set k (.cells (spl cs (q * sz) (List.replicate n zs).flatten))) ts bs := by
  refine OpOk.writeV hb rfl fun T φ w a v hs ht hv hbo => ?_
  obtain ⟨g, arr, e', rfl, hh, hsz, hcell⟩ := hbo
  obtain ⟨hu, hinf, hsz0⟩ := hL.sl t e sz hl
  obtain ⟨i, z, h1, h2, hzc⟩ := zero_cells hL hz
  have hisz : i.size = sz := by rw [h1] at hinf; simpa using hinf
  have hzr := hzc (okOf T bs φ) w φ
  have hzl : z.cells.size = sz := by rw [hzr.1, hzs]
  have h4 := evO_sound ht hx
  generalize hed : a.eval x0 = u1 at h4
  cases h4 with
  | win _ _ _ _ _ g' hk hn2 hmx =>
    obtain rfl : g = g' := by
      have := hv.symm.trans hk
      simpa using this
    have hlen : (List.replicate n zs).flatten.length = n * sz := by simp [hzs]
    have hvl : (Builtin.zeroCells z.cells n).toList.length = n * sz := by simp [Builtin.zeroCells, hzl]
    have hmul : q * sz + n * sz ≤ cs.length := by rw [← Nat.add_mul]; exact hle
    have hget : ∀ (j : Nat) (c0 : V), (List.replicate n zs).flatten[j]? = some c0 → c0.atomic = true ∧ RV (okOf T bs φ) w φ c0 ((Builtin.zeroCells z.cells n).toList.getD j Go.undef) := fun j c0 hj => by
      have hjn : j < n * sz := by rw [← hlen]; exact (List.getElem?_eq_some_iff.1 hj).1
      have h3 := rep_get zs n j c0 hj
      rw [hzs] at h3
      obtain ⟨k3, k4⟩ := hzr.2 _ c0 h3
      refine ⟨k3, ?_⟩
      have hm : j % sz < z.cells.size := by rw [hzl]; exact Nat.mod_lt _ hsz0
      have e1 : (Builtin.zeroCells z.cells n).toList.getD j Go.undef = z.cells.getD (j % sz) Go.undef := by
        have hj2 : j < (Builtin.zeroCells z.cells n).toList.length := by rw [hvl]; exact hjn
        rw [List.getD_eq_getElem?_getD, List.getElem?_eq_getElem hj2]
        simp [Builtin.zeroCells, hzl, Array.getD_eq_getD_getElem?]
        rw [getElem!_pos z.cells (j % sz) hm, getElem?_pos z.cells (j % sz) hm]
        rfl
      rw [e1]
      exact k4
    have hone : ∀ v ∈ (Builtin.zeroCells z.cells n).toList, v.oneCell' = true := fun v hv => by
      obtain ⟨j, hj⟩ := List.mem_iff_getElem?.1 hv
      have hjn : j < n * sz := by rw [← hvl]; exact (List.getElem?_eq_some_iff.1 hj).1
      obtain ⟨c0, hc0⟩ : ∃ c0, (List.replicate n zs).flatten[j]? = some c0 := ⟨_, List.getElem?_eq_getElem (by rw [hlen]; exact hjn)⟩
      obtain ⟨h5, h6⟩ := hget j c0 hc0
      have : (Builtin.zeroCells z.cells n).toList.getD j Go.undef = v := by rw [List.getD_eq_getElem?_getD, hj]; rfl
      rw [this] at h6
      exact (h6.atom h5).1
    obtain ⟨w', s1, s2, s3, s4, s5, s6, s7⟩ := store_cells P g (q * sz) e' (Builtin.zeroCells z.cells n).toList 0 w arr hh (by rw [hvl, hsz]; omega) hone
    refine ⟨w', .tuple #[], ?_, s3, s4, s5, by omega, fun q' hq hne => s7 q' (fun e => hne (by rw [e]; rfl)), fun he => ⟨?_, .tup [] #[] rfl (fun i c h => by simp at h)⟩⟩
    · have hzv : (zeroValue e).run P w = .ok z w := by simp [zeroValue, typeInfo, h1, h2]
      obtain ⟨n', rfl⟩ : ∃ n', n = n' + 1 := ⟨n - 1, by omega⟩
      have hrun : (Builtin.clear_ #[t] o.type #[.slice (some ⟨g, q * sz, none⟩) (n' + 1) c]).run P w = .ok (.tuple #[]) w' := by
        simp [Builtin.clear_, run_underlying hu, hzv, s1]
      simp [execOp, ho, resolve, hed, invoke, builtin, hrun, Result.andThen]
    · rw [Nat.add_zero] at s2
      exact cells_spl hsz hcell (by rw [hvl, hlen]) hget (by rw [hlen]; exact hmul) s2 he
end

end Go.Proofs.YtiefcnghjcafbaaDoorV

/- Lists of files in plain terms: what putting, making and removing come to. -/
namespace Go.Proofs.YtiefcnghjcafbaaDoorV
open Go Go.RowKit Go.Proofs.YtiefcnghjcafbaaDoor
set_option maxRecDepth 20000

theorem first_zero : ∀ (b a : List Fl), Seen a → firstE (checkP (a ++ b)) a.length b = 0 → Seen (a ++ b)
  | [], a, ha, _ => by simpa using ha
  | f :: b, a, ha, h => by
    rw [firstE] at h
    split at h
    · rename_i hz; exact absurd h hz
    · rename_i hz
      have hz' : baseF (prevF (a ++ f :: b) a.length) f = 0 := by
        have := Decidable.not_not.1 hz
        unfold checkP at this
        split at this
        · rename_i h; exact absurd this h
        · rename_i h; exact Decidable.not_not.1 h
      obtain ⟨h1, h2, _, _, h5⟩ := base_zero hz'
      have hs := ha.snoc (f := f) (fun g hg => h5 g (by rw [prev_last]; exact hg)) h1 h2
      have := first_zero b (a ++ [f]) hs (by simpa using h)
      simpa using this
theorem valid_seen {l : List Fl} (h : validB checkP l = 0) : Seen l ∧ hasF l [47] = true ∧ l.length ≤ 128 := by
  unfold validB at h
  split at h
  · cases h
  · rename_i hlen
    cases l with
    | nil => cases h
    | cons f r =>
      dsimp only at h
      split at h
      · rename_i hr
        exact ⟨first_zero (f :: r) [] .nil h, by simp [hasF, hr], by omega⟩
      · cases h

def placeF (l : List Fl) (p : List UInt8) : Nat := (l.takeWhile fun f => ltB f.path p).length
def insP (l : List Fl) (f : Fl) : List Fl := l.take (placeF l f.path) ++ f :: l.drop (placeF l f.path)
def insR : List Fl → Fl → List Fl
  | [], f => [f]
  | g :: l, f => if ltB f.path g.path then f :: g :: l else g :: insR l f
def withoutF (l : List Fl) (p : List UInt8) : List Fl := l.filter fun f => !decide (f.path = p)
def setD (l : List Fl) (i : Nat) (d : List UInt8) : List Fl := match l[i]? with
  | some f => l.set i ⟨f.path, f.dir, d⟩
  | none => l
def dirAt (l : List Fl) (i : Nat) : Bool := match l[i]? with
  | some f => f.dir
  | none => false
def putP (l : List Fl) (p d : List UInt8) : List Fl × Int :=
  if pathB p = false then (l, 10) else if 8192 < d.length then (l, 3)
  else match l.findIdx? fun f => decide (f.path = p) with
  | some i => if dirAt l i = true then (l, 17) else if perrP l p ≠ 0 then (l, perrP l p) else (setD l i d, 0)
  | none => if perrP l p ≠ 0 then (l, perrP l p) else if 128 ≤ l.length then (l, 4) else (insP l ⟨p, false, d⟩, 0)
def putR (l : List Fl) (p d : List UInt8) : List Fl × Int :=
  if pathB p = false then (l, 10) else if 8192 < d.length then (l, 3)
  else match l.findIdx? fun f => decide (f.path = p) with
  | some i => if dirAt l i = true then (l, 17) else if perrR l p ≠ 0 then (l, perrR l p) else (insR (withoutF l p) ⟨p, false, d⟩, 0)
  | none => if perrR l p ≠ 0 then (l, perrR l p) else if 128 ≤ l.length then (l, 4) else (insR (withoutF l p) ⟨p, false, d⟩, 0)
def mkP (l : List Fl) (p : List UInt8) : List Fl × Int :=
  if pathB p = false then (l, 10) else if hasF l p then (l, 9) else if perrP l p ≠ 0 then (l, perrP l p) else if 128 ≤ l.length then (l, 4) else (insP l ⟨p, true, []⟩, 0)
def mkR (l : List Fl) (p : List UInt8) : List Fl × Int :=
  if pathB p = false then (l, 10) else if hasF l p then (l, 9) else if perrR l p ≠ 0 then (l, perrR l p) else if 128 ≤ l.length then (l, 4) else (insR l ⟨p, true, []⟩, 0)
def holdsF (l : List Fl) (p : List UInt8) : Bool := l.any fun f => !decide (f.path = [47]) && decide (parentB f.path = p)
def rmP (l : List Fl) (p : List UInt8) : List Fl × Int :=
  if pathB p = false then (l, 10) else if p = [47] then (l, 23) else match l.findIdx? fun f => decide (f.path = p) with
  | none => (l, 8)
  | some i => if holdsF l p then (l, 19) else (l.eraseIdx i, 0)
def rmR (l : List Fl) (p : List UInt8) : List Fl × Int :=
  if pathB p = false then (l, 10) else if p = [47] then (l, 23) else match l.findIdx? fun f => decide (f.path = p) with
  | none => (l, 8)
  | some _ => if holdsF l p then (l, 19) else (withoutF l p, 0)

theorem insR_mid : ∀ (a b : List Fl) (f : Fl), (∀ g ∈ a, ltB f.path g.path = false) → (∀ g, b.head? = some g → ltB f.path g.path = true) → insR (a ++ b) f = a ++ f :: b
  | [], [], f, _, _ => rfl
  | [], g :: b, f, _, h => by
    rw [List.nil_append, insR, if_pos (h g rfl)]
    rfl
  | g :: a, b, f, h, k => by
    rw [List.cons_append, insR, if_neg (by rw [h g (by simp)]; simp), insR_mid a b f (fun x hx => h x (List.mem_cons_of_mem _ hx)) k]
    rfl
theorem ltB_asymm {a b : List UInt8} (h : ltB a b = true) : ltB b a = false := by
  cases k : ltB b a
  · rfl
  · have := ltB_trans h k
    rw [ltB_irrefl] at this
    cases this
theorem drop_takeWhile {α : Type} (q : α → Bool) : ∀ l : List α, l.drop (l.takeWhile q).length = l.dropWhile q
  | [] => rfl
  | a :: l => by
    rw [List.takeWhile_cons, List.dropWhile_cons]
    split
    · simpa using drop_takeWhile q l
    · rfl
theorem take_takeWhile {α : Type} (q : α → Bool) : ∀ l : List α, l.take (l.takeWhile q).length = l.takeWhile q
  | [] => rfl
  | a :: l => by
    rw [List.takeWhile_cons]
    split
    · simpa using take_takeWhile q l
    · rfl
theorem ins_same {l : List Fl} (hl : Seen l) {f : Fl} (hn : hasF l f.path = false) : insP l f = insR l f := by
  unfold insP placeF
  rw [take_takeWhile, drop_takeWhile]
  conv => rhs; rw [← List.takeWhile_append_dropWhile (p := fun g => ltB g.path f.path) (l := l)]
  refine (insR_mid _ _ f (fun g hg => ?_) (fun g hg => ?_)).symm
  · exact ltB_asymm (List.all_eq_true.1 List.all_takeWhile g hg)
  · have h1 : ltB g.path f.path = false := by
      have := List.head?_dropWhile_not (fun g => ltB g.path f.path) l
      rw [hg] at this
      simpa using this
    have h2 : g ∈ l := (List.dropWhile_suffix _).subset (List.mem_of_head? hg)
    refine ltB_tri ?_
    unfold leB
    rw [h1, Bool.false_or, beq_eq_false_iff_ne]
    intro e
    have := List.any_eq_false.1 hn g h2
    simp [e] at this
theorem idx_split {l : List Fl} {p : List UInt8} {i : Nat} (h : l.findIdx? (fun f => decide (f.path = p)) = some i) : ∃ a f b, l = a ++ f :: b ∧ a.length = i ∧ f.path = p := by
  obtain ⟨h1, h2, _⟩ := List.findIdx?_eq_some_iff_getElem.1 h
  refine ⟨l.take i, l[i], l.drop (i + 1), ?_, by simp; omega, by simpa using h2⟩
  rw [← List.drop_eq_getElem_cons h1, List.take_append_drop]
theorem without_mid {a b : List Fl} {f : Fl} (h : (a ++ f :: b).Pairwise fun f g => f.path ≠ g.path) : withoutF (a ++ f :: b) f.path = a ++ b := by
  rw [List.pairwise_append] at h
  obtain ⟨_, h2, h3⟩ := h
  rw [List.pairwise_cons] at h2
  unfold withoutF
  rw [List.filter_append, List.filter_cons, if_neg (by simp), List.filter_eq_self.2 fun g hg => ?_, List.filter_eq_self.2 fun g hg => ?_]
  · have := h2.1 g hg
    simp
    exact fun e => this e.symm
  · have := h3 g hg f (by simp)
    simpa using this
theorem has_none {l : List Fl} {p : List UInt8} (h : l.findIdx? (fun f => decide (f.path = p)) = none) : hasF l p = false := by
  have h1 := List.findIdx?_eq_none_iff.1 h
  exact List.any_eq_false.2 fun x hx => by simp [h1 x hx]
theorem has_some {l : List Fl} {p : List UInt8} {i : Nat} (h : l.findIdx? (fun f => decide (f.path = p)) = some i) : hasF l p = true := by
  obtain ⟨a, f, b, rfl, _, hp⟩ := idx_split h
  exact List.any_eq_true.2 ⟨f, by simp, by simpa using hp⟩
theorem without_none {l : List Fl} {p : List UInt8} (h : hasF l p = false) : withoutF l p = l := by
  unfold withoutF
  refine List.filter_eq_self.2 fun g hg => ?_
  have := List.any_eq_false.1 h g hg
  simpa using this
theorem put_same {l : List Fl} (hv : validB checkP l = 0) (p d : List UInt8) : putP l p d = putR l p d := by
  obtain ⟨hs, hroot, _⟩ := valid_seen hv
  unfold putP putR
  split
  · rfl
  rename_i hp
  have hp' : pathB p = true := by simpa using hp
  split
  · rfl
  split
  · rename_i i hi
    split
    · rfl
    rename_i hd
    obtain ⟨a, f, b, hl, hai, hfp⟩ := idx_split hi
    have hpr : p ≠ [47] := fun e => by
      have hd' : dirAt l i = f.dir := by
        unfold dirAt
        rw [hl, ← hai]
        simp
      have := hs.good.root f (by rw [hl]; simp) (hfp.trans e)
      rw [hd', this] at hd
      exact hd rfl
    rw [perr_same hs.good hp' hpr]
    split
    · rfl
    · have h1 : setD l i d = a ++ ⟨p, f.dir, d⟩ :: b := by
        unfold setD
        rw [hl, ← hai]
        simp [hfp]
      have hfd : f.dir = false := by
        have hd' : dirAt l i = f.dir := by
          unfold dirAt
          rw [hl, ← hai]
          simp
        rw [hd'] at hd
        simpa using hd
      have h2 : withoutF l p = a ++ b := by
        rw [hl, ← hfp]
        exact without_mid (hl ▸ hs.good.once)
      have h3 := hs.sorted
      rw [hl, List.pairwise_append, List.pairwise_cons] at h3
      obtain ⟨_, ⟨h4, _⟩, h5⟩ := h3
      rw [h1, h2, hfd, insR_mid a b ⟨p, false, d⟩ (fun g hg => ltB_asymm (hfp ▸ h5 g hg f (by simp))) (fun g hg => hfp ▸ h4 g (List.mem_of_head? hg))]
  · rename_i hi
    have hn := has_none hi
    have hpr : p ≠ [47] := fun e => by rw [e, hroot] at hn; cases hn
    rw [perr_same hs.good hp' hpr, without_none hn]
    split
    · rfl
    split
    · rfl
    · rw [ins_same hs (f := ⟨p, false, d⟩) hn]
theorem mk_same {l : List Fl} (hv : validB checkP l = 0) (p : List UInt8) : mkP l p = mkR l p := by
  obtain ⟨hs, hroot, _⟩ := valid_seen hv
  unfold mkP mkR
  split
  · rfl
  rename_i hp
  have hp' : pathB p = true := by simpa using hp
  cases hn : hasF l p
  · have hpr : p ≠ [47] := fun e => by rw [e, hroot] at hn; cases hn
    simp only [Bool.false_eq_true, if_false]
    rw [perr_same hs.good hp' hpr]
    split
    · rfl
    split
    · rfl
    · rw [ins_same hs (f := ⟨p, true, []⟩) hn]
  · rfl
theorem rm_same {l : List Fl} (hv : validB checkP l = 0) (p : List UInt8) : rmP l p = rmR l p := by
  obtain ⟨hs, hroot, _⟩ := valid_seen hv
  unfold rmP rmR
  split
  · rfl
  split
  · rfl
  split
  · rfl
  · rename_i i hi
    split
    · rfl
    · obtain ⟨a, f, b, hl, hai, hfp⟩ := idx_split hi
      have h2 : withoutF l p = a ++ b := by
        rw [hl, ← hfp]
        exact without_mid (hl ▸ hs.good.once)
      rw [h2, hl, ← hai, List.eraseIdx_append_of_length_le (Nat.le_refl _)]
      simp

end Go.Proofs.YtiefcnghjcafbaaDoorV

/- Lists of files: copies with room, places, what is put in. -/
namespace Go.Proofs.YtiefcnghjcafbaaDoorV
open Go Go.RowKit Go.Proofs.YtiefcnghjcafbaaDoor
set_option maxRecDepth 20000
set_option maxHeartbeats 1000000

section
variable {L : Lay} {C : CallT} {ts : List V} {bs : List Bx} {t t' : TypeId} {x y : Operand} {v : Bool}
theorem lsT {l l' : List UInt8} (h : ltB l l' = v) (hx : evO ts x = some (T l)) (hy : evO ts y = some (T l')) : evX L C (.binOp .lss t x y t') ts bs = some (bV v, bs) := by
  have : Op.bytesLess (B l).toList (B l').toList = v := by
    rw [Lib.toList_data, Lib.toList_data, less_is, ← h]
  simp only [evX, ev, hx, hy, evB, this, Option.map_some]
end

/-- Regions of the second kind, step by step. -/
def WpD (L : Lay) (C : CallT) (bz : List Bx) (ops : Array Oper) (N : List V → List Bx → Prop) (l : List Oper) (ts : List V) (bs : List Bx) : Prop := ∃ ts' bs', runD L C bz ops l ts bs = some (ts', bs') ∧ N ts' bs'
section
variable {P : Program} {m : Nat} {L : Lay} {C : CallT} {G H : FuncId → Bool} {Q : Ex → List V → List Bx → Prop} {ops : Array Oper} {bz bs bs1 : List Bx} {N : List V → List Bx → Prop} {o : Oper} {r l : List Oper} {ts ts1 : List V}
theorem gnil (h : N ts bs) : WpD L C bz ops N [] ts bs := ⟨ts, bs, rfl, h⟩
theorem gstep {v : V} (h1 : wantV ops o ts = some true) (h2 : evD L C bz o.op ts bs = some (v, bs1)) (h3 : putV o.dst v ts = ts1) (h : WpD L C bz ops N r ts1 bs1) : WpD L C bz ops N (o :: r) ts bs := by
  obtain ⟨ts', bs', h4, h5⟩ := h
  refine ⟨ts', bs', ?_, h5⟩
  rw [runD_cons, h1]
  simp only
  rw [h2]
  simp only
  rw [h3]
  exact h4
theorem Ok.regionGW (hm : P.follows .mixedOrders = true) (hL : LayOk P L) (hC : Good P C) (hG : Calm G C) (hH : Grows H C) {id : Nat} (hc : chkG G H l.toArray = true) (hdst : (l.all fun o => match o.dst with | none => true | some t => decide (t < ts.length)) = true)
    (h : WpD L C bs l.toArray (Q .normal) l ts bs) : Ok P m (.region id l.toArray true) Q ts bs := by
  obtain ⟨ts', bs', h1, h2⟩ := h
  exact Ok.regionG hm hL hC hG hH hc hdst h1 h2
end

theorem copied44 (l : List Fl) (m : Nat) (hl : l.length ≤ 100000) (hm : m ≤ 1000) : FnOk Tryd.prog 44 [.sl (rowsF l), iV (m : Int)] [] (fun r bs' => r = .win 0 3 0 l.length (l.length + m) ∧ bs' = [.cells (flatF (l ++ List.replicate m zeroF))]) := by
  refine FnOk.of layOk Tryd.func44 rfl ?_
  obtain ⟨N, hN⟩ : ∃ N, l.length = N := ⟨_, rfl⟩
  rw [hN]
  have hadd : IntKind.i64.wrap ((N : Int) + (m : Int)) = ((N + m : Nat) : Int) := by rw [wrap64 (by omega) (by omega)]; omega
  refine Ok.seq (go 10 rfl ?_)
  refine Ok.seq (Ok.regionW (G := fun _ => true) (C := TabP _) mixed layOk noT TabP_calm (.inl rfl) ?_)
  refine wstepN rfl rfl (by dsimp only [putV, List.set]) ?_
  first
    | refine wstepN rfl (lenF hN rfl rfl) (by dsimp only [putV, List.set]) ?_
    | refine wstepN rfl (lenF hM rfl rfl) (by dsimp only [putV, List.set]) ?_
    | refine wstepN rfl (lenF (by assumption) rfl rfl) (by dsimp only [putV, List.set]) ?_
    | refine wstepN rfl rfl (by dsimp only [putV, List.set]) ?_
  refine wstepN rfl rfl (by dsimp only [putV, List.set]) ?_
  first
    | refine wstepN rfl (lenF hN rfl rfl) (by dsimp only [putV, List.set]) ?_
    | refine wstepN rfl (lenF hM rfl rfl) (by dsimp only [putV, List.set]) ?_
    | refine wstepN rfl (lenF (by assumption) rfl rfl) (by dsimp only [putV, List.set]) ?_
    | refine wstepN rfl rfl (by dsimp only [putV, List.set]) ?_
  refine wstepN rfl rfl (by dsimp only [putV, List.set]) ?_
  first
    | refine wstepN rfl (addK (by assumption) rfl rfl) (by dsimp only [putV, List.set]) ?_
    | refine wstepN rfl rfl (by dsimp only [putV, List.set]) ?_
  refine wstepN rfl (mkF (n := N) (c := N + m) (by omega) (by omega) rfl rfl (by decide) rfl rfl rfl) (by dsimp only [putV, List.set]) ?_
  refine wstepN rfl rfl (by dsimp only [putV, List.set]) ?_
  refine wnil ?_
  refine Ok.seq (Ok.regionW (G := fun _ => true) (C := TabP _) mixed layOk noT TabP_calm (.inl rfl) ?_)
  refine wstepN rfl rfl (by dsimp only [putV, List.set]) ?_
  refine wstepN rfl rfl (by dsimp only [putV, List.set]) ?_
  refine wstepN rfl (cpF (r := l) (a := List.replicate (N + m) zeroF) (a' := l ++ List.replicate m zeroF) (m := N) (len := N) hN (Nat.min_self N) (by simp) (by simp) (by rw [srcs_sl (by omega), List.take_of_length_le (by omega)]) (by simp [lenV, rowsF_len, hN]) rfl rfl rfl rfl rfl) (by dsimp only [putV, List.set]) ?_
  refine wnil ?_
  refine Ok.seq (Ok.regionW (G := fun _ => true) (C := TabP _) mixed layOk noT TabP_calm (.inl rfl) ?_)
  refine wstepN rfl rfl (by dsimp only [putV, List.set]) ?_
  refine wstepN rfl rfl (by dsimp only [putV, List.set]) ?_
  refine wnil (Ok.ret ⟨fun _ h => (by cases h), _, rfl, rfl, rfl⟩)
theorem copied44b (l : List Fl) (m : Nat) (f : Fl) (hl : l.length ≤ 100000) (hm : m ≤ 1000) : FnOk Tryd.prog 44 [.sl (rowsF l), iV (m : Int)] [.cells (cellsF f)] (fun r bs' => r = .win 1 3 0 l.length (l.length + m) ∧ bs' = [.cells (cellsF f), .cells (flatF (l ++ List.replicate m zeroF))]) := by
  refine FnOk.of layOk Tryd.func44 rfl ?_
  obtain ⟨N, hN⟩ : ∃ N, l.length = N := ⟨_, rfl⟩
  rw [hN]
  have hadd : IntKind.i64.wrap ((N : Int) + (m : Int)) = ((N + m : Nat) : Int) := by rw [wrap64 (by omega) (by omega)]; omega
  refine Ok.seq (go 10 rfl ?_)
  refine Ok.seq (Ok.regionW (G := fun _ => true) (C := TabP _) mixed layOk noT TabP_calm (.inl rfl) ?_)
  refine wstepN rfl rfl (by dsimp only [putV, List.set]) ?_
  first
    | refine wstepN rfl (lenF hN rfl rfl) (by dsimp only [putV, List.set]) ?_
    | refine wstepN rfl (lenF hM rfl rfl) (by dsimp only [putV, List.set]) ?_
    | refine wstepN rfl (lenF (by assumption) rfl rfl) (by dsimp only [putV, List.set]) ?_
    | refine wstepN rfl rfl (by dsimp only [putV, List.set]) ?_
  refine wstepN rfl rfl (by dsimp only [putV, List.set]) ?_
  first
    | refine wstepN rfl (lenF hN rfl rfl) (by dsimp only [putV, List.set]) ?_
    | refine wstepN rfl (lenF hM rfl rfl) (by dsimp only [putV, List.set]) ?_
    | refine wstepN rfl (lenF (by assumption) rfl rfl) (by dsimp only [putV, List.set]) ?_
    | refine wstepN rfl rfl (by dsimp only [putV, List.set]) ?_
  refine wstepN rfl rfl (by dsimp only [putV, List.set]) ?_
  first
    | refine wstepN rfl (addK (by assumption) rfl rfl) (by dsimp only [putV, List.set]) ?_
    | refine wstepN rfl rfl (by dsimp only [putV, List.set]) ?_
  refine wstepN rfl (mkF (n := N) (c := N + m) (by omega) (by omega) rfl rfl (by decide) rfl rfl rfl) (by dsimp only [putV, List.set]) ?_
  refine wstepN rfl rfl (by dsimp only [putV, List.set]) ?_
  refine wnil ?_
  refine Ok.seq (Ok.regionW (G := fun _ => true) (C := TabP _) mixed layOk noT TabP_calm (.inl rfl) ?_)
  refine wstepN rfl rfl (by dsimp only [putV, List.set]) ?_
  refine wstepN rfl rfl (by dsimp only [putV, List.set]) ?_
  refine wstepN rfl (cpF (r := l) (a := List.replicate (N + m) zeroF) (a' := l ++ List.replicate m zeroF) (m := N) (len := N) hN (Nat.min_self N) (by simp) (by simp) (by rw [srcs_sl (by omega), List.take_of_length_le (by omega)]) (by simp [lenV, rowsF_len, hN]) rfl rfl rfl rfl rfl) (by dsimp only [putV, List.set]) ?_
  refine wnil ?_
  refine Ok.seq (Ok.regionW (G := fun _ => true) (C := TabP _) mixed layOk noT TabP_calm (.inl rfl) ?_)
  refine wstepN rfl rfl (by dsimp only [putV, List.set]) ?_
  refine wstepN rfl rfl (by dsimp only [putV, List.set]) ?_
  refine wnil (Ok.ret ⟨fun _ h => (by cases h), _, rfl, rfl, rfl⟩)

theorem place_at {l : List Fl} {p : List UInt8} {k : Nat} (h : (l.take k).all (fun f => ltB f.path p) = true) (hk : k ≤ l.length) (he : ∀ f, l[k]? = some f → ltB f.path p = false) : placeF l p = k := by
  unfold placeF
  conv => lhs; rw [← List.take_append_drop k l]
  rw [List.takeWhile_append_of_pos (fun f hf => List.all_eq_true.1 h f hf), List.length_append]
  have : (l.drop k).takeWhile (fun f => ltB f.path p) = [] := by
    cases hd : l.drop k with
    | nil => rfl
    | cons f r =>
      have : l[k]? = some f := by
        have := congrArg (·[0]?) hd
        simpa using this
      rw [List.takeWhile_cons, he f this]
      rfl
  rw [this]
  simp
  omega
theorem place_le (l : List Fl) (p : List UInt8) : placeF l p ≤ l.length := (List.takeWhile_prefix _).length_le

theorem place67 (l : List Fl) (p : List UInt8) (hl : l.length ≤ 100000) : FnOk Tryd.prog 67 [.sl (rowsF l), T p] [] (fun r bs' => fr bs' r = iV (placeF l p : Int)) := by
  refine FnOk.fast (Q := fun r => r = iV (placeF l p : Int)) layOk Tryd.func67 rfl ?_
  obtain ⟨N, hN⟩ : ∃ N, l.length = N := ⟨_, rfl⟩
  refine Ok.seq (go 10 rfl ?_)
  refine Ok.seq (go 10 rfl ?_)
  refine Ok.seq ?_
  refine Ok.gc (bs2 := []) [] [0, 1, 5] (by kernel_rfl) (by decide) (floor_ok rfl) ?_
  refine Ok.count N (fun k ts bs => (l.take k).all (fun f => ltB f.path p) = true ∧ k ≤ N ∧ bs = [] ∧ ts = (((List.replicate 22 V.gone).set 0 (.sl (rowsF l))).set 1 (T p)).set 5 (iV (k : Int))) ?_ ?_
  · exact ⟨rfl, Nat.zero_le _, rfl, rfl⟩
  rintro k _ _ ⟨hall, hk, rfl, rfl⟩
  simp only [List.replicate, List.set]
  refine Ok.seq (Ok.seq ?_)
  cases hlt : decide (k < N)
  · have hge := of_decide_eq_false hlt
    rw [show placeF l p = k from place_at hall (by omega) (fun f hf => by rw [List.getElem?_eq_none (by omega)] at hf; cases hf)]
    refine Ok.regionW (G := fun _ => true) (C := TabP _) mixed layOk noT TabP_calm (.inl rfl) ?_
    refine wstepN rfl rfl (by dsimp only [putV, List.set]) ?_
    refine wstepN rfl rfl (by dsimp only [putV, List.set]) ?_
    first
      | refine wstepN rfl (lenF hN rfl rfl) (by dsimp only [putV, List.set]) ?_
      | refine wstepN rfl (lenF hM rfl rfl) (by dsimp only [putV, List.set]) ?_
      | refine wstepN rfl (lenF (by assumption) rfl rfl) (by dsimp only [putV, List.set]) ?_
      | refine wstepN rfl rfl (by dsimp only [putV, List.set]) ?_
    first
      | refine wstepN rfl (ltT hlt rfl rfl) (by dsimp only [putV, List.set]) ?_
      | refine wstepN rfl (ltT (by assumption) rfl rfl) (by dsimp only [putV, List.set]) ?_
      | refine wstepN rfl (lssK (by assumption) rfl rfl) (by dsimp only [putV, List.set]) ?_
      | refine wstepN rfl rfl (by dsimp only [putV, List.set]) ?_
    refine wstepN rfl rfl (by dsimp only [putV, List.set]) ?_
    first
      | refine wskipN rfl (by dsimp only [putV, List.set]) ?_
      | refine wstepN rfl rfl (by dsimp only [putV, List.set]) ?_
    first
      | refine wskipN rfl (by dsimp only [putV, List.set]) ?_
      | refine wstepN rfl rfl (by dsimp only [putV, List.set]) ?_
    first
      | refine wskipN rfl (by dsimp only [putV, List.set]) ?_
      | refine wstepN rfl (ev_ix rfl rfl rfl (by assumption) rfl) (by dsimp only [putV, List.set]) ?_
      | refine wstepN rfl rfl (by dsimp only [putV, List.set]) ?_
    first
      | refine wskipN rfl (by dsimp only [putV, List.set]) ?_
      | refine wstepN rfl rfl (by dsimp only [putV, List.set]) ?_
    first
      | refine wskipN rfl (by dsimp only [putV, List.set]) ?_
      | refine wstepN rfl (ldT rfl rfl) (by dsimp only [putV, List.set]) ?_
      | refine wstepN rfl (ldE rfl rfl) (by dsimp only [putV, List.set]) ?_
      | refine wstepN rfl rfl (by dsimp only [putV, List.set]) ?_
    first
      | refine wskipN rfl (by dsimp only [putV, List.set]) ?_
      | refine wstepN rfl rfl (by dsimp only [putV, List.set]) ?_
    first
      | refine wskipN rfl (by dsimp only [putV, List.set]) ?_
      | refine wstepN rfl (lsT (by assumption) rfl rfl) (by dsimp only [putV, List.set]) ?_
      | refine wstepN rfl rfl (by dsimp only [putV, List.set]) ?_
    refine wstepN rfl rfl (by dsimp only [putV, List.set]) ?_
    refine wnil (Ok.cond (b := false) rfl (fun h => by cases h) (fun _ => ?_))
    refine Ok.exit ?_
    exact go 10 rfl ⟨fun _ h => (by cases h), _, rfl, rfl⟩
  · have hlt' : k < N := of_decide_eq_true hlt
    obtain ⟨f, hf⟩ : ∃ f, l[k]? = some f := ⟨_, List.getElem?_eq_getElem (by omega)⟩
    have hget := rowsF_at hf
    have hnext := take_all (p := fun f => ltB f.path p) hf
    cases hq : ltB f.path p
    · rw [show placeF l p = k from place_at hall (by omega) (fun g hg => by rw [hf] at hg; cases hg; exact hq)]
      refine Ok.regionW (G := fun _ => true) (C := TabP _) mixed layOk noT TabP_calm (.inl rfl) ?_
      refine wstepN rfl rfl (by dsimp only [putV, List.set]) ?_
      refine wstepN rfl rfl (by dsimp only [putV, List.set]) ?_
      first
        | refine wstepN rfl (lenF hN rfl rfl) (by dsimp only [putV, List.set]) ?_
        | refine wstepN rfl (lenF hM rfl rfl) (by dsimp only [putV, List.set]) ?_
        | refine wstepN rfl (lenF (by assumption) rfl rfl) (by dsimp only [putV, List.set]) ?_
        | refine wstepN rfl rfl (by dsimp only [putV, List.set]) ?_
      first
        | refine wstepN rfl (ltT hlt rfl rfl) (by dsimp only [putV, List.set]) ?_
        | refine wstepN rfl (ltT (by assumption) rfl rfl) (by dsimp only [putV, List.set]) ?_
        | refine wstepN rfl (lssK (by assumption) rfl rfl) (by dsimp only [putV, List.set]) ?_
        | refine wstepN rfl rfl (by dsimp only [putV, List.set]) ?_
      refine wstepN rfl rfl (by dsimp only [putV, List.set]) ?_
      first
        | refine wskipN rfl (by dsimp only [putV, List.set]) ?_
        | refine wstepN rfl rfl (by dsimp only [putV, List.set]) ?_
      first
        | refine wskipN rfl (by dsimp only [putV, List.set]) ?_
        | refine wstepN rfl rfl (by dsimp only [putV, List.set]) ?_
      first
        | refine wskipN rfl (by dsimp only [putV, List.set]) ?_
        | refine wstepN rfl (ev_ix rfl rfl rfl (by assumption) rfl) (by dsimp only [putV, List.set]) ?_
        | refine wstepN rfl rfl (by dsimp only [putV, List.set]) ?_
      first
        | refine wskipN rfl (by dsimp only [putV, List.set]) ?_
        | refine wstepN rfl rfl (by dsimp only [putV, List.set]) ?_
      first
        | refine wskipN rfl (by dsimp only [putV, List.set]) ?_
        | refine wstepN rfl (ldT rfl rfl) (by dsimp only [putV, List.set]) ?_
        | refine wstepN rfl (ldE rfl rfl) (by dsimp only [putV, List.set]) ?_
        | refine wstepN rfl rfl (by dsimp only [putV, List.set]) ?_
      first
        | refine wskipN rfl (by dsimp only [putV, List.set]) ?_
        | refine wstepN rfl rfl (by dsimp only [putV, List.set]) ?_
      first
        | refine wskipN rfl (by dsimp only [putV, List.set]) ?_
        | refine wstepN rfl (lsT (by assumption) rfl rfl) (by dsimp only [putV, List.set]) ?_
        | refine wstepN rfl rfl (by dsimp only [putV, List.set]) ?_
      refine wstepN rfl rfl (by dsimp only [putV, List.set]) ?_
      refine wnil (Ok.cond (b := false) rfl (fun h => by cases h) (fun _ => ?_))
      refine Ok.exit ?_
      exact go 10 rfl ⟨fun _ h => (by cases h), _, rfl, rfl⟩
    · refine Ok.regionW (G := fun _ => true) (C := TabP _) mixed layOk noT TabP_calm (.inl rfl) ?_
      refine wstepN rfl rfl (by dsimp only [putV, List.set]) ?_
      refine wstepN rfl rfl (by dsimp only [putV, List.set]) ?_
      first
        | refine wstepN rfl (lenF hN rfl rfl) (by dsimp only [putV, List.set]) ?_
        | refine wstepN rfl (lenF hM rfl rfl) (by dsimp only [putV, List.set]) ?_
        | refine wstepN rfl (lenF (by assumption) rfl rfl) (by dsimp only [putV, List.set]) ?_
        | refine wstepN rfl rfl (by dsimp only [putV, List.set]) ?_
      first
        | refine wstepN rfl (ltT hlt rfl rfl) (by dsimp only [putV, List.set]) ?_
        | refine wstepN rfl (ltT (by assumption) rfl rfl) (by dsimp only [putV, List.set]) ?_
        | refine wstepN rfl (lssK (by assumption) rfl rfl) (by dsimp only [putV, List.set]) ?_
        | refine wstepN rfl rfl (by dsimp only [putV, List.set]) ?_
      refine wstepN rfl rfl (by dsimp only [putV, List.set]) ?_
      first
        | refine wskipN rfl (by dsimp only [putV, List.set]) ?_
        | refine wstepN rfl rfl (by dsimp only [putV, List.set]) ?_
      first
        | refine wskipN rfl (by dsimp only [putV, List.set]) ?_
        | refine wstepN rfl rfl (by dsimp only [putV, List.set]) ?_
      first
        | refine wskipN rfl (by dsimp only [putV, List.set]) ?_
        | refine wstepN rfl (ev_ix rfl rfl rfl (by assumption) rfl) (by dsimp only [putV, List.set]) ?_
        | refine wstepN rfl rfl (by dsimp only [putV, List.set]) ?_
      first
        | refine wskipN rfl (by dsimp only [putV, List.set]) ?_
        | refine wstepN rfl rfl (by dsimp only [putV, List.set]) ?_
      first
        | refine wskipN rfl (by dsimp only [putV, List.set]) ?_
        | refine wstepN rfl (ldT rfl rfl) (by dsimp only [putV, List.set]) ?_
        | refine wstepN rfl (ldE rfl rfl) (by dsimp only [putV, List.set]) ?_
        | refine wstepN rfl rfl (by dsimp only [putV, List.set]) ?_
      first
        | refine wskipN rfl (by dsimp only [putV, List.set]) ?_
        | refine wstepN rfl rfl (by dsimp only [putV, List.set]) ?_
      first
        | refine wskipN rfl (by dsimp only [putV, List.set]) ?_
        | refine wstepN rfl (lsT (by assumption) rfl rfl) (by dsimp only [putV, List.set]) ?_
        | refine wstepN rfl rfl (by dsimp only [putV, List.set]) ?_
      refine wstepN rfl rfl (by dsimp only [putV, List.set]) ?_
      refine wnil (Ok.cond (b := true) rfl (fun _ => ?_) (fun h => by cases h))
      refine Ok.skip ?_
      refine Ok.after (Ok.block ?_)
      refine Ok.regionW (G := fun _ => true) (C := TabP _) mixed layOk noT TabP_calm (.inl rfl) ?_
      refine wstepN rfl rfl (by dsimp only [putV, List.set]) ?_
      first
        | refine wstepN rfl (incT (by omega) rfl rfl) (by dsimp only [putV, List.set]) ?_
        | refine wstepN rfl (addK (by assumption) rfl rfl) (by dsimp only [putV, List.set]) ?_
        | refine wstepN rfl rfl (by dsimp only [putV, List.set]) ?_
      refine wstepN rfl rfl (by dsimp only [putV, List.set]) ?_
      refine wnil ⟨[], [0, 1, 5], [], by kernel_rfl, by decide, floor_ok rfl, hlt', by rw [hnext, hall, hq]; rfl, hlt', rfl, rfl⟩

theorem size_of {P : Program} {L : Lay} (hL : LayOk P L) {t e sz : Nat} (hl : L.sl t = some (e, sz)) (w : World) : (sizeOf e).run P w = .ok sz w := by
  obtain ⟨_, hi0, _⟩ := hL.sl t e sz hl
  cases hq : P.info? e with
  | none => rw [hq] at hi0; cases hi0
  | some inf =>
    rw [hq] at hi0
    have hi2 : inf.size = sz := by simpa using hi0
    simp [sizeOf, typeInfo, hq, hi2]
/-- slices.overlaps, as far as it is called. -/
def ovC : CallT := fun f vs bs => match f, vs with
  | 79, [.sl ((_ :: _) :: _), .win k _ _ _ _] => match bs[k]? with
    | some (.cells _) => some (.val (.bool false), bs)
    | _ => none
  | _, _ => none
theorem ovC_good : Good Tryd.prog ovC := by
  intro f vs bs v bs' h
  unfold ovC at h
  split at h
  · split at h
    · rename_i hb
      cases h
      exact .inr ⟨rfl, ext_overlaps (tS := 22) (tR := 4) (e := 45) (size := 3) (fun args w => run_callFunc_extern Tryd.func79 (by kernel_rfl) (by kernel_rfl) (by kernel_rfl) (e := Extern.SlicesOverlaps.overlaps #[22, 22] #[4]) (by kernel_rfl) args w) Tryd.underlying22 (size_of layOk (t := 22) rfl) hb⟩
    · cases h
  · cases h

end Go.Proofs.YtiefcnghjcafbaaDoorV
