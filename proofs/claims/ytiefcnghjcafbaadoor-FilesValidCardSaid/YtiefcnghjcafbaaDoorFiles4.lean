/- Lists of files: the reference's Valid; the law FilesValid over plain values. -/
import Derived.Test.YtiefcnghjcafbaaDoorFiles3
namespace Go.Proofs.YtiefcnghjcafbaaDoorV
open Go Go.RowKit Go.Proofs.YtiefcnghjcafbaaDoor
set_option maxRecDepth 20000
set_option maxHeartbeats 1000000

inductive P11 (m : List Fl) (p : List UInt8) : FuncId → List V → V → Prop
  | path : P11 m p 18 [T p] (bV (pathB p))
  | perr : P11 m p 33 [.sl (rowsF m), T p] (iV (perrR m p))
theorem P11_u (m : List Fl) (p : List UInt8) : Uniq (P11 m p) := fun f vs v v' h h' => by cases h <;> cases h' <;> rfl
theorem P11_good (m : List Fl) (p : List UInt8) (hm : m.length ≤ 100000) (hp : p.length ≤ 10000) : Good Tryd.prog (TabP (P11 m p)) := TabP_good fun f vs v h => by
  cases h with
  | path => exact ⟨rpath18 p, rfl, rfl, Tryd.call18⟩
  | perr => exact ⟨rperr33 m p hm hp, rfl, rfl, Tryd.call33⟩

theorem rvalid11 (l : List Fl) (hl : l.length ≤ 100000) (hp : ∀ f ∈ l, f.path.length ≤ 10000) : FnOk Tryd.prog 11 [.sl (rowsF l)] [] (fun r bs' => fr bs' r = iV (validB checkR l)) := by
  refine FnOk.fast (Q := fun r => r = iV (validB checkR l)) layOk Tryd.func11 rfl ?_
  obtain ⟨N, hN⟩ : ∃ N, l.length = N := ⟨_, rfl⟩
  refine Ok.seq (go 10 rfl ?_)
  refine Ok.seq ?_
  cases h128 : decide ((N : Int) > 128)
  case true =>
    have := of_decide_eq_true h128
    rw [show validB checkR l = 4 by unfold validB; rw [if_pos (by omega)]]
    refine Ok.seq (Ok.regionW (G := fun _ => true) (C := TabP _) mixed layOk noT TabP_calm (.inl rfl) ?_)
    refine wstepN rfl rfl (by dsimp only [putV, List.set]) ?_
    first
      | refine wstepN rfl (lenF hN rfl rfl) (by dsimp only [putV, List.set]) ?_
      | refine wstepN rfl (lenF hM rfl rfl) (by dsimp only [putV, List.set]) ?_
      | refine wstepN rfl (lenF (by assumption) rfl rfl) (by dsimp only [putV, List.set]) ?_
      | refine wstepN rfl rfl (by dsimp only [putV, List.set]) ?_
    first
      | refine wstepN rfl (gtrK h128 rfl rfl) (by dsimp only [putV, List.set]) ?_
      | refine wstepN rfl (gtrK (by assumption) rfl rfl) (by dsimp only [putV, List.set]) ?_
      | refine wstepN rfl rfl (by dsimp only [putV, List.set]) ?_
    refine wnil (Ok.cond (b := true) rfl (fun _ => ?_) (fun h => by cases h))
    exact go 10 rfl ⟨fun _ h => (by cases h), _, rfl, rfl⟩
  have h128' := of_decide_eq_false h128
  refine Ok.seq (Ok.regionW (G := fun _ => true) (C := TabP _) mixed layOk noT TabP_calm (.inl rfl) ?_)
  refine wstepN rfl rfl (by dsimp only [putV, List.set]) ?_
  first
    | refine wstepN rfl (lenF hN rfl rfl) (by dsimp only [putV, List.set]) ?_
    | refine wstepN rfl (lenF hM rfl rfl) (by dsimp only [putV, List.set]) ?_
    | refine wstepN rfl (lenF (by assumption) rfl rfl) (by dsimp only [putV, List.set]) ?_
    | refine wstepN rfl rfl (by dsimp only [putV, List.set]) ?_
  first
    | refine wstepN rfl (gtrK h128 rfl rfl) (by dsimp only [putV, List.set]) ?_
    | refine wstepN rfl (gtrK (by assumption) rfl rfl) (by dsimp only [putV, List.set]) ?_
    | refine wstepN rfl rfl (by dsimp only [putV, List.set]) ?_
  refine wnil (Ok.cond (b := false) rfl (fun h => by cases h) (fun _ => ?_))
  refine Ok.skip ?_
  refine Ok.seq ?_
  cases l with
  | nil =>
    obtain rfl : N = 0 := by simpa using hN.symm
    have h0 : (((0 : Nat) : Int) == 0) = true := rfl
    rw [show validB checkR [] = 8 by rfl]
    refine Ok.seq (Ok.regionW (G := fun _ => true) (C := TabP _) mixed layOk noT TabP_calm (.inl rfl) ?_)
    refine wstepN rfl rfl (by dsimp only [putV, List.set]) ?_
    first
      | refine wstepN rfl (lenF hN rfl rfl) (by dsimp only [putV, List.set]) ?_
      | refine wstepN rfl (lenF hM rfl rfl) (by dsimp only [putV, List.set]) ?_
      | refine wstepN rfl (lenF (by assumption) rfl rfl) (by dsimp only [putV, List.set]) ?_
      | refine wstepN rfl rfl (by dsimp only [putV, List.set]) ?_
    first
      | refine wstepN rfl (eqlK (by assumption) rfl rfl) (by dsimp only [putV, List.set]) ?_
      | refine wstepN rfl rfl (by dsimp only [putV, List.set]) ?_
    refine wstepN rfl rfl (by dsimp only [putV, List.set]) ?_
    first
      | refine wskipN rfl (by dsimp only [putV, List.set]) ?_
      | refine wstepN rfl rfl (by dsimp only [putV, List.set]) ?_
    first
      | refine wskipN rfl (by dsimp only [putV, List.set]) ?_
      | refine wstepN rfl (ev_ix rfl rfl rfl (by assumption) rfl) (by dsimp only [putV, List.set]) ?_
      | refine wstepN rfl rfl (by dsimp only [putV, List.set]) ?_
    first
      | refine wskipN rfl (by dsimp only [putV, List.set]) ?_
      | refine wstepN rfl rfl (by dsimp only [putV, List.set]) ?_
    first
      | refine wskipN rfl (by dsimp only [putV, List.set]) ?_
      | refine wstepN rfl (ldT rfl rfl) (by dsimp only [putV, List.set]) ?_
      | refine wstepN rfl (ldE rfl rfl) (by dsimp only [putV, List.set]) ?_
      | refine wstepN rfl rfl (by dsimp only [putV, List.set]) ?_
    first
      | refine wskipN rfl (by dsimp only [putV, List.set]) ?_
      | refine wstepN rfl (neqT (by assumption) rfl rfl) (by dsimp only [putV, List.set]) ?_
      | refine wstepN rfl rfl (by dsimp only [putV, List.set]) ?_
    refine wstepN rfl rfl (by dsimp only [putV, List.set]) ?_
    refine wnil (Ok.cond (b := true) rfl (fun _ => ?_) (fun h => by cases h))
    exact go 10 rfl ⟨fun _ h => (by cases h), _, rfl, rfl⟩
  | cons f0 r =>
    have hN' : 0 < N := by rw [← hN]; simp
    have h0 : ((N : Int) == 0) = false := by simp; omega
    have hget0 : (rowsF (f0 :: r))[0]? = some (rowF f0) := rfl
    cases h47 : decide (f0.path = [47])
    · have := of_decide_eq_false h47
      rw [show validB checkR (f0 :: r) = 8 by unfold validB; rw [if_neg (by omega)]; simp [this]]
      refine Ok.seq (Ok.regionW (G := fun _ => true) (C := TabP _) mixed layOk noT TabP_calm (.inl rfl) ?_)
      refine wstepN rfl rfl (by dsimp only [putV, List.set]) ?_
      first
        | refine wstepN rfl (lenF hN rfl rfl) (by dsimp only [putV, List.set]) ?_
        | refine wstepN rfl (lenF hM rfl rfl) (by dsimp only [putV, List.set]) ?_
        | refine wstepN rfl (lenF (by assumption) rfl rfl) (by dsimp only [putV, List.set]) ?_
        | refine wstepN rfl rfl (by dsimp only [putV, List.set]) ?_
      first
        | refine wstepN rfl (eqlK (by assumption) rfl rfl) (by dsimp only [putV, List.set]) ?_
        | refine wstepN rfl rfl (by dsimp only [putV, List.set]) ?_
      refine wstepN rfl rfl (by dsimp only [putV, List.set]) ?_
      first
        | refine wskipN rfl (by dsimp only [putV, List.set]) ?_
        | refine wstepN rfl rfl (by dsimp only [putV, List.set]) ?_
      refine wstepN rfl (ev_ix (z := 0) rfl rfl rfl hget0 rfl) (by dsimp only [putV, List.set]) ?_
      first
        | refine wskipN rfl (by dsimp only [putV, List.set]) ?_
        | refine wstepN rfl rfl (by dsimp only [putV, List.set]) ?_
      first
        | refine wskipN rfl (by dsimp only [putV, List.set]) ?_
        | refine wstepN rfl (ldT rfl rfl) (by dsimp only [putV, List.set]) ?_
        | refine wstepN rfl (ldE rfl rfl) (by dsimp only [putV, List.set]) ?_
        | refine wstepN rfl rfl (by dsimp only [putV, List.set]) ?_
      first
        | refine wskipN rfl (by dsimp only [putV, List.set]) ?_
        | refine wstepN rfl (neqT (by assumption) rfl rfl) (by dsimp only [putV, List.set]) ?_
        | refine wstepN rfl rfl (by dsimp only [putV, List.set]) ?_
      refine wstepN rfl rfl (by dsimp only [putV, List.set]) ?_
      refine wnil (Ok.cond (b := true) rfl (fun _ => ?_) (fun h => by cases h))
      exact go 10 rfl ⟨fun _ h => (by cases h), _, rfl, rfl⟩
    · have := of_decide_eq_true h47
      rw [show validB checkR (f0 :: r) = firstE (checkR (f0 :: r)) 0 (f0 :: r) by unfold validB; rw [if_neg (by omega)]; simp [this]]
      refine Ok.seq (Ok.regionW (G := fun _ => true) (C := TabP _) mixed layOk noT TabP_calm (.inl rfl) ?_)
      refine wstepN rfl rfl (by dsimp only [putV, List.set]) ?_
      first
        | refine wstepN rfl (lenF hN rfl rfl) (by dsimp only [putV, List.set]) ?_
        | refine wstepN rfl (lenF hM rfl rfl) (by dsimp only [putV, List.set]) ?_
        | refine wstepN rfl (lenF (by assumption) rfl rfl) (by dsimp only [putV, List.set]) ?_
        | refine wstepN rfl rfl (by dsimp only [putV, List.set]) ?_
      first
        | refine wstepN rfl (eqlK (by assumption) rfl rfl) (by dsimp only [putV, List.set]) ?_
        | refine wstepN rfl rfl (by dsimp only [putV, List.set]) ?_
      refine wstepN rfl rfl (by dsimp only [putV, List.set]) ?_
      first
        | refine wskipN rfl (by dsimp only [putV, List.set]) ?_
        | refine wstepN rfl rfl (by dsimp only [putV, List.set]) ?_
      refine wstepN rfl (ev_ix (z := 0) rfl rfl rfl hget0 rfl) (by dsimp only [putV, List.set]) ?_
      first
        | refine wskipN rfl (by dsimp only [putV, List.set]) ?_
        | refine wstepN rfl rfl (by dsimp only [putV, List.set]) ?_
      first
        | refine wskipN rfl (by dsimp only [putV, List.set]) ?_
        | refine wstepN rfl (ldT rfl rfl) (by dsimp only [putV, List.set]) ?_
        | refine wstepN rfl (ldE rfl rfl) (by dsimp only [putV, List.set]) ?_
        | refine wstepN rfl rfl (by dsimp only [putV, List.set]) ?_
      first
        | refine wskipN rfl (by dsimp only [putV, List.set]) ?_
        | refine wstepN rfl (neqT (by assumption) rfl rfl) (by dsimp only [putV, List.set]) ?_
        | refine wstepN rfl rfl (by dsimp only [putV, List.set]) ?_
      refine wstepN rfl rfl (by dsimp only [putV, List.set]) ?_
      refine wnil (Ok.cond (b := false) rfl (fun h => by cases h) (fun _ => ?_))
      refine Ok.skip ?_
      clear hget0 h47 this h0
      generalize f0 :: r = l at *
      refine Ok.seq (Ok.seq (go 10 rfl ?_))
      refine Ok.gc (bs2 := []) [] [0, 3] (by kernel_rfl) (by decide) (floor_ok rfl) ?_
      refine Ok.count N (fun k ts bs => firstE (checkR l) 0 l = firstE (checkR l) k (l.drop k) ∧ k ≤ N ∧ bs = [] ∧ ts = ((List.replicate 78 V.gone).set 0 (.sl (rowsF l))).set 3 (iV (k : Int))) ?_ ?_
      · exact ⟨rfl, Nat.zero_le _, rfl, rfl⟩
      rintro i _ _ ⟨hfi, hk, rfl, rfl⟩
      simp only [List.replicate, List.set]
      refine Ok.seq (Ok.seq ?_)
      cases hlt : decide (i < N)
      · have hge := of_decide_eq_false hlt
        rw [List.drop_of_length_le (by omega), firstE] at hfi
        rw [hfi]
        refine Ok.regionW (G := fun _ => true) (C := TabP _) mixed layOk noT TabP_calm (.inl rfl) ?_
        refine wstepN rfl rfl (by dsimp only [putV, List.set]) ?_
        refine wstepN rfl rfl (by dsimp only [putV, List.set]) ?_
        first
          | refine wstepN rfl (lenF hN rfl rfl) (by dsimp only [putV, List.set]) ?_
          | refine wstepN rfl (lenF hM rfl rfl) (by dsimp only [putV, List.set]) ?_
          | refine wstepN rfl (lenF (by assumption) rfl rfl) (by dsimp only [putV, List.set]) ?_
          | refine wstepN rfl rfl (by dsimp only [putV, List.set]) ?_
        first
          | refine wstepN rfl (ltT hlt rfl rfl) (by dsimp only [putV, List.set]) ?_
          | refine wstepN rfl (ltT (by assumption) rfl rfl) (by dsimp only [putV, List.set]) ?_
          | refine wstepN rfl (lssK (by assumption) rfl rfl) (by dsimp only [putV, List.set]) ?_
          | refine wstepN rfl rfl (by dsimp only [putV, List.set]) ?_
        refine wnil (Ok.cond (b := false) rfl (fun h => by cases h) (fun _ => ?_))
        refine Ok.exit ?_
        exact go 10 rfl ⟨fun _ h => (by cases h), _, rfl, rfl⟩
      have hlt' : i < N := of_decide_eq_true hlt
      obtain ⟨f, hi⟩ : ∃ f, l[i]? = some f := ⟨_, List.getElem?_eq_getElem (by omega)⟩
      have hget := rowsF_at hi
      have hpl := hp f (List.mem_of_getElem? hi)
      have hT := P11_good (l.take i) f.path (by simp; omega) hpl
      have hU := P11_u (l.take i) f.path
      have hpa : P11 (l.take i) f.path 18 [T f.path] (bV (pathB f.path)) := .path
      have hpe : P11 (l.take i) f.path 33 [.sl (rowsF (l.take i)), T f.path] (iV (perrR (l.take i) f.path)) := .perr
      rw [firstE_drop hi] at hfi
      refine Ok.regionW (G := fun _ => true) (C := TabP _) mixed layOk noT TabP_calm (.inl rfl) ?_
      refine wstepN rfl rfl (by dsimp only [putV, List.set]) ?_
      refine wstepN rfl rfl (by dsimp only [putV, List.set]) ?_
      first
        | refine wstepN rfl (lenF hN rfl rfl) (by dsimp only [putV, List.set]) ?_
        | refine wstepN rfl (lenF hM rfl rfl) (by dsimp only [putV, List.set]) ?_
        | refine wstepN rfl (lenF (by assumption) rfl rfl) (by dsimp only [putV, List.set]) ?_
        | refine wstepN rfl rfl (by dsimp only [putV, List.set]) ?_
      first
        | refine wstepN rfl (ltT hlt rfl rfl) (by dsimp only [putV, List.set]) ?_
        | refine wstepN rfl (ltT (by assumption) rfl rfl) (by dsimp only [putV, List.set]) ?_
        | refine wstepN rfl (lssK (by assumption) rfl rfl) (by dsimp only [putV, List.set]) ?_
        | refine wstepN rfl rfl (by dsimp only [putV, List.set]) ?_
      refine wnil (Ok.cond (b := true) rfl (fun _ => ?_) (fun h => by cases h))
      refine Ok.skip ?_
      refine Ok.after (Ok.seq (Ok.block ?_))
      refine Ok.seq (Ok.regionW (G := fun _ => true) (C := TabP _) mixed layOk noT TabP_calm (.inl rfl) ?_)
      refine wstepN rfl rfl (by dsimp only [putV, List.set]) ?_
      refine wstepN rfl rfl (by dsimp only [putV, List.set]) ?_
      first
        | refine wstepN rfl (ev_ix rfl rfl rfl (by assumption) rfl) (by dsimp only [putV, List.set]) ?_
        | refine wstepN rfl rfl (by dsimp only [putV, List.set]) ?_
      first
        | refine wstepN rfl (ldF rfl rfl) (by dsimp only [putV, List.set]) ?_
        | refine wstepN rfl rfl (by dsimp only [putV, List.set]) ?_
      refine wstepN rfl rfl (by dsimp only [putV, List.set]) ?_
      refine wstepN rfl rfl (by dsimp only [putV, List.set]) ?_
      refine wnil ?_
      refine Ok.gcE (bs2 := [.cells [T f.path, bV f.dir, T f.data]]) (ts2 := (((List.replicate 78 V.gone).set 0 (.sl (rowsF l))).set 3 (iV (i : Int))).set 4 (.ptr 0 0)) [0] [0, 3, 4] (by kernel_rfl) (by decide) (floor_ok rfl) rfl ?_
      simp only [List.replicate, List.set]
      refine Ok.seq (Ok.seq ?_)
      refine Ok.regionW (G := fun _ => true) (C := TabP _) mixed layOk hT TabP_calm (.inl rfl) ?_
      refine wstepN rfl rfl (by dsimp only [putV, List.set]) ?_
      first
        | refine wstepN rfl (ldT rfl rfl) (by dsimp only [putV, List.set]) ?_
        | refine wstepN rfl (ldE rfl rfl) (by dsimp only [putV, List.set]) ?_
        | refine wstepN rfl rfl (by dsimp only [putV, List.set]) ?_
      first
        | refine wstepN rfl (hit18 (by first | assumption | omega)) (by dsimp only [putV, List.set]) ?_
        | refine wstepN rfl (T1_hit) (by dsimp only [putV, List.set]) ?_
        | refine wstepN rfl (TabP_use (by assumption) (by assumption)) (by dsimp only [putV, List.set]) ?_
        | refine wstepN rfl (TabP_hit (fun v' h => by cases h; rfl) (by assumption)) (by dsimp only [putV, List.set]) ?_
        | refine wstepN rfl (TabP_hit (fun v' h => by cases h; rfl) (by constructor)) (by dsimp only [putV, List.set]) ?_
        | refine wstepN rfl rfl (by dsimp only [putV, List.set]) ?_
      refine wstepN rfl rfl (by dsimp only [putV, List.set]) ?_
      cases h1 : pathB f.path
      · refine wnil (Ok.cond (b := true) rfl (fun _ => ?_) (fun h => by cases h))
        have hc : checkR l i f = 10 := by
          have : baseF (prevF l i) f = 10 := by rw [baseF, if_pos h1]
          rw [checkR, this]; rfl
        rw [hc, if_pos (by simp)] at hfi
        rw [hfi]
        refine Ok.seq (Ok.regionW (G := fun _ => true) (C := TabP _) mixed layOk noT TabP_calm (.inl rfl) ?_)
        refine wstepN rfl rfl (by dsimp only [putV, List.set]) ?_
        refine wnil (Ok.ret ?_)
        exact ⟨[], [2], [], by kernel_rfl, by decide, floor_ok rfl, fun _ h => (by cases h), _, rfl, rfl⟩
      refine wnil (Ok.cond (b := false) rfl (fun h => by cases h) (fun _ => ?_))
      refine Ok.skip ?_
      obtain ⟨b1, hb1⟩ : ∃ b1, ((f.dir && !decide (f.data = [])) || (decide (f.path = [47]) && !f.dir)) = b1 := ⟨_, rfl⟩
      refine Ok.seq (Ok.seq (Ok.mono (Q := fun e ts bs => e = .normal ∧ bs = [.cells [T f.path, bV f.dir, T f.data]] ∧ ts = ((((List.replicate 78 V.gone).set 0 (.sl (rowsF l))).set 3 (iV (i : Int))).set 4 (.ptr 0 0)).set 49 (bV b1)) (Ok.after ?_) ?_))
      · subst hb1
        cases hd : f.dir <;> cases hx : decide (f.data = []) <;> cases hr : decide (f.path = [47])
        all_goals
          refine Ok.regionW (G := fun _ => true) (C := TabP _) mixed layOk noT TabP_calm (.inl rfl) ?_
          refine wstepN rfl rfl (by dsimp only [putV, List.set]) ?_
          refine wstepN rfl rfl (by dsimp only [putV, List.set]) ?_
          refine wstepN rfl rfl (by dsimp only [putV, List.set]) ?_
          first
            | refine wskipN rfl (by dsimp only [putV, List.set]) ?_
            | refine wstepN rfl rfl (by dsimp only [putV, List.set]) ?_
          first
            | refine wskipN rfl (by dsimp only [putV, List.set]) ?_
            | refine wstepN rfl (ldT rfl rfl) (by dsimp only [putV, List.set]) ?_
            | refine wstepN rfl (ldE rfl rfl) (by dsimp only [putV, List.set]) ?_
            | refine wstepN rfl rfl (by dsimp only [putV, List.set]) ?_
          first
            | refine wskipN rfl (by dsimp only [putV, List.set]) ?_
            | refine wstepN rfl (neqT (by assumption) rfl rfl) (by dsimp only [putV, List.set]) ?_
            | refine wstepN rfl rfl (by dsimp only [putV, List.set]) ?_
          refine wstepN rfl rfl (by dsimp only [putV, List.set]) ?_
          refine wstepN rfl rfl (by dsimp only [putV, List.set]) ?_
          first
            | refine wskipN rfl (by dsimp only [putV, List.set]) ?_
            | refine wstepN rfl rfl (by dsimp only [putV, List.set]) ?_
          first
            | refine wskipN rfl (by dsimp only [putV, List.set]) ?_
            | refine wstepN rfl (ldT rfl rfl) (by dsimp only [putV, List.set]) ?_
            | refine wstepN rfl (ldE rfl rfl) (by dsimp only [putV, List.set]) ?_
            | refine wstepN rfl rfl (by dsimp only [putV, List.set]) ?_
          first
            | refine wskipN rfl (by dsimp only [putV, List.set]) ?_
            | refine wstepN rfl (eqT (by assumption) rfl rfl) (by dsimp only [putV, List.set]) ?_
            | refine wstepN rfl rfl (by dsimp only [putV, List.set]) ?_
          first
            | refine wskipN rfl (by dsimp only [putV, List.set]) ?_
            | refine wstepN rfl rfl (by dsimp only [putV, List.set]) ?_
          first
            | refine wskipN rfl (by dsimp only [putV, List.set]) ?_
            | refine wstepN rfl rfl (by dsimp only [putV, List.set]) ?_
          first
            | refine wskipN rfl (by dsimp only [putV, List.set]) ?_
            | refine wstepN rfl rfl (by dsimp only [putV, List.set]) ?_
          first
            | refine wskipN rfl (by dsimp only [putV, List.set]) ?_
            | refine wstepN rfl rfl (by dsimp only [putV, List.set]) ?_
          first
            | refine wskipN rfl (by dsimp only [putV, List.set]) ?_
            | refine wstepN rfl rfl (by dsimp only [putV, List.set]) ?_
          refine wstepN rfl rfl (by dsimp only [putV, List.set]) ?_
          exact wnil ⟨[0], [0, 3, 4, 49], _, rfl, by decide, floor_ok rfl, rfl, rfl, rfl⟩
      rintro _ _ _ ⟨rfl, rfl, rfl⟩
      simp only [List.replicate, List.set]
      cases b1
      case true =>
        refine Ok.cond (b := true) rfl (fun _ => ?_) (fun h => by cases h)
        have hc : checkR l i f = 1 := by
          have : baseF (prevF l i) f = 1 := by rw [baseF, if_neg (by rw [h1]; simp), if_pos hb1]
          rw [checkR, this]; rfl
        rw [hc, if_pos (by simp)] at hfi
        rw [hfi]
        refine Ok.seq (Ok.regionW (G := fun _ => true) (C := TabP _) mixed layOk noT TabP_calm (.inl rfl) ?_)
        refine wstepN rfl rfl (by dsimp only [putV, List.set]) ?_
        refine wnil (Ok.ret ?_)
        exact ⟨[], [2], [], by kernel_rfl, by decide, floor_ok rfl, fun _ h => (by cases h), _, rfl, rfl⟩
      refine Ok.cond (b := false) rfl (fun h => by cases h) (fun _ => Ok.skip ?_)
      refine Ok.seq (Ok.seq ?_)
      cases h8192 : decide ((f.data.length : Int) > 8192)
      case true =>
        have h3 := of_decide_eq_true h8192
        refine Ok.regionW (G := fun _ => true) (C := TabP _) mixed layOk noT TabP_calm (.inl rfl) ?_
        refine wstepN rfl rfl (by dsimp only [putV, List.set]) ?_
        first
          | refine wstepN rfl (ldT rfl rfl) (by dsimp only [putV, List.set]) ?_
          | refine wstepN rfl (ldE rfl rfl) (by dsimp only [putV, List.set]) ?_
          | refine wstepN rfl rfl (by dsimp only [putV, List.set]) ?_
        first
          | refine wstepN rfl (lenT rfl rfl) (by dsimp only [putV, List.set]) ?_
          | refine wstepN rfl rfl (by dsimp only [putV, List.set]) ?_
        first
          | refine wstepN rfl (gtrK h8192 rfl rfl) (by dsimp only [putV, List.set]) ?_
          | refine wstepN rfl (gtrK (by assumption) rfl rfl) (by dsimp only [putV, List.set]) ?_
          | refine wstepN rfl rfl (by dsimp only [putV, List.set]) ?_
        refine wnil (Ok.cond (b := true) rfl (fun _ => ?_) (fun h => by cases h))
        have hc : checkR l i f = 3 := by
          have : baseF (prevF l i) f = 3 := by rw [baseF, if_neg (by rw [h1]; simp), if_neg (by rw [hb1]; simp), if_pos (by omega)]
          rw [checkR, this]; rfl
        rw [hc, if_pos (by simp)] at hfi
        rw [hfi]
        refine Ok.seq (Ok.regionW (G := fun _ => true) (C := TabP _) mixed layOk noT TabP_calm (.inl rfl) ?_)
        refine wstepN rfl rfl (by dsimp only [putV, List.set]) ?_
        refine wnil (Ok.ret ?_)
        exact ⟨[], [2], [], by kernel_rfl, by decide, floor_ok rfl, fun _ h => (by cases h), _, rfl, rfl⟩
      have h3 := of_decide_eq_false h8192
      refine Ok.regionW (G := fun _ => true) (C := TabP _) mixed layOk noT TabP_calm (.inl rfl) ?_
      refine wstepN rfl rfl (by dsimp only [putV, List.set]) ?_
      first
        | refine wstepN rfl (ldT rfl rfl) (by dsimp only [putV, List.set]) ?_
        | refine wstepN rfl (ldE rfl rfl) (by dsimp only [putV, List.set]) ?_
        | refine wstepN rfl rfl (by dsimp only [putV, List.set]) ?_
      first
        | refine wstepN rfl (lenT rfl rfl) (by dsimp only [putV, List.set]) ?_
        | refine wstepN rfl rfl (by dsimp only [putV, List.set]) ?_
      first
        | refine wstepN rfl (gtrK h8192 rfl rfl) (by dsimp only [putV, List.set]) ?_
        | refine wstepN rfl (gtrK (by assumption) rfl rfl) (by dsimp only [putV, List.set]) ?_
        | refine wstepN rfl rfl (by dsimp only [putV, List.set]) ?_
      refine wnil (Ok.cond (b := false) rfl (fun h => by cases h) (fun _ => ?_))
      refine Ok.skip ?_
      refine Ok.gcE (bs2 := [.cells [T f.path, bV f.dir, T f.data]]) (ts2 := (((List.replicate 78 V.gone).set 0 (.sl (rowsF l))).set 3 (iV (i : Int))).set 4 (.ptr 0 0)) [0] [0, 3, 4] (by kernel_rfl) (by decide) (floor_ok rfl) rfl ?_
      simp only [List.replicate, List.set]
      obtain ⟨b3, hb3⟩ : ∃ b3, afterB (prevF l i) f = b3 := ⟨_, rfl⟩
      refine Ok.seq (Ok.seq (Ok.mono (Q := fun e ts bs => e = .normal ∧ bs = [.cells [T f.path, bV f.dir, T f.data]] ∧ ts = ((((List.replicate 78 V.gone).set 0 (.sl (rowsF l))).set 3 (iV (i : Int))).set 4 (.ptr 0 0)).set 66 (bV b3)) (Ok.after ?_) ?_))
      · cases i with
        | zero =>
          have hq : decide (((0 : Nat) : Int) > 0) = false := rfl
          have : b3 = false := by rw [← hb3]; rfl
          subst this
          refine Ok.regionW (G := fun _ => true) (C := TabP _) mixed layOk noT TabP_calm (.inr ⟨by kernel_rfl, by kernel_rfl⟩) ?_
          refine wstepN rfl rfl (by dsimp only [putV, List.set]) ?_
          first
            | refine wstepN rfl (gtrK h0 rfl rfl) (by dsimp only [putV, List.set]) ?_
            | refine wstepN rfl (gtrK (by assumption) rfl rfl) (by dsimp only [putV, List.set]) ?_
            | refine wstepN rfl rfl (by dsimp only [putV, List.set]) ?_
          refine wstepN rfl rfl (by dsimp only [putV, List.set]) ?_
          first
            | refine wskipN rfl (by dsimp only [putV, List.set]) ?_
            | refine wstepN rfl rfl (by dsimp only [putV, List.set]) ?_
          first
            | refine wskipN rfl (by dsimp only [putV, List.set]) ?_
            | refine wstepN rfl (ldT rfl rfl) (by dsimp only [putV, List.set]) ?_
            | refine wstepN rfl (ldE rfl rfl) (by dsimp only [putV, List.set]) ?_
            | refine wstepN rfl rfl (by dsimp only [putV, List.set]) ?_
          first
            | refine wskipN rfl (by dsimp only [putV, List.set]) ?_
            | refine wstepN rfl rfl (by dsimp only [putV, List.set]) ?_
          first
            | refine wskipN rfl (by dsimp only [putV, List.set]) ?_
            | refine wstepN rfl rfl (by dsimp only [putV, List.set]) ?_
          first
            | refine wskipN rfl (by dsimp only [putV, List.set]) ?_
            | refine wstepN rfl (subK (by assumption) rfl rfl) (by dsimp only [putV, List.set]) ?_
            | refine wstepN rfl rfl (by dsimp only [putV, List.set]) ?_
          first
            | refine wskipN rfl (by dsimp only [putV, List.set]) ?_
            | refine wstepN rfl (ev_ix rfl rfl rfl (by assumption) rfl) (by dsimp only [putV, List.set]) ?_
            | refine wstepN rfl rfl (by dsimp only [putV, List.set]) ?_
          first
            | refine wskipN rfl (by dsimp only [putV, List.set]) ?_
            | refine wstepN rfl rfl (by dsimp only [putV, List.set]) ?_
          first
            | refine wskipN rfl (by dsimp only [putV, List.set]) ?_
            | refine wstepN rfl (ldT rfl rfl) (by dsimp only [putV, List.set]) ?_
            | refine wstepN rfl (ldE rfl rfl) (by dsimp only [putV, List.set]) ?_
            | refine wstepN rfl rfl (by dsimp only [putV, List.set]) ?_
          first
            | refine wskipN rfl (by dsimp only [putV, List.set]) ?_
            | refine wstepN rfl (leT (by assumption) rfl rfl) (by dsimp only [putV, List.set]) ?_
            | refine wstepN rfl rfl (by dsimp only [putV, List.set]) ?_
          refine wstepN rfl rfl (by dsimp only [putV, List.set]) ?_
          exact wnil ⟨[0], [0, 3, 4, 66], _, rfl, by decide, floor_ok rfl, rfl, rfl, rfl⟩
        | succ j =>
          obtain ⟨g, hg⟩ : ∃ g, l[j]? = some g := ⟨_, List.getElem?_eq_getElem (by omega)⟩
          have hgetg := rowsF_at hg
          have hq : decide (((j + 1 : Nat) : Int) > 0) = true := decide_eq_true (by omega)
          have hsub : IntKind.i64.wrap (((j + 1 : Nat) : Int) - 1) = ((j : Nat) : Int) := by rw [wrap64 (by omega) (by omega)]; omega
          have hle : leB f.path g.path = b3 := by
            rw [← hb3, prevF, if_neg (by omega), Nat.add_sub_cancel, hg]
            rfl
          refine Ok.regionW (G := fun _ => true) (C := TabP _) mixed layOk noT TabP_calm (.inr ⟨by kernel_rfl, by kernel_rfl⟩) ?_
          refine wstepN rfl rfl (by dsimp only [putV, List.set]) ?_
          first
            | refine wstepN rfl (gtrK h0 rfl rfl) (by dsimp only [putV, List.set]) ?_
            | refine wstepN rfl (gtrK (by assumption) rfl rfl) (by dsimp only [putV, List.set]) ?_
            | refine wstepN rfl rfl (by dsimp only [putV, List.set]) ?_
          refine wstepN rfl rfl (by dsimp only [putV, List.set]) ?_
          first
            | refine wskipN rfl (by dsimp only [putV, List.set]) ?_
            | refine wstepN rfl rfl (by dsimp only [putV, List.set]) ?_
          first
            | refine wskipN rfl (by dsimp only [putV, List.set]) ?_
            | refine wstepN rfl (ldT rfl rfl) (by dsimp only [putV, List.set]) ?_
            | refine wstepN rfl (ldE rfl rfl) (by dsimp only [putV, List.set]) ?_
            | refine wstepN rfl rfl (by dsimp only [putV, List.set]) ?_
          first
            | refine wskipN rfl (by dsimp only [putV, List.set]) ?_
            | refine wstepN rfl rfl (by dsimp only [putV, List.set]) ?_
          first
            | refine wskipN rfl (by dsimp only [putV, List.set]) ?_
            | refine wstepN rfl rfl (by dsimp only [putV, List.set]) ?_
          first
            | refine wskipN rfl (by dsimp only [putV, List.set]) ?_
            | refine wstepN rfl (subK (by assumption) rfl rfl) (by dsimp only [putV, List.set]) ?_
            | refine wstepN rfl rfl (by dsimp only [putV, List.set]) ?_
          first
            | refine wskipN rfl (by dsimp only [putV, List.set]) ?_
            | refine wstepN rfl (ev_ix rfl rfl rfl (by assumption) rfl) (by dsimp only [putV, List.set]) ?_
            | refine wstepN rfl rfl (by dsimp only [putV, List.set]) ?_
          first
            | refine wskipN rfl (by dsimp only [putV, List.set]) ?_
            | refine wstepN rfl rfl (by dsimp only [putV, List.set]) ?_
          first
            | refine wskipN rfl (by dsimp only [putV, List.set]) ?_
            | refine wstepN rfl (ldT rfl rfl) (by dsimp only [putV, List.set]) ?_
            | refine wstepN rfl (ldE rfl rfl) (by dsimp only [putV, List.set]) ?_
            | refine wstepN rfl rfl (by dsimp only [putV, List.set]) ?_
          first
            | refine wskipN rfl (by dsimp only [putV, List.set]) ?_
            | refine wstepN rfl (leT (by assumption) rfl rfl) (by dsimp only [putV, List.set]) ?_
            | refine wstepN rfl rfl (by dsimp only [putV, List.set]) ?_
          refine wstepN rfl rfl (by dsimp only [putV, List.set]) ?_
          exact wnil ⟨[0], [0, 3, 4, 66], _, rfl, by decide, floor_ok rfl, rfl, rfl, rfl⟩
      rintro _ _ _ ⟨rfl, rfl, rfl⟩
      simp only [List.replicate, List.set]
      cases b3
      case true =>
        refine Ok.cond (b := true) rfl (fun _ => ?_) (fun h => by cases h)
        have hc : checkR l i f = 25 := by
          have : baseF (prevF l i) f = 25 := by rw [baseF, if_neg (by rw [h1]; simp), if_neg (by rw [hb1]; simp), if_neg (by omega), if_pos hb3]
          rw [checkR, this]; rfl
        rw [hc, if_pos (by simp)] at hfi
        rw [hfi]
        refine Ok.seq (Ok.regionW (G := fun _ => true) (C := TabP _) mixed layOk noT TabP_calm (.inl rfl) ?_)
        refine wstepN rfl rfl (by dsimp only [putV, List.set]) ?_
        refine wnil (Ok.ret ?_)
        exact ⟨[], [2], [], by kernel_rfl, by decide, floor_ok rfl, fun _ h => (by cases h), _, rfl, rfl⟩
      refine Ok.cond (b := false) rfl (fun h => by cases h) (fun _ => Ok.skip ?_)
      have hb0 : baseF (prevF l i) f = 0 := by rw [baseF, if_neg (by rw [h1]; simp), if_neg (by rw [hb1]; simp), if_neg (by omega), if_neg (by rw [hb3]; simp)]
      refine Ok.seq ?_
      by_cases hi0 : i = 0
      · have hq : decide ((i : Int) > 0) = false := decide_eq_false (by omega)
        have hc : checkR l i f = 0 := by rw [checkR, hb0, if_neg (by simp), if_pos hi0]
        rw [hc, if_neg (by simp)] at hfi
        refine Ok.regionW (G := fun _ => true) (C := TabP _) mixed layOk noT TabP_calm (.inl rfl) ?_
        refine wstepN rfl rfl (by dsimp only [putV, List.set]) ?_
        first
          | refine wstepN rfl (gtrK h0 rfl rfl) (by dsimp only [putV, List.set]) ?_
          | refine wstepN rfl (gtrK (by assumption) rfl rfl) (by dsimp only [putV, List.set]) ?_
          | refine wstepN rfl rfl (by dsimp only [putV, List.set]) ?_
        refine wnil (Ok.cond (b := false) rfl (fun h => by cases h) (fun _ => ?_))
        refine Ok.skip ?_
        refine Ok.regionW (G := fun _ => true) (C := TabP _) mixed layOk noT TabP_calm (.inl rfl) ?_
        refine wstepN rfl rfl (by dsimp only [putV, List.set]) ?_
        first
          | refine wstepN rfl (incT (by omega) rfl rfl) (by dsimp only [putV, List.set]) ?_
          | refine wstepN rfl (addK (by assumption) rfl rfl) (by dsimp only [putV, List.set]) ?_
          | refine wstepN rfl rfl (by dsimp only [putV, List.set]) ?_
        refine wstepN rfl rfl (by dsimp only [putV, List.set]) ?_
        exact wnil ⟨[], [0, 3], [], by kernel_rfl, by decide, floor_ok rfl, hlt', hfi, hlt', rfl, rfl⟩
      · have hq : decide ((i : Int) > 0) = true := decide_eq_true (by omega)
        have hc : checkR l i f = perrR (l.take i) f.path := by rw [checkR, hb0, if_neg (by simp), if_neg hi0]
        rw [hc] at hfi
        refine Ok.regionW (G := fun _ => true) (C := TabP _) mixed layOk noT TabP_calm (.inl rfl) ?_
        refine wstepN rfl rfl (by dsimp only [putV, List.set]) ?_
        first
          | refine wstepN rfl (gtrK h0 rfl rfl) (by dsimp only [putV, List.set]) ?_
          | refine wstepN rfl (gtrK (by assumption) rfl rfl) (by dsimp only [putV, List.set]) ?_
          | refine wstepN rfl rfl (by dsimp only [putV, List.set]) ?_
        refine wnil (Ok.cond (b := true) rfl (fun _ => ?_) (fun h => by cases h))
        refine Ok.gcE (bs2 := [.cells [T f.path, bV f.dir, T f.data]]) (ts2 := (((List.replicate 78 V.gone).set 0 (.sl (rowsF l))).set 3 (iV (i : Int))).set 4 (.ptr 0 0)) [0] [0, 3, 4] (by kernel_rfl) (by decide) (floor_ok rfl) rfl ?_
        simp only [List.replicate, List.set]
        generalize perrR (l.take i) f.path = e at hpe hfi
        refine Ok.seq (Ok.regionW (G := fun _ => true) (C := TabP _) mixed layOk hT TabP_calm (.inr ⟨by kernel_rfl, by kernel_rfl⟩) ?_)
        refine wstepN rfl rfl (by dsimp only [putV, List.set]) ?_
        refine wstepN rfl rfl (by dsimp only [putV, List.set]) ?_
        refine wstepN rfl (cutF (b := i) (by omega) rfl rfl rfl) (by dsimp only [putV, List.set]) ?_
        refine wstepN rfl rfl (by dsimp only [putV, List.set]) ?_
        first
          | refine wstepN rfl (ldT rfl rfl) (by dsimp only [putV, List.set]) ?_
          | refine wstepN rfl (ldE rfl rfl) (by dsimp only [putV, List.set]) ?_
          | refine wstepN rfl rfl (by dsimp only [putV, List.set]) ?_
        first
          | refine wstepN rfl (hit33 (by first | assumption | omega)) (by dsimp only [putV, List.set]) ?_
          | refine wstepN rfl (T1_hit) (by dsimp only [putV, List.set]) ?_
          | refine wstepN rfl (TabP_use (by assumption) (by assumption)) (by dsimp only [putV, List.set]) ?_
          | refine wstepN rfl (TabP_hit (fun v' h => by cases h; rfl) (by assumption)) (by dsimp only [putV, List.set]) ?_
          | refine wstepN rfl (TabP_hit (fun v' h => by cases h; rfl) (by constructor)) (by dsimp only [putV, List.set]) ?_
          | refine wstepN rfl rfl (by dsimp only [putV, List.set]) ?_
        refine wstepN rfl rfl (by dsimp only [putV, List.set]) ?_
        refine wnil ?_
        refine Ok.seq ?_
        by_cases he : e = 0
        · have hq2 : (e != 0) = false := by simpa using he
          rw [if_neg (by simpa using he)] at hfi
          refine Ok.regionW (G := fun _ => true) (C := TabP _) mixed layOk noT TabP_calm (.inl rfl) ?_
          refine wstepN rfl rfl (by dsimp only [putV, List.set]) ?_
          first
            | refine wstepN rfl (neqK (by assumption) rfl rfl) (by dsimp only [putV, List.set]) ?_
            | refine wstepN rfl rfl (by dsimp only [putV, List.set]) ?_
          refine wnil (Ok.cond (b := false) rfl (fun h => by cases h) (fun _ => ?_))
          refine Ok.skip ?_
          refine Ok.regionW (G := fun _ => true) (C := TabP _) mixed layOk noT TabP_calm (.inl rfl) ?_
          refine wstepN rfl rfl (by dsimp only [putV, List.set]) ?_
          first
            | refine wstepN rfl (incT (by omega) rfl rfl) (by dsimp only [putV, List.set]) ?_
            | refine wstepN rfl (addK (by assumption) rfl rfl) (by dsimp only [putV, List.set]) ?_
            | refine wstepN rfl rfl (by dsimp only [putV, List.set]) ?_
          refine wstepN rfl rfl (by dsimp only [putV, List.set]) ?_
          exact wnil ⟨[], [0, 3], [], by kernel_rfl, by decide, floor_ok rfl, hlt', hfi, hlt', rfl, rfl⟩
        · have hq2 : (e != 0) = true := by simpa using he
          rw [if_pos he] at hfi
          rw [hfi]
          refine Ok.regionW (G := fun _ => true) (C := TabP _) mixed layOk noT TabP_calm (.inl rfl) ?_
          refine wstepN rfl rfl (by dsimp only [putV, List.set]) ?_
          first
            | refine wstepN rfl (neqK (by assumption) rfl rfl) (by dsimp only [putV, List.set]) ?_
            | refine wstepN rfl rfl (by dsimp only [putV, List.set]) ?_
          refine wnil (Ok.cond (b := true) rfl (fun _ => ?_) (fun h => by cases h))
          refine Ok.seq (Ok.regionW (G := fun _ => true) (C := TabP _) mixed layOk noT TabP_calm (.inl rfl) ?_)
          refine wstepN rfl rfl (by dsimp only [putV, List.set]) ?_
          refine wstepN rfl rfl (by dsimp only [putV, List.set]) ?_
          refine wnil (Ok.ret ?_)
          exact ⟨[], [2], [], by kernel_rfl, by decide, floor_ok rfl, fun _ h => (by cases h), _, rfl, rfl⟩

inductive P3 (l : List Fl) : FuncId → List V → V → Prop
  | small : P3 l 8 [.sl (rowsF l)] (bV (smallB l))
  | vp (h : l.length ≤ 100000) (hp : ∀ f ∈ l, f.path.length ≤ 10000) : P3 l 10 [.sl (rowsF l)] (iV (validB checkP l))
  | vr (h : l.length ≤ 100000) (hp : ∀ f ∈ l, f.path.length ≤ 10000) : P3 l 11 [.sl (rowsF l)] (iV (validB checkP l))
  | new : P3 l 13 [] (.sl (rowsF [rootF]))
  | rnew : P3 l 14 [] (.sl (rowsF [rootF]))
  | same : P3 l 12 [.sl (rowsF [rootF]), .sl (rowsF [rootF])] (bV true)
  | ex : P3 l 9 [] (bV true)
theorem P3_u (l : List Fl) : Uniq (P3 l) := fun f vs v v' h h' => by cases h <;> cases h' <;> rfl
theorem P3_good (l : List Fl) : Good Tryd.prog (TabP (P3 l)) := TabP_good fun f vs v h => by
  cases h with
  | small => exact ⟨small8 l, rfl, rfl, Tryd.call8⟩
  | vp h hp => exact ⟨valid10 l h hp, rfl, rfl, Tryd.call10⟩
  | vr h hp => exact ⟨valid_same l ▸ rvalid11 l h hp, rfl, rfl, Tryd.call11⟩
  | new => exact ⟨new13, rfl, rfl, Tryd.call13⟩
  | rnew => exact ⟨rnew14, rfl, rfl, Tryd.call14⟩
  | same => exact ⟨same12 [rootF] [rootF] (by simp) (by simp), rfl, rfl, Tryd.call12⟩
  | ex => exact ⟨awake9, rfl, rfl, Tryd.call9⟩

theorem law3 (l : List Fl) : FnOk Tryd.prog 3 [.sl (rowsF l)] [] (fun r _ => r = .val (.bool true)) := by
  refine FnOk.of layOk Tryd.func3 rfl ?_
  have hT := P3_good l
  have hU := P3_u l
  have hex : P3 l 9 [] (bV true) := .ex
  have hsm : P3 l 8 [.sl (rowsF l)] (bV (smallB l)) := .small
  refine Ok.seq (go 10 rfl ?_)
  refine Ok.seq ?_
  cases hs : smallB l
  · rw [hs] at hsm
    refine Ok.seq (Ok.regionW (G := fun _ => true) (C := TabP _) mixed layOk hT TabP_calm (.inl rfl) ?_)
    refine wstepN rfl rfl (by dsimp only [putV, List.set]) ?_
    first
      | refine wstepN rfl (hit8 (by first | assumption | omega)) (by dsimp only [putV, List.set]) ?_
      | refine wstepN rfl (T1_hit) (by dsimp only [putV, List.set]) ?_
      | refine wstepN rfl (TabP_use (by assumption) (by assumption)) (by dsimp only [putV, List.set]) ?_
      | refine wstepN rfl (TabP_hit (fun v' h => by cases h; rfl) (by assumption)) (by dsimp only [putV, List.set]) ?_
      | refine wstepN rfl (TabP_hit (fun v' h => by cases h; rfl) (by constructor)) (by dsimp only [putV, List.set]) ?_
      | refine wstepN rfl rfl (by dsimp only [putV, List.set]) ?_
    refine wstepN rfl rfl (by dsimp only [putV, List.set]) ?_
    refine wnil (Ok.cond (b := true) rfl (fun _ => ?_) (fun h => by cases h))
    refine Ok.seq (Ok.regionW (G := fun _ => true) (C := TabP _) mixed layOk hT TabP_calm (.inl rfl) ?_)
    first
      | refine wstepN rfl (hit9 (by first | assumption | omega)) (by dsimp only [putV, List.set]) ?_
      | refine wstepN rfl (T1_hit) (by dsimp only [putV, List.set]) ?_
      | refine wstepN rfl (TabP_use (by assumption) (by assumption)) (by dsimp only [putV, List.set]) ?_
      | refine wstepN rfl (TabP_hit (fun v' h => by cases h; rfl) (by assumption)) (by dsimp only [putV, List.set]) ?_
      | refine wstepN rfl (TabP_hit (fun v' h => by cases h; rfl) (by constructor)) (by dsimp only [putV, List.set]) ?_
      | refine wstepN rfl rfl (by dsimp only [putV, List.set]) ?_
    refine wstepN rfl rfl (by dsimp only [putV, List.set]) ?_
    refine wnil (Ok.ret ⟨fun _ h => (by cases h), _, rfl, rfl⟩)
  · rw [hs] at hsm
    obtain ⟨h1, h2⟩ := small_is hs
    have hp : ∀ f ∈ l, f.path.length ≤ 10000 := fun f hf => by have := h2 f hf; omega
    have hvp := P3.vp (by omega) hp
    have hvr := P3.vr (by omega) hp
    have hnew : P3 l 13 [] (.sl (rowsF [rootF])) := .new
    have hrnew : P3 l 14 [] (.sl (rowsF [rootF])) := .rnew
    have hsame : P3 l 12 [.sl (rowsF [rootF]), .sl (rowsF [rootF])] (bV true) := .same
    generalize validB checkP l = e at hvp hvr
    have hq : (e == e) = true := by simp
    refine Ok.seq (Ok.regionW (G := fun _ => true) (C := TabP _) mixed layOk hT TabP_calm (.inl rfl) ?_)
    refine wstepN rfl rfl (by dsimp only [putV, List.set]) ?_
    first
      | refine wstepN rfl (hit8 (by first | assumption | omega)) (by dsimp only [putV, List.set]) ?_
      | refine wstepN rfl (T1_hit) (by dsimp only [putV, List.set]) ?_
      | refine wstepN rfl (TabP_use (by assumption) (by assumption)) (by dsimp only [putV, List.set]) ?_
      | refine wstepN rfl (TabP_hit (fun v' h => by cases h; rfl) (by assumption)) (by dsimp only [putV, List.set]) ?_
      | refine wstepN rfl (TabP_hit (fun v' h => by cases h; rfl) (by constructor)) (by dsimp only [putV, List.set]) ?_
      | refine wstepN rfl rfl (by dsimp only [putV, List.set]) ?_
    refine wstepN rfl rfl (by dsimp only [putV, List.set]) ?_
    refine wnil (Ok.cond (b := false) rfl (fun h => by cases h) (fun _ => ?_))
    refine Ok.skip ?_
    refine Ok.seq (Ok.regionW (G := fun _ => true) (C := TabP _) mixed layOk hT TabP_calm (.inl rfl) ?_)
    refine wstepN rfl rfl (by dsimp only [putV, List.set]) ?_
    first
      | refine wstepN rfl (hit10 (by first | assumption | omega)) (by dsimp only [putV, List.set]) ?_
      | refine wstepN rfl (T1_hit) (by dsimp only [putV, List.set]) ?_
      | refine wstepN rfl (TabP_use (by assumption) (by assumption)) (by dsimp only [putV, List.set]) ?_
      | refine wstepN rfl (TabP_hit (fun v' h => by cases h; rfl) (by assumption)) (by dsimp only [putV, List.set]) ?_
      | refine wstepN rfl (TabP_hit (fun v' h => by cases h; rfl) (by constructor)) (by dsimp only [putV, List.set]) ?_
      | refine wstepN rfl rfl (by dsimp only [putV, List.set]) ?_
    refine wstepN rfl rfl (by dsimp only [putV, List.set]) ?_
    first
      | refine wstepN rfl (hit11 (by first | assumption | omega)) (by dsimp only [putV, List.set]) ?_
      | refine wstepN rfl (T1_hit) (by dsimp only [putV, List.set]) ?_
      | refine wstepN rfl (TabP_use (by assumption) (by assumption)) (by dsimp only [putV, List.set]) ?_
      | refine wstepN rfl (TabP_hit (fun v' h => by cases h; rfl) (by assumption)) (by dsimp only [putV, List.set]) ?_
      | refine wstepN rfl (TabP_hit (fun v' h => by cases h; rfl) (by constructor)) (by dsimp only [putV, List.set]) ?_
      | refine wstepN rfl rfl (by dsimp only [putV, List.set]) ?_
    first
      | refine wstepN rfl (eqlK (by assumption) rfl rfl) (by dsimp only [putV, List.set]) ?_
      | refine wstepN rfl rfl (by dsimp only [putV, List.set]) ?_
    refine wstepN rfl rfl (by dsimp only [putV, List.set]) ?_
    first
      | refine wskipN rfl (by dsimp only [putV, List.set]) ?_
      | refine wstepN rfl (hit13 (by first | assumption | omega)) (by dsimp only [putV, List.set]) ?_
      | refine wstepN rfl (T1_hit) (by dsimp only [putV, List.set]) ?_
      | refine wstepN rfl (TabP_use (by assumption) (by assumption)) (by dsimp only [putV, List.set]) ?_
      | refine wstepN rfl (TabP_hit (fun v' h => by cases h; rfl) (by assumption)) (by dsimp only [putV, List.set]) ?_
      | refine wstepN rfl (TabP_hit (fun v' h => by cases h; rfl) (by constructor)) (by dsimp only [putV, List.set]) ?_
      | refine wstepN rfl rfl (by dsimp only [putV, List.set]) ?_
    first
      | refine wskipN rfl (by dsimp only [putV, List.set]) ?_
      | refine wstepN rfl (hit14 (by first | assumption | omega)) (by dsimp only [putV, List.set]) ?_
      | refine wstepN rfl (T1_hit) (by dsimp only [putV, List.set]) ?_
      | refine wstepN rfl (TabP_use (by assumption) (by assumption)) (by dsimp only [putV, List.set]) ?_
      | refine wstepN rfl (TabP_hit (fun v' h => by cases h; rfl) (by assumption)) (by dsimp only [putV, List.set]) ?_
      | refine wstepN rfl (TabP_hit (fun v' h => by cases h; rfl) (by constructor)) (by dsimp only [putV, List.set]) ?_
      | refine wstepN rfl rfl (by dsimp only [putV, List.set]) ?_
    first
      | refine wskipN rfl (by dsimp only [putV, List.set]) ?_
      | refine wstepN rfl (hit12 (by first | assumption | omega)) (by dsimp only [putV, List.set]) ?_
      | refine wstepN rfl (T1_hit) (by dsimp only [putV, List.set]) ?_
      | refine wstepN rfl (TabP_use (by assumption) (by assumption)) (by dsimp only [putV, List.set]) ?_
      | refine wstepN rfl (TabP_hit (fun v' h => by cases h; rfl) (by assumption)) (by dsimp only [putV, List.set]) ?_
      | refine wstepN rfl (TabP_hit (fun v' h => by cases h; rfl) (by constructor)) (by dsimp only [putV, List.set]) ?_
      | refine wstepN rfl rfl (by dsimp only [putV, List.set]) ?_
    refine wstepN rfl rfl (by dsimp only [putV, List.set]) ?_
    refine wstepN rfl rfl (by dsimp only [putV, List.set]) ?_
    first
      | refine wskipN rfl (by dsimp only [putV, List.set]) ?_
      | refine wstepN rfl (hit9 (by first | assumption | omega)) (by dsimp only [putV, List.set]) ?_
      | refine wstepN rfl (T1_hit) (by dsimp only [putV, List.set]) ?_
      | refine wstepN rfl (TabP_use (by assumption) (by assumption)) (by dsimp only [putV, List.set]) ?_
      | refine wstepN rfl (TabP_hit (fun v' h => by cases h; rfl) (by assumption)) (by dsimp only [putV, List.set]) ?_
      | refine wstepN rfl (TabP_hit (fun v' h => by cases h; rfl) (by constructor)) (by dsimp only [putV, List.set]) ?_
      | refine wstepN rfl rfl (by dsimp only [putV, List.set]) ?_
    refine wstepN rfl rfl (by dsimp only [putV, List.set]) ?_
    refine wstepN rfl rfl (by dsimp only [putV, List.set]) ?_
    refine wnil (Ok.ret ⟨fun _ h => (by cases h), _, rfl, rfl⟩)

end Go.Proofs.YtiefcnghjcafbaaDoorV
