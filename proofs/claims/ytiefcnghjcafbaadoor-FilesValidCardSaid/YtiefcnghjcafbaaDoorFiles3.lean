/- Lists of files: what is valid; the law FilesValid over plain values. -/
import Derived.Test.YtiefcnghjcafbaaDoorFiles2
import Derived.Test.YtiefcnghjcafbaaDoorLaws
namespace Go.Proofs.YtiefcnghjcafbaaDoorV
open Go Go.RowKit Go.Proofs.YtiefcnghjcafbaaDoor
set_option maxRecDepth 20000
set_option maxHeartbeats 1000000

inductive P32 (l : List Fl) (p : List UInt8) : FuncId → List V → V → Prop
  | path : P32 l p 34 [T p] (bV (pathB p))
  | perr : P32 l p 43 [.sl (rowsF l), T p] (iV (perrP l p))
theorem P32_u (l : List Fl) (p : List UInt8) : Uniq (P32 l p) := fun f vs v v' h h' => by cases h <;> cases h' <;> rfl
theorem P32_good (l : List Fl) (p : List UInt8) (hl : l.length ≤ 100000) (hp : p.length ≤ 10000) : Good Tryd.prog (TabP (P32 l p)) := TabP_good fun f vs v h => by
  cases h with
  | path => exact ⟨path34 p (by omega), rfl, rfl, Tryd.call34⟩
  | perr => exact ⟨perr43 l p hl hp, rfl, rfl, Tryd.call43⟩

theorem check32 (l : List Fl) (i : Nat) (f : Fl) (hi : l[i]? = some f) (hl : l.length ≤ 100000) (hp : f.path.length ≤ 10000) : FnOk Tryd.prog 32 [.sl (rowsF l), iV (i : Int)] [] (fun r bs' => fr bs' r = iV (checkP l i f)) := by
  refine FnOk.fast (Q := fun r => r = iV (checkP l i f)) layOk Tryd.func32 rfl ?_
  have hil : i < l.length := (List.getElem?_eq_some_iff.1 hi).1
  have hT := P32_good (l.take i) f.path (by simp; omega) hp
  have hU := P32_u (l.take i) f.path
  have hpa : P32 (l.take i) f.path 34 [T f.path] (bV (pathB f.path)) := .path
  have hpe : P32 (l.take i) f.path 43 [.sl (rowsF (l.take i)), T f.path] (iV (perrP (l.take i) f.path)) := .perr
  have hget := rowsF_at hi
  refine Ok.seq (go 10 rfl ?_)
  refine Ok.seq (Ok.regionW (G := fun _ => true) (C := TabP _) mixed layOk noT TabP_calm (.inl rfl) ?_)
  refine wstepN rfl rfl (by dsimp only [putV, List.set]) ?_
  refine wstepN rfl rfl (by dsimp only [putV, List.set]) ?_
  first
    | refine wstepN rfl (ev_ix rfl rfl rfl (by assumption) rfl) (by dsimp only [putV, List.set]) ?_
    | refine wstepN rfl rfl (by dsimp only [putV, List.set]) ?_
  first
    | refine wstepN rfl (ldF rfl rfl) (by dsimp only [putV, List.set]) ?_
    | refine wstepN rfl rfl (by dsimp only [putV, List.set]) ?_
  refine wstepN rfl rfl (by dsimp only [putV, List.set]) ?_
  refine wstepN rfl rfl (by dsimp only [putV, List.set]) ?_
  refine wnil ?_
  refine Ok.gcE (bs2 := [.cells [T f.path, bV f.dir, T f.data]]) (ts2 := (((List.replicate 62 V.gone).set 0 (.sl (rowsF l))).set 1 (iV (i : Int))).set 5 (.ptr 0 0)) [0] [0, 1, 5] (by kernel_rfl) (by decide) (floor_ok rfl) rfl ?_
  simp only [List.replicate, List.set]
  refine Ok.seq (Ok.block ?_)
  refine Ok.seq (Ok.regionW (G := fun _ => true) (C := TabP _) mixed layOk hT TabP_calm (.inl rfl) ?_)
  refine wstepN rfl rfl (by dsimp only [putV, List.set]) ?_
  first
    | refine wstepN rfl (ldT rfl rfl) (by dsimp only [putV, List.set]) ?_
    | refine wstepN rfl (ldE rfl rfl) (by dsimp only [putV, List.set]) ?_
    | refine wstepN rfl rfl (by dsimp only [putV, List.set]) ?_
  first
    | refine wstepN rfl (hit34 (by first | assumption | omega)) (by dsimp only [putV, List.set]) ?_
    | refine wstepN rfl (T1_hit) (by dsimp only [putV, List.set]) ?_
    | refine wstepN rfl (TabP_use (by assumption) (by assumption)) (by dsimp only [putV, List.set]) ?_
    | refine wstepN rfl (TabP_hit (fun v' h => by cases h; rfl) (by assumption)) (by dsimp only [putV, List.set]) ?_
    | refine wstepN rfl (TabP_hit (fun v' h => by cases h; rfl) (by constructor)) (by dsimp only [putV, List.set]) ?_
    | refine wstepN rfl rfl (by dsimp only [putV, List.set]) ?_
  refine wstepN rfl rfl (by dsimp only [putV, List.set]) ?_
  refine wstepN rfl rfl (by dsimp only [putV, List.set]) ?_
  cases h1 : pathB f.path
  · refine wnil (Ok.cond (b := true) rfl (fun _ => ?_) (fun h => by cases h))
    rw [show checkP l i f = 10 by
      have : baseF (prevF l i) f = 10 := by rw [baseF, if_pos h1]
      rw [checkP, this]; rfl]
    exact go 10 rfl ⟨fun _ h => (by cases h), _, rfl, rfl⟩
  refine wnil (Ok.cond (b := false) rfl (fun h => by cases h) (fun _ => ?_))
  obtain ⟨b1, hb1⟩ : ∃ b1, ((f.dir && !decide (f.data = [])) || (decide (f.path = [47]) && !f.dir)) = b1 := ⟨_, rfl⟩
  refine Ok.seq (Ok.mono (Q := fun e ts bs => e = .normal ∧ bs = [.cells [T f.path, bV f.dir, T f.data]] ∧ ts = ((((List.replicate 62 V.gone).set 0 (.sl (rowsF l))).set 1 (iV (i : Int))).set 5 (.ptr 0 0)).set 15 (bV b1)) (Ok.after ?_) ?_)
  · subst hb1
    cases hd : f.dir <;> cases hx : decide (f.data = []) <;> cases hr : decide (f.path = [47])
    all_goals
      refine Ok.regionW (G := fun _ => true) (C := TabP _) mixed layOk noT TabP_calm (.inl rfl) ?_
      refine wstepN rfl rfl (by dsimp only [putV, List.set]) ?_
      refine wstepN rfl rfl (by dsimp only [putV, List.set]) ?_
      refine wstepN rfl rfl (by dsimp only [putV, List.set]) ?_
      first
        | refine wskipN rfl (by dsimp only [putV, List.set]) ?_
        | refine wstepN rfl rfl (by dsimp only [putV, List.set]) ?_
      first
        | refine wskipN rfl (by dsimp only [putV, List.set]) ?_
        | refine wstepN rfl (ldT rfl rfl) (by dsimp only [putV, List.set]) ?_
        | refine wstepN rfl (ldE rfl rfl) (by dsimp only [putV, List.set]) ?_
        | refine wstepN rfl rfl (by dsimp only [putV, List.set]) ?_
      first
        | refine wskipN rfl (by dsimp only [putV, List.set]) ?_
        | refine wstepN rfl (neqT (by assumption) rfl rfl) (by dsimp only [putV, List.set]) ?_
        | refine wstepN rfl rfl (by dsimp only [putV, List.set]) ?_
      refine wstepN rfl rfl (by dsimp only [putV, List.set]) ?_
      refine wstepN rfl rfl (by dsimp only [putV, List.set]) ?_
      first
        | refine wskipN rfl (by dsimp only [putV, List.set]) ?_
        | refine wstepN rfl rfl (by dsimp only [putV, List.set]) ?_
      first
        | refine wskipN rfl (by dsimp only [putV, List.set]) ?_
        | refine wstepN rfl (ldT rfl rfl) (by dsimp only [putV, List.set]) ?_
        | refine wstepN rfl (ldE rfl rfl) (by dsimp only [putV, List.set]) ?_
        | refine wstepN rfl rfl (by dsimp only [putV, List.set]) ?_
      first
        | refine wskipN rfl (by dsimp only [putV, List.set]) ?_
        | refine wstepN rfl (eqT (by assumption) rfl rfl) (by dsimp only [putV, List.set]) ?_
        | refine wstepN rfl rfl (by dsimp only [putV, List.set]) ?_
      first
        | refine wskipN rfl (by dsimp only [putV, List.set]) ?_
        | refine wstepN rfl rfl (by dsimp only [putV, List.set]) ?_
      first
        | refine wskipN rfl (by dsimp only [putV, List.set]) ?_
        | refine wstepN rfl rfl (by dsimp only [putV, List.set]) ?_
      first
        | refine wskipN rfl (by dsimp only [putV, List.set]) ?_
        | refine wstepN rfl rfl (by dsimp only [putV, List.set]) ?_
      first
        | refine wskipN rfl (by dsimp only [putV, List.set]) ?_
        | refine wstepN rfl rfl (by dsimp only [putV, List.set]) ?_
      first
        | refine wskipN rfl (by dsimp only [putV, List.set]) ?_
        | refine wstepN rfl rfl (by dsimp only [putV, List.set]) ?_
      refine wstepN rfl rfl (by dsimp only [putV, List.set]) ?_
      refine wstepN rfl rfl (by dsimp only [putV, List.set]) ?_
      exact wnil ⟨[0], [0, 1, 5, 15], _, rfl, by decide, floor_ok rfl, rfl, rfl, rfl⟩
  rintro _ _ _ ⟨rfl, rfl, rfl⟩
  simp only [List.replicate, List.set]
  cases b1
  case true =>
    refine Ok.cond (b := true) rfl (fun _ => ?_) (fun h => by cases h)
    rw [show checkP l i f = 1 by
      have : baseF (prevF l i) f = 1 := by rw [baseF, if_neg (by rw [h1]; simp), if_pos hb1]
      rw [checkP, this]; rfl]
    exact go 10 rfl ⟨fun _ h => (by cases h), _, rfl, rfl⟩
  refine Ok.cond (b := false) rfl (fun h => by cases h) (fun _ => ?_)
  refine Ok.seq (Ok.regionW (G := fun _ => true) (C := TabP _) mixed layOk noT TabP_calm (.inl rfl) ?_)
  cases h8192 : decide ((f.data.length : Int) > 8192)
  case true =>
    have h3 := of_decide_eq_true h8192
    refine wstepN rfl rfl (by dsimp only [putV, List.set]) ?_
    first
      | refine wstepN rfl (ldT rfl rfl) (by dsimp only [putV, List.set]) ?_
      | refine wstepN rfl (ldE rfl rfl) (by dsimp only [putV, List.set]) ?_
      | refine wstepN rfl rfl (by dsimp only [putV, List.set]) ?_
    first
      | refine wstepN rfl (lenT rfl rfl) (by dsimp only [putV, List.set]) ?_
      | refine wstepN rfl rfl (by dsimp only [putV, List.set]) ?_
    first
      | refine wstepN rfl (gtrK h8192 rfl rfl) (by dsimp only [putV, List.set]) ?_
      | refine wstepN rfl (gtrK (by assumption) rfl rfl) (by dsimp only [putV, List.set]) ?_
      | refine wstepN rfl rfl (by dsimp only [putV, List.set]) ?_
    refine wstepN rfl rfl (by dsimp only [putV, List.set]) ?_
    refine wnil (Ok.cond (b := true) rfl (fun _ => ?_) (fun h => by cases h))
    rw [show checkP l i f = 3 by
      have : baseF (prevF l i) f = 3 := by rw [baseF, if_neg (by rw [h1]; simp), if_neg (by rw [hb1]; simp), if_pos (by omega)]
      rw [checkP, this]; rfl]
    exact go 10 rfl ⟨fun _ h => (by cases h), _, rfl, rfl⟩
  have h3 := of_decide_eq_false h8192
  refine wstepN rfl rfl (by dsimp only [putV, List.set]) ?_
  first
    | refine wstepN rfl (ldT rfl rfl) (by dsimp only [putV, List.set]) ?_
    | refine wstepN rfl (ldE rfl rfl) (by dsimp only [putV, List.set]) ?_
    | refine wstepN rfl rfl (by dsimp only [putV, List.set]) ?_
  first
    | refine wstepN rfl (lenT rfl rfl) (by dsimp only [putV, List.set]) ?_
    | refine wstepN rfl rfl (by dsimp only [putV, List.set]) ?_
  first
    | refine wstepN rfl (gtrK h8192 rfl rfl) (by dsimp only [putV, List.set]) ?_
    | refine wstepN rfl (gtrK (by assumption) rfl rfl) (by dsimp only [putV, List.set]) ?_
    | refine wstepN rfl rfl (by dsimp only [putV, List.set]) ?_
  refine wstepN rfl rfl (by dsimp only [putV, List.set]) ?_
  refine wnil (Ok.cond (b := false) rfl (fun h => by cases h) (fun _ => ?_))
  refine Ok.gcE (bs2 := [.cells [T f.path, bV f.dir, T f.data]]) (ts2 := (((List.replicate 62 V.gone).set 0 (.sl (rowsF l))).set 1 (iV (i : Int))).set 5 (.ptr 0 0)) [0] [0, 1, 5] (by kernel_rfl) (by decide) (floor_ok rfl) rfl ?_
  simp only [List.replicate, List.set]
  obtain ⟨b3, hb3⟩ : ∃ b3, afterB (prevF l i) f = b3 := ⟨_, rfl⟩
  refine Ok.seq (Ok.mono (Q := fun e ts bs => e = .normal ∧ bs = [.cells [T f.path, bV f.dir, T f.data]] ∧ ts = ((((List.replicate 62 V.gone).set 0 (.sl (rowsF l))).set 1 (iV (i : Int))).set 5 (.ptr 0 0)).set 38 (bV b3)) (Ok.after ?_) ?_)
  · cases i with
    | zero =>
      have hq : decide (((0 : Nat) : Int) > 0) = false := rfl
      have : b3 = false := by rw [← hb3]; rfl
      subst this
      refine Ok.regionW (G := fun _ => true) (C := TabP _) mixed layOk noT TabP_calm (.inr ⟨by kernel_rfl, by kernel_rfl⟩) ?_
      refine wstepN rfl rfl (by dsimp only [putV, List.set]) ?_
      first
        | refine wstepN rfl (gtrK h0 rfl rfl) (by dsimp only [putV, List.set]) ?_
        | refine wstepN rfl (gtrK (by assumption) rfl rfl) (by dsimp only [putV, List.set]) ?_
        | refine wstepN rfl rfl (by dsimp only [putV, List.set]) ?_
      refine wstepN rfl rfl (by dsimp only [putV, List.set]) ?_
      first
        | refine wskipN rfl (by dsimp only [putV, List.set]) ?_
        | refine wstepN rfl rfl (by dsimp only [putV, List.set]) ?_
      first
        | refine wskipN rfl (by dsimp only [putV, List.set]) ?_
        | refine wstepN rfl (ldT rfl rfl) (by dsimp only [putV, List.set]) ?_
        | refine wstepN rfl (ldE rfl rfl) (by dsimp only [putV, List.set]) ?_
        | refine wstepN rfl rfl (by dsimp only [putV, List.set]) ?_
      first
        | refine wskipN rfl (by dsimp only [putV, List.set]) ?_
        | refine wstepN rfl rfl (by dsimp only [putV, List.set]) ?_
      first
        | refine wskipN rfl (by dsimp only [putV, List.set]) ?_
        | refine wstepN rfl rfl (by dsimp only [putV, List.set]) ?_
      first
        | refine wskipN rfl (by dsimp only [putV, List.set]) ?_
        | refine wstepN rfl (subK (by assumption) rfl rfl) (by dsimp only [putV, List.set]) ?_
        | refine wstepN rfl rfl (by dsimp only [putV, List.set]) ?_
      first
        | refine wskipN rfl (by dsimp only [putV, List.set]) ?_
        | refine wstepN rfl (ev_ix rfl rfl rfl (by assumption) rfl) (by dsimp only [putV, List.set]) ?_
        | refine wstepN rfl rfl (by dsimp only [putV, List.set]) ?_
      first
        | refine wskipN rfl (by dsimp only [putV, List.set]) ?_
        | refine wstepN rfl rfl (by dsimp only [putV, List.set]) ?_
      first
        | refine wskipN rfl (by dsimp only [putV, List.set]) ?_
        | refine wstepN rfl (ldT rfl rfl) (by dsimp only [putV, List.set]) ?_
        | refine wstepN rfl (ldE rfl rfl) (by dsimp only [putV, List.set]) ?_
        | refine wstepN rfl rfl (by dsimp only [putV, List.set]) ?_
      first
        | refine wskipN rfl (by dsimp only [putV, List.set]) ?_
        | refine wstepN rfl (leT (by assumption) rfl rfl) (by dsimp only [putV, List.set]) ?_
        | refine wstepN rfl rfl (by dsimp only [putV, List.set]) ?_
      refine wstepN rfl rfl (by dsimp only [putV, List.set]) ?_
      refine wstepN rfl rfl (by dsimp only [putV, List.set]) ?_
      exact wnil ⟨[0], [0, 1, 5, 38], _, rfl, by decide, floor_ok rfl, rfl, rfl, rfl⟩
    | succ j =>
      obtain ⟨g, hg⟩ : ∃ g, l[j]? = some g := ⟨_, List.getElem?_eq_getElem (by omega)⟩
      have hgetg := rowsF_at hg
      have hq : decide (((j + 1 : Nat) : Int) > 0) = true := decide_eq_true (by omega)
      have hsub : IntKind.i64.wrap (((j + 1 : Nat) : Int) - 1) = ((j : Nat) : Int) := by rw [wrap64 (by omega) (by omega)]; omega
      have hle : leB f.path g.path = b3 := by
        rw [← hb3, prevF, if_neg (by omega), Nat.add_sub_cancel, hg]
        rfl
      refine Ok.regionW (G := fun _ => true) (C := TabP _) mixed layOk noT TabP_calm (.inr ⟨by kernel_rfl, by kernel_rfl⟩) ?_
      refine wstepN rfl rfl (by dsimp only [putV, List.set]) ?_
      first
        | refine wstepN rfl (gtrK h0 rfl rfl) (by dsimp only [putV, List.set]) ?_
        | refine wstepN rfl (gtrK (by assumption) rfl rfl) (by dsimp only [putV, List.set]) ?_
        | refine wstepN rfl rfl (by dsimp only [putV, List.set]) ?_
      refine wstepN rfl rfl (by dsimp only [putV, List.set]) ?_
      first
        | refine wskipN rfl (by dsimp only [putV, List.set]) ?_
        | refine wstepN rfl rfl (by dsimp only [putV, List.set]) ?_
      first
        | refine wskipN rfl (by dsimp only [putV, List.set]) ?_
        | refine wstepN rfl (ldT rfl rfl) (by dsimp only [putV, List.set]) ?_
        | refine wstepN rfl (ldE rfl rfl) (by dsimp only [putV, List.set]) ?_
        | refine wstepN rfl rfl (by dsimp only [putV, List.set]) ?_
      first
        | refine wskipN rfl (by dsimp only [putV, List.set]) ?_
        | refine wstepN rfl rfl (by dsimp only [putV, List.set]) ?_
      first
        | refine wskipN rfl (by dsimp only [putV, List.set]) ?_
        | refine wstepN rfl rfl (by dsimp only [putV, List.set]) ?_
      first
        | refine wskipN rfl (by dsimp only [putV, List.set]) ?_
        | refine wstepN rfl (subK (by assumption) rfl rfl) (by dsimp only [putV, List.set]) ?_
        | refine wstepN rfl rfl (by dsimp only [putV, List.set]) ?_
      first
        | refine wskipN rfl (by dsimp only [putV, List.set]) ?_
        | refine wstepN rfl (ev_ix rfl rfl rfl (by assumption) rfl) (by dsimp only [putV, List.set]) ?_
        | refine wstepN rfl rfl (by dsimp only [putV, List.set]) ?_
      first
        | refine wskipN rfl (by dsimp only [putV, List.set]) ?_
        | refine wstepN rfl rfl (by dsimp only [putV, List.set]) ?_
      first
        | refine wskipN rfl (by dsimp only [putV, List.set]) ?_
        | refine wstepN rfl (ldT rfl rfl) (by dsimp only [putV, List.set]) ?_
        | refine wstepN rfl (ldE rfl rfl) (by dsimp only [putV, List.set]) ?_
        | refine wstepN rfl rfl (by dsimp only [putV, List.set]) ?_
      first
        | refine wskipN rfl (by dsimp only [putV, List.set]) ?_
        | refine wstepN rfl (leT (by assumption) rfl rfl) (by dsimp only [putV, List.set]) ?_
        | refine wstepN rfl rfl (by dsimp only [putV, List.set]) ?_
      refine wstepN rfl rfl (by dsimp only [putV, List.set]) ?_
      refine wstepN rfl rfl (by dsimp only [putV, List.set]) ?_
      exact wnil ⟨[0], [0, 1, 5, 38], _, rfl, by decide, floor_ok rfl, rfl, rfl, rfl⟩
  rintro _ _ _ ⟨rfl, rfl, rfl⟩
  simp only [List.replicate, List.set]
  cases b3
  case true =>
    refine Ok.cond (b := true) rfl (fun _ => ?_) (fun h => by cases h)
    rw [show checkP l i f = 25 by
      have : baseF (prevF l i) f = 25 := by rw [baseF, if_neg (by rw [h1]; simp), if_neg (by rw [hb1]; simp), if_neg (by omega), if_pos hb3]
      rw [checkP, this]; rfl]
    exact go 10 rfl ⟨fun _ h => (by cases h), _, rfl, rfl⟩
  refine Ok.cond (b := false) rfl (fun h => by cases h) (fun _ => ?_)
  have hb0 : baseF (prevF l i) f = 0 := by rw [baseF, if_neg (by rw [h1]; simp), if_neg (by rw [hb1]; simp), if_neg (by omega), if_neg (by rw [hb3]; simp)]
  by_cases hr : f.path = [47]
  · have hr' : decide (f.path = [47]) = true := decide_eq_true hr
    rw [show checkP l i f = 0 by rw [checkP, hb0, if_neg (by simp), if_pos hr]]
    refine Ok.seq (Ok.regionW (G := fun _ => true) (C := TabP _) mixed layOk noT TabP_calm (.inl rfl) ?_)
    refine wstepN rfl rfl (by dsimp only [putV, List.set]) ?_
    first
      | refine wstepN rfl (ldT rfl rfl) (by dsimp only [putV, List.set]) ?_
      | refine wstepN rfl (ldE rfl rfl) (by dsimp only [putV, List.set]) ?_
      | refine wstepN rfl rfl (by dsimp only [putV, List.set]) ?_
    first
      | refine wstepN rfl (eqT (by assumption) rfl rfl) (by dsimp only [putV, List.set]) ?_
      | refine wstepN rfl rfl (by dsimp only [putV, List.set]) ?_
    refine wstepN rfl rfl (by dsimp only [putV, List.set]) ?_
    refine wnil (Ok.cond (b := true) rfl (fun _ => ?_) (fun h => by cases h))
    exact go 10 rfl ⟨fun _ h => (by cases h), _, rfl, rfl⟩
  · have hr' : decide (f.path = [47]) = false := decide_eq_false hr
    rw [show checkP l i f = perrP (l.take i) f.path by rw [checkP, hb0, if_neg (by simp), if_neg hr]]
    refine Ok.seq (Ok.regionW (G := fun _ => true) (C := TabP _) mixed layOk noT TabP_calm (.inl rfl) ?_)
    refine wstepN rfl rfl (by dsimp only [putV, List.set]) ?_
    first
      | refine wstepN rfl (ldT rfl rfl) (by dsimp only [putV, List.set]) ?_
      | refine wstepN rfl (ldE rfl rfl) (by dsimp only [putV, List.set]) ?_
      | refine wstepN rfl rfl (by dsimp only [putV, List.set]) ?_
    first
      | refine wstepN rfl (eqT (by assumption) rfl rfl) (by dsimp only [putV, List.set]) ?_
      | refine wstepN rfl rfl (by dsimp only [putV, List.set]) ?_
    refine wstepN rfl rfl (by dsimp only [putV, List.set]) ?_
    refine wnil (Ok.cond (b := false) rfl (fun h => by cases h) (fun _ => ?_))
    refine Ok.skip ?_
    refine Ok.gcE (bs2 := [.cells [T f.path, bV f.dir, T f.data]]) (ts2 := (((List.replicate 62 V.gone).set 0 (.sl (rowsF l))).set 1 (iV (i : Int))).set 5 (.ptr 0 0)) [0] [0, 1, 5] (by kernel_rfl) (by decide) (floor_ok rfl) rfl ?_
    simp only [List.replicate, List.set]
    refine Ok.seq (Ok.regionW (G := fun _ => true) (C := TabP _) mixed layOk hT TabP_calm (.inr ⟨by kernel_rfl, by kernel_rfl⟩) ?_)
    refine wstepN rfl rfl (by dsimp only [putV, List.set]) ?_
    refine wstepN rfl rfl (by dsimp only [putV, List.set]) ?_
    refine wstepN rfl (cutF (b := i) (by omega) rfl rfl rfl) (by dsimp only [putV, List.set]) ?_
    refine wstepN rfl rfl (by dsimp only [putV, List.set]) ?_
    first
      | refine wstepN rfl (ldT rfl rfl) (by dsimp only [putV, List.set]) ?_
      | refine wstepN rfl (ldE rfl rfl) (by dsimp only [putV, List.set]) ?_
      | refine wstepN rfl rfl (by dsimp only [putV, List.set]) ?_
    first
      | refine wstepN rfl (hit43 (by first | assumption | omega)) (by dsimp only [putV, List.set]) ?_
      | refine wstepN rfl (T1_hit) (by dsimp only [putV, List.set]) ?_
      | refine wstepN rfl (TabP_use (by assumption) (by assumption)) (by dsimp only [putV, List.set]) ?_
      | refine wstepN rfl (TabP_hit (fun v' h => by cases h; rfl) (by assumption)) (by dsimp only [putV, List.set]) ?_
      | refine wstepN rfl (TabP_hit (fun v' h => by cases h; rfl) (by constructor)) (by dsimp only [putV, List.set]) ?_
      | refine wstepN rfl rfl (by dsimp only [putV, List.set]) ?_
    refine wstepN rfl rfl (by dsimp only [putV, List.set]) ?_
    refine wnil (Ok.ret ⟨fun _ h => (by cases h), _, rfl, rfl⟩)

theorem firstE_drop {chk : Nat → Fl → Int} {l : List Fl} {k : Nat} {f : Fl} (h : l[k]? = some f) : firstE chk k (l.drop k) = if chk k f ≠ 0 then chk k f else firstE chk (k + 1) (l.drop (k + 1)) := by
  obtain ⟨h1, h2⟩ := List.getElem?_eq_some_iff.1 h
  rw [List.drop_eq_getElem_cons h1, h2, firstE]

inductive P10 (l : List Fl) : FuncId → List V → V → Prop
  | chk (k : Nat) (h : k < l.length) : P10 l 32 [.sl (rowsF l), iV (k : Int)] (iV (checkP l k (l[k]'h)))
theorem P10_u (l : List Fl) : Uniq (P10 l) := fun f vs v v' h h' => by cases h; cases h'; rfl
theorem P10_good (l : List Fl) (hl : l.length ≤ 100000) (hp : ∀ f ∈ l, f.path.length ≤ 10000) : Good Tryd.prog (TabP (P10 l)) := TabP_good fun f vs v h => by
  cases h with
  | chk k h => exact ⟨check32 l k l[k] (List.getElem?_eq_getElem h) hl (hp _ (List.getElem_mem h)), rfl, rfl, Tryd.call32⟩

theorem valid10 (l : List Fl) (hl : l.length ≤ 100000) (hp : ∀ f ∈ l, f.path.length ≤ 10000) : FnOk Tryd.prog 10 [.sl (rowsF l)] [] (fun r bs' => fr bs' r = iV (validB checkP l)) := by
  refine FnOk.fast (Q := fun r => r = iV (validB checkP l)) layOk Tryd.func10 rfl ?_
  have hT := P10_good l hl hp
  have hU := P10_u l
  obtain ⟨N, hN⟩ : ∃ N, l.length = N := ⟨_, rfl⟩
  refine Ok.seq (go 10 rfl ?_)
  refine Ok.seq ?_
  cases h128 : decide ((N : Int) > 128)
  case true =>
    have := of_decide_eq_true h128
    rw [show validB checkP l = 4 by unfold validB; rw [if_pos (by omega)]]
    refine Ok.seq (Ok.regionW (G := fun _ => true) (C := TabP _) mixed layOk noT TabP_calm (.inl rfl) ?_)
    refine wstepN rfl rfl (by dsimp only [putV, List.set]) ?_
    first
      | refine wstepN rfl (lenF hN rfl rfl) (by dsimp only [putV, List.set]) ?_
      | refine wstepN rfl (lenF hM rfl rfl) (by dsimp only [putV, List.set]) ?_
      | refine wstepN rfl (lenF (by assumption) rfl rfl) (by dsimp only [putV, List.set]) ?_
      | refine wstepN rfl rfl (by dsimp only [putV, List.set]) ?_
    first
      | refine wstepN rfl (gtrK h128 rfl rfl) (by dsimp only [putV, List.set]) ?_
      | refine wstepN rfl (gtrK (by assumption) rfl rfl) (by dsimp only [putV, List.set]) ?_
      | refine wstepN rfl rfl (by dsimp only [putV, List.set]) ?_
    refine wnil (Ok.cond (b := true) rfl (fun _ => ?_) (fun h => by cases h))
    exact go 10 rfl ⟨fun _ h => (by cases h), _, rfl, rfl⟩
  have h128' := of_decide_eq_false h128
  refine Ok.seq (Ok.regionW (G := fun _ => true) (C := TabP _) mixed layOk noT TabP_calm (.inl rfl) ?_)
  refine wstepN rfl rfl (by dsimp only [putV, List.set]) ?_
  first
    | refine wstepN rfl (lenF hN rfl rfl) (by dsimp only [putV, List.set]) ?_
    | refine wstepN rfl (lenF hM rfl rfl) (by dsimp only [putV, List.set]) ?_
    | refine wstepN rfl (lenF (by assumption) rfl rfl) (by dsimp only [putV, List.set]) ?_
    | refine wstepN rfl rfl (by dsimp only [putV, List.set]) ?_
  first
    | refine wstepN rfl (gtrK h128 rfl rfl) (by dsimp only [putV, List.set]) ?_
    | refine wstepN rfl (gtrK (by assumption) rfl rfl) (by dsimp only [putV, List.set]) ?_
    | refine wstepN rfl rfl (by dsimp only [putV, List.set]) ?_
  refine wnil (Ok.cond (b := false) rfl (fun h => by cases h) (fun _ => ?_))
  refine Ok.skip ?_
  refine Ok.seq ?_
  cases l with
  | nil =>
    obtain rfl : N = 0 := by simpa using hN.symm
    have h0 : (((0 : Nat) : Int) == 0) = true := rfl
    rw [show validB checkP [] = 8 by rfl]
    refine Ok.seq (Ok.regionW (G := fun _ => true) (C := TabP _) mixed layOk noT TabP_calm (.inl rfl) ?_)
    refine wstepN rfl rfl (by dsimp only [putV, List.set]) ?_
    first
      | refine wstepN rfl (lenF hN rfl rfl) (by dsimp only [putV, List.set]) ?_
      | refine wstepN rfl (lenF hM rfl rfl) (by dsimp only [putV, List.set]) ?_
      | refine wstepN rfl (lenF (by assumption) rfl rfl) (by dsimp only [putV, List.set]) ?_
      | refine wstepN rfl rfl (by dsimp only [putV, List.set]) ?_
    first
      | refine wstepN rfl (eqlK (by assumption) rfl rfl) (by dsimp only [putV, List.set]) ?_
      | refine wstepN rfl rfl (by dsimp only [putV, List.set]) ?_
    refine wstepN rfl rfl (by dsimp only [putV, List.set]) ?_
    first
      | refine wskipN rfl (by dsimp only [putV, List.set]) ?_
      | refine wstepN rfl rfl (by dsimp only [putV, List.set]) ?_
    first
      | refine wskipN rfl (by dsimp only [putV, List.set]) ?_
      | refine wstepN rfl (ev_ix rfl rfl rfl (by assumption) rfl) (by dsimp only [putV, List.set]) ?_
      | refine wstepN rfl rfl (by dsimp only [putV, List.set]) ?_
    first
      | refine wskipN rfl (by dsimp only [putV, List.set]) ?_
      | refine wstepN rfl rfl (by dsimp only [putV, List.set]) ?_
    first
      | refine wskipN rfl (by dsimp only [putV, List.set]) ?_
      | refine wstepN rfl (ldT rfl rfl) (by dsimp only [putV, List.set]) ?_
      | refine wstepN rfl (ldE rfl rfl) (by dsimp only [putV, List.set]) ?_
      | refine wstepN rfl rfl (by dsimp only [putV, List.set]) ?_
    first
      | refine wskipN rfl (by dsimp only [putV, List.set]) ?_
      | refine wstepN rfl (neqT (by assumption) rfl rfl) (by dsimp only [putV, List.set]) ?_
      | refine wstepN rfl rfl (by dsimp only [putV, List.set]) ?_
    refine wstepN rfl rfl (by dsimp only [putV, List.set]) ?_
    refine wnil (Ok.cond (b := true) rfl (fun _ => ?_) (fun h => by cases h))
    exact go 10 rfl ⟨fun _ h => (by cases h), _, rfl, rfl⟩
  | cons f0 r =>
    have hN' : 0 < N := by rw [← hN]; simp
    have h0 : ((N : Int) == 0) = false := by simp; omega
    have hget : (rowsF (f0 :: r))[0]? = some (rowF f0) := rfl
    cases h47 : decide (f0.path = [47])
    · have := of_decide_eq_false h47
      rw [show validB checkP (f0 :: r) = 8 by unfold validB; rw [if_neg (by omega)]; simp [this]]
      refine Ok.seq (Ok.regionW (G := fun _ => true) (C := TabP _) mixed layOk noT TabP_calm (.inl rfl) ?_)
      refine wstepN rfl rfl (by dsimp only [putV, List.set]) ?_
      first
        | refine wstepN rfl (lenF hN rfl rfl) (by dsimp only [putV, List.set]) ?_
        | refine wstepN rfl (lenF hM rfl rfl) (by dsimp only [putV, List.set]) ?_
        | refine wstepN rfl (lenF (by assumption) rfl rfl) (by dsimp only [putV, List.set]) ?_
        | refine wstepN rfl rfl (by dsimp only [putV, List.set]) ?_
      first
        | refine wstepN rfl (eqlK (by assumption) rfl rfl) (by dsimp only [putV, List.set]) ?_
        | refine wstepN rfl rfl (by dsimp only [putV, List.set]) ?_
      refine wstepN rfl rfl (by dsimp only [putV, List.set]) ?_
      first
        | refine wskipN rfl (by dsimp only [putV, List.set]) ?_
        | refine wstepN rfl rfl (by dsimp only [putV, List.set]) ?_
      refine wstepN rfl (ev_ix (z := 0) rfl rfl rfl hget rfl) (by dsimp only [putV, List.set]) ?_
      first
        | refine wskipN rfl (by dsimp only [putV, List.set]) ?_
        | refine wstepN rfl rfl (by dsimp only [putV, List.set]) ?_
      first
        | refine wskipN rfl (by dsimp only [putV, List.set]) ?_
        | refine wstepN rfl (ldT rfl rfl) (by dsimp only [putV, List.set]) ?_
        | refine wstepN rfl (ldE rfl rfl) (by dsimp only [putV, List.set]) ?_
        | refine wstepN rfl rfl (by dsimp only [putV, List.set]) ?_
      first
        | refine wskipN rfl (by dsimp only [putV, List.set]) ?_
        | refine wstepN rfl (neqT (by assumption) rfl rfl) (by dsimp only [putV, List.set]) ?_
        | refine wstepN rfl rfl (by dsimp only [putV, List.set]) ?_
      refine wstepN rfl rfl (by dsimp only [putV, List.set]) ?_
      refine wnil (Ok.cond (b := true) rfl (fun _ => ?_) (fun h => by cases h))
      exact go 10 rfl ⟨fun _ h => (by cases h), _, rfl, rfl⟩
    · have := of_decide_eq_true h47
      rw [show validB checkP (f0 :: r) = firstE (checkP (f0 :: r)) 0 (f0 :: r) by unfold validB; rw [if_neg (by omega)]; simp [this]]
      refine Ok.seq (Ok.regionW (G := fun _ => true) (C := TabP _) mixed layOk noT TabP_calm (.inl rfl) ?_)
      refine wstepN rfl rfl (by dsimp only [putV, List.set]) ?_
      first
        | refine wstepN rfl (lenF hN rfl rfl) (by dsimp only [putV, List.set]) ?_
        | refine wstepN rfl (lenF hM rfl rfl) (by dsimp only [putV, List.set]) ?_
        | refine wstepN rfl (lenF (by assumption) rfl rfl) (by dsimp only [putV, List.set]) ?_
        | refine wstepN rfl rfl (by dsimp only [putV, List.set]) ?_
      first
        | refine wstepN rfl (eqlK (by assumption) rfl rfl) (by dsimp only [putV, List.set]) ?_
        | refine wstepN rfl rfl (by dsimp only [putV, List.set]) ?_
      refine wstepN rfl rfl (by dsimp only [putV, List.set]) ?_
      first
        | refine wskipN rfl (by dsimp only [putV, List.set]) ?_
        | refine wstepN rfl rfl (by dsimp only [putV, List.set]) ?_
      refine wstepN rfl (ev_ix (z := 0) rfl rfl rfl hget rfl) (by dsimp only [putV, List.set]) ?_
      first
        | refine wskipN rfl (by dsimp only [putV, List.set]) ?_
        | refine wstepN rfl rfl (by dsimp only [putV, List.set]) ?_
      first
        | refine wskipN rfl (by dsimp only [putV, List.set]) ?_
        | refine wstepN rfl (ldT rfl rfl) (by dsimp only [putV, List.set]) ?_
        | refine wstepN rfl (ldE rfl rfl) (by dsimp only [putV, List.set]) ?_
        | refine wstepN rfl rfl (by dsimp only [putV, List.set]) ?_
      first
        | refine wskipN rfl (by dsimp only [putV, List.set]) ?_
        | refine wstepN rfl (neqT (by assumption) rfl rfl) (by dsimp only [putV, List.set]) ?_
        | refine wstepN rfl rfl (by dsimp only [putV, List.set]) ?_
      refine wstepN rfl rfl (by dsimp only [putV, List.set]) ?_
      refine wnil (Ok.cond (b := false) rfl (fun h => by cases h) (fun _ => ?_))
      refine Ok.skip ?_
      generalize f0 :: r = l at *
      refine Ok.seq (Ok.seq ?_)
      refine Ok.regionW (G := fun _ => true) (C := TabP _) mixed layOk noT TabP_calm (.inl rfl) ?_
      refine wstepN rfl rfl (by dsimp only [putV, List.set]) ?_
      first
        | refine wstepN rfl (lenF hN rfl rfl) (by dsimp only [putV, List.set]) ?_
        | refine wstepN rfl (lenF hM rfl rfl) (by dsimp only [putV, List.set]) ?_
        | refine wstepN rfl (lenF (by assumption) rfl rfl) (by dsimp only [putV, List.set]) ?_
        | refine wstepN rfl rfl (by dsimp only [putV, List.set]) ?_
      refine wstepN rfl rfl (by dsimp only [putV, List.set]) ?_
      refine wnil ?_
      refine Ok.gc (bs2 := []) [] [0, 19, 20] (by kernel_rfl) (by decide) (floor_ok rfl) ?_
      refine Ok.count N (fun k ts bs => firstE (checkP l) 0 l = firstE (checkP l) k (l.drop k) ∧ k ≤ N ∧ bs = [] ∧ ts = (((List.replicate 30 V.gone).set 0 (.sl (rowsF l))).set 19 (iV (N : Int))).set 20 (iV (k : Int))) ?_ ?_
      · exact ⟨rfl, Nat.zero_le _, rfl, rfl⟩
      rintro k _ _ ⟨hfi, hk, rfl, rfl⟩
      simp only [List.replicate, List.set]
      cases hlt : decide (k < N)
      · have hge := of_decide_eq_false hlt
        rw [List.drop_of_length_le (by omega), firstE] at hfi
        rw [hfi]
        refine Ok.seq (Ok.regionW (G := fun _ => true) (C := TabP _) mixed layOk noT TabP_calm (.inl rfl) ?_)
        first
          | refine wstepN rfl (ltT hlt rfl rfl) (by dsimp only [putV, List.set]) ?_
          | refine wstepN rfl (ltT (by assumption) rfl rfl) (by dsimp only [putV, List.set]) ?_
          | refine wstepN rfl (lssK (by assumption) rfl rfl) (by dsimp only [putV, List.set]) ?_
          | refine wstepN rfl rfl (by dsimp only [putV, List.set]) ?_
        refine wnil (Ok.seq (Ok.cond (b := false) rfl (fun h => by cases h) (fun _ => ?_)))
        refine Ok.exit ?_
        exact go 10 rfl ⟨fun _ h => (by cases h), _, rfl, rfl⟩
      · have hlt' : k < N := of_decide_eq_true hlt
        have hkl : k < l.length := by omega
        have hck : P10 l 32 [.sl (rowsF l), iV (k : Int)] (iV (checkP l k l[k])) := .chk k hkl
        rw [firstE_drop (List.getElem?_eq_getElem hkl)] at hfi
        generalize checkP l k l[k] = e at hck hfi
        refine Ok.seq (Ok.regionW (G := fun _ => true) (C := TabP _) mixed layOk noT TabP_calm (.inl rfl) ?_)
        first
          | refine wstepN rfl (ltT hlt rfl rfl) (by dsimp only [putV, List.set]) ?_
          | refine wstepN rfl (ltT (by assumption) rfl rfl) (by dsimp only [putV, List.set]) ?_
          | refine wstepN rfl (lssK (by assumption) rfl rfl) (by dsimp only [putV, List.set]) ?_
          | refine wstepN rfl rfl (by dsimp only [putV, List.set]) ?_
        refine wnil (Ok.seq (Ok.cond (b := true) rfl (fun _ => ?_) (fun h => by cases h)))
        refine Ok.skip ?_
        refine Ok.after (Ok.seq (Ok.block ?_))
        refine Ok.seq (Ok.regionW (G := fun _ => true) (C := TabP _) mixed layOk noT TabP_calm (.inl rfl) ?_)
        refine wstepN rfl rfl (by dsimp only [putV, List.set]) ?_
        refine wstepN rfl rfl (by dsimp only [putV, List.set]) ?_
        refine wnil ?_
        refine Ok.seq (Ok.regionW (G := fun _ => true) (C := TabP _) mixed layOk hT TabP_calm (.inl rfl) ?_)
        refine wstepN rfl rfl (by dsimp only [putV, List.set]) ?_
        refine wstepN rfl rfl (by dsimp only [putV, List.set]) ?_
        first
          | refine wstepN rfl (hit32 (by first | assumption | omega)) (by dsimp only [putV, List.set]) ?_
          | refine wstepN rfl (T1_hit) (by dsimp only [putV, List.set]) ?_
          | refine wstepN rfl (TabP_use (by assumption) (by assumption)) (by dsimp only [putV, List.set]) ?_
          | refine wstepN rfl (TabP_hit (fun v' h => by cases h; rfl) (by assumption)) (by dsimp only [putV, List.set]) ?_
          | refine wstepN rfl (TabP_hit (fun v' h => by cases h; rfl) (by constructor)) (by dsimp only [putV, List.set]) ?_
          | refine wstepN rfl rfl (by dsimp only [putV, List.set]) ?_
        refine wstepN rfl rfl (by dsimp only [putV, List.set]) ?_
        refine wnil ?_
        refine Ok.seq ?_
        by_cases he : e = 0
        · have hq : (e != 0) = false := by simpa using he
          rw [if_neg (by simpa using he)] at hfi
          refine Ok.regionW (G := fun _ => true) (C := TabP _) mixed layOk noT TabP_calm (.inl rfl) ?_
          refine wstepN rfl rfl (by dsimp only [putV, List.set]) ?_
          first
            | refine wstepN rfl (neqK (by assumption) rfl rfl) (by dsimp only [putV, List.set]) ?_
            | refine wstepN rfl rfl (by dsimp only [putV, List.set]) ?_
          refine wnil (Ok.cond (b := false) rfl (fun h => by cases h) (fun _ => ?_))
          refine Ok.skip ?_
          refine Ok.regionW (G := fun _ => true) (C := TabP _) mixed layOk noT TabP_calm (.inl rfl) ?_
          first
            | refine wstepN rfl (incT (by omega) rfl rfl) (by dsimp only [putV, List.set]) ?_
            | refine wstepN rfl (addK (by assumption) rfl rfl) (by dsimp only [putV, List.set]) ?_
            | refine wstepN rfl rfl (by dsimp only [putV, List.set]) ?_
          refine wstepN rfl rfl (by dsimp only [putV, List.set]) ?_
          refine wnil ⟨[], [0, 19, 20], [], by kernel_rfl, by decide, floor_ok rfl, hlt', hfi, hlt', rfl, rfl⟩
        · have hq : (e != 0) = true := by simpa using he
          rw [if_pos he] at hfi
          rw [hfi]
          refine Ok.regionW (G := fun _ => true) (C := TabP _) mixed layOk noT TabP_calm (.inl rfl) ?_
          refine wstepN rfl rfl (by dsimp only [putV, List.set]) ?_
          first
            | refine wstepN rfl (neqK (by assumption) rfl rfl) (by dsimp only [putV, List.set]) ?_
            | refine wstepN rfl rfl (by dsimp only [putV, List.set]) ?_
          refine wnil (Ok.cond (b := true) rfl (fun _ => ?_) (fun h => by cases h))
          refine Ok.seq (Ok.regionW (G := fun _ => true) (C := TabP _) mixed layOk noT TabP_calm (.inl rfl) ?_)
          refine wstepN rfl rfl (by dsimp only [putV, List.set]) ?_
          refine wstepN rfl rfl (by dsimp only [putV, List.set]) ?_
          refine wnil (Ok.ret ?_)
          exact ⟨[], [2], [], by kernel_rfl, by decide, floor_ok rfl, fun _ h => (by cases h), _, rfl, rfl⟩

end Go.Proofs.YtiefcnghjcafbaaDoorV
