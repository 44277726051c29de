/- Part 6 of 6 of the proof: Files3, Files4, Chg9, V24, V25, ChangesRow. -/
import Derived.Test.YtiefcnghjcafbaaDoorS4
import Derived.Test.YtiefcnghjcafbaaDoorS5
import Derived.ChangeArms
import Derived.ChangeSlices
import Derived.Test.YtiefcnghjcafbaaDoorS2
import Derived.Carry
import Derived.ChangeOld
import Derived.WideShapes
import Derived.Test.YtiefcnghjcafbaaDoorCards
import Derived.Test.YtiefcnghjcafbaaDoorTie
import Derived.WalkKit
import Derived.ProofKit
import Derived.OpenShut
import Derived.ShutString
import Derived.SizedLaws
import Derived.Stop.Joined
import Derived.LaidMore
import Derived.Lay
import Derived.SevenTiedAt
import Derived.ChangeMaps5
/- Lists of files: what is valid; the law FilesValid over plain values. -/
namespace Go.Proofs.YtiefcnghjcafbaaDoorV
open Go Go.RowKit Go.Proofs.YtiefcnghjcafbaaDoor
set_option maxRecDepth 20000
set_option maxHeartbeats 1000000

inductive P32 (l : List Fl) (p : List UInt8) : FuncId → List V → V → Prop
  | path : P32 l p 34 [T p] (bV (pathB p))
  | perr : P32 l p 43 [.sl (rowsF l), T p] (iV (perrP l p))
theorem P32_u (l : List Fl) (p : List UInt8) : Uniq (P32 l p) := fun f vs v v' h h' => by cases h <;> cases h' <;> rfl
theorem P32_good (l : List Fl) (p : List UInt8) (hl : l.length ≤ 100000) (hp : p.length ≤ 10000) : Good Tryd.prog (TabP (P32 l p)) := TabP_good fun f vs v h => by
  cases h with
  | path => exact ⟨path34 p (by omega), rfl, rfl, Tryd.call34⟩
  | perr => exact ⟨perr43 l p hl hp, rfl, rfl, Tryd.call43⟩

theorem check32 (l : List Fl) (i : Nat) (f : Fl) (hi : l[i]? = some f) (hl : l.length ≤ 100000) (hp : f.path.length ≤ 10000) : FnOk Tryd.prog 32 [.sl (rowsF l), iV (i : Int)] [] (fun r bs' => fr bs' r = iV (checkP l i f)) := by
  refine FnOk.fast (Q := fun r => r = iV (checkP l i f)) layOk Tryd.func32 rfl ?_
  have hil : i < l.length := (List.getElem?_eq_some_iff.1 hi).1
  have hT := P32_good (l.take i) f.path (by simp; omega) hp
  have hU := P32_u (l.take i) f.path
  have hpa : P32 (l.take i) f.path 34 [T f.path] (bV (pathB f.path)) := .path
  have hpe : P32 (l.take i) f.path 43 [.sl (rowsF (l.take i)), T f.path] (iV (perrP (l.take i) f.path)) := .perr
  have hget := rowsF_at hi
  refine Ok.seq (go 10 rfl ?_)
  refine Ok.seq (Ok.regionW (G := fun _ => true) (C := TabP _) mixed layOk noT TabP_calm (.inl rfl) ?_)
  refine wstepN rfl rfl (by dsimp only [putV, List.set]) ?_
  refine wstepN rfl rfl (by dsimp only [putV, List.set]) ?_
  first
    | refine wstepN rfl (ev_ix rfl rfl rfl (by assumption) rfl) (by dsimp only [putV, List.set]) ?_
    | refine wstepN rfl rfl (by dsimp only [putV, List.set]) ?_
  first
    | refine wstepN rfl (ldF rfl rfl) (by dsimp only [putV, List.set]) ?_
    | refine wstepN rfl rfl (by dsimp only [putV, List.set]) ?_
  refine wstepN rfl rfl (by dsimp only [putV, List.set]) ?_
  refine wstepN rfl rfl (by dsimp only [putV, List.set]) ?_
  refine wnil ?_
  refine Ok.gcE (bs2 := [.cells [T f.path, bV f.dir, T f.data]]) (ts2 := (((List.replicate 62 V.gone).set 0 (.sl (rowsF l))).set 1 (iV (i : Int))).set 5 (.ptr 0 0)) [0] [0, 1, 5] (by kernel_rfl) (by decide) (floor_ok rfl) rfl ?_
  simp only [List.replicate, List.set]
  refine Ok.seq (Ok.block ?_)
  refine Ok.seq (Ok.regionW (G := fun _ => true) (C := TabP _) mixed layOk hT TabP_calm (.inl rfl) ?_)
  refine wstepN rfl rfl (by dsimp only [putV, List.set]) ?_
  first
    | refine wstepN rfl (ldT rfl rfl) (by dsimp only [putV, List.set]) ?_
    | refine wstepN rfl (ldE rfl rfl) (by dsimp only [putV, List.set]) ?_
    | refine wstepN rfl rfl (by dsimp only [putV, List.set]) ?_
  first
    | refine wstepN rfl (hit34 (by first | assumption | omega)) (by dsimp only [putV, List.set]) ?_
    | refine wstepN rfl (T1_hit) (by dsimp only [putV, List.set]) ?_
    | refine wstepN rfl (TabP_use (by assumption) (by assumption)) (by dsimp only [putV, List.set]) ?_
    | refine wstepN rfl (TabP_hit (fun v' h => by cases h; rfl) (by assumption)) (by dsimp only [putV, List.set]) ?_
    | refine wstepN rfl (TabP_hit (fun v' h => by cases h; rfl) (by constructor)) (by dsimp only [putV, List.set]) ?_
    | refine wstepN rfl rfl (by dsimp only [putV, List.set]) ?_
  refine wstepN rfl rfl (by dsimp only [putV, List.set]) ?_
  refine wstepN rfl rfl (by dsimp only [putV, List.set]) ?_
  cases h1 : pathB f.path
  · refine wnil (Ok.cond (b := true) rfl (fun _ => ?_) (fun h => by cases h))
    rw [show checkP l i f = 10 by
      have : baseF (prevF l i) f = 10 := by rw [baseF, if_pos h1]
      rw [checkP, this]; rfl]
    exact go 10 rfl ⟨fun _ h => (by cases h), _, rfl, rfl⟩
  refine wnil (Ok.cond (b := false) rfl (fun h => by cases h) (fun _ => ?_))
  obtain ⟨b1, hb1⟩ : ∃ b1, ((f.dir && !decide (f.data = [])) || (decide (f.path = [47]) && !f.dir)) = b1 := ⟨_, rfl⟩
  refine Ok.seq (Ok.mono (Q := fun e ts bs => e = .normal ∧ bs = [.cells [T f.path, bV f.dir, T f.data]] ∧ ts = ((((List.replicate 62 V.gone).set 0 (.sl (rowsF l))).set 1 (iV (i : Int))).set 5 (.ptr 0 0)).set 15 (bV b1)) (Ok.after ?_) ?_)
  · subst hb1
    cases hd : f.dir <;> cases hx : decide (f.data = []) <;> cases hr : decide (f.path = [47])
    all_goals
      refine Ok.regionW (G := fun _ => true) (C := TabP _) mixed layOk noT TabP_calm (.inl rfl) ?_
      refine wstepN rfl rfl (by dsimp only [putV, List.set]) ?_
      refine wstepN rfl rfl (by dsimp only [putV, List.set]) ?_
      refine wstepN rfl rfl (by dsimp only [putV, List.set]) ?_
      first
        | refine wskipN rfl (by dsimp only [putV, List.set]) ?_
        | refine wstepN rfl rfl (by dsimp only [putV, List.set]) ?_
      first
        | refine wskipN rfl (by dsimp only [putV, List.set]) ?_
        | refine wstepN rfl (ldT rfl rfl) (by dsimp only [putV, List.set]) ?_
        | refine wstepN rfl (ldE rfl rfl) (by dsimp only [putV, List.set]) ?_
        | refine wstepN rfl rfl (by dsimp only [putV, List.set]) ?_
      first
        | refine wskipN rfl (by dsimp only [putV, List.set]) ?_
        | refine wstepN rfl (neqT (by assumption) rfl rfl) (by dsimp only [putV, List.set]) ?_
        | refine wstepN rfl rfl (by dsimp only [putV, List.set]) ?_
      refine wstepN rfl rfl (by dsimp only [putV, List.set]) ?_
      refine wstepN rfl rfl (by dsimp only [putV, List.set]) ?_
      first
        | refine wskipN rfl (by dsimp only [putV, List.set]) ?_
        | refine wstepN rfl rfl (by dsimp only [putV, List.set]) ?_
      first
        | refine wskipN rfl (by dsimp only [putV, List.set]) ?_
        | refine wstepN rfl (ldT rfl rfl) (by dsimp only [putV, List.set]) ?_
        | refine wstepN rfl (ldE rfl rfl) (by dsimp only [putV, List.set]) ?_
        | refine wstepN rfl rfl (by dsimp only [putV, List.set]) ?_
      first
        | refine wskipN rfl (by dsimp only [putV, List.set]) ?_
        | refine wstepN rfl (eqT (by assumption) rfl rfl) (by dsimp only [putV, List.set]) ?_
        | refine wstepN rfl rfl (by dsimp only [putV, List.set]) ?_
      first
        | refine wskipN rfl (by dsimp only [putV, List.set]) ?_
        | refine wstepN rfl rfl (by dsimp only [putV, List.set]) ?_
      first
        | refine wskipN rfl (by dsimp only [putV, List.set]) ?_
        | refine wstepN rfl rfl (by dsimp only [putV, List.set]) ?_
      first
        | refine wskipN rfl (by dsimp only [putV, List.set]) ?_
        | refine wstepN rfl rfl (by dsimp only [putV, List.set]) ?_
      first
        | refine wskipN rfl (by dsimp only [putV, List.set]) ?_
        | refine wstepN rfl rfl (by dsimp only [putV, List.set]) ?_
      first
        | refine wskipN rfl (by dsimp only [putV, List.set]) ?_
        | refine wstepN rfl rfl (by dsimp only [putV, List.set]) ?_
      refine wstepN rfl rfl (by dsimp only [putV, List.set]) ?_
      refine wstepN rfl rfl (by dsimp only [putV, List.set]) ?_
      exact wnil ⟨[0], [0, 1, 5, 15], _, rfl, by decide, floor_ok rfl, rfl, rfl, rfl⟩
  rintro _ _ _ ⟨rfl, rfl, rfl⟩
  simp only [List.replicate, List.set]
  cases b1
  case true =>
    refine Ok.cond (b := true) rfl (fun _ => ?_) (fun h => by cases h)
    rw [show checkP l i f = 1 by
      have : baseF (prevF l i) f = 1 := by rw [baseF, if_neg (by rw [h1]; simp), if_pos hb1]
      rw [checkP, this]; rfl]
    exact go 10 rfl ⟨fun _ h => (by cases h), _, rfl, rfl⟩
  refine Ok.cond (b := false) rfl (fun h => by cases h) (fun _ => ?_)
  refine Ok.seq (Ok.regionW (G := fun _ => true) (C := TabP _) mixed layOk noT TabP_calm (.inl rfl) ?_)
  cases h8192 : decide ((f.data.length : Int) > 8192)
  case true =>
    have h3 := of_decide_eq_true h8192
    refine wstepN rfl rfl (by dsimp only [putV, List.set]) ?_
    first
      | refine wstepN rfl (ldT rfl rfl) (by dsimp only [putV, List.set]) ?_
      | refine wstepN rfl (ldE rfl rfl) (by dsimp only [putV, List.set]) ?_
      | refine wstepN rfl rfl (by dsimp only [putV, List.set]) ?_
    first
      | refine wstepN rfl (lenT rfl rfl) (by dsimp only [putV, List.set]) ?_
      | refine wstepN rfl rfl (by dsimp only [putV, List.set]) ?_
    first
      | refine wstepN rfl (gtrK h8192 rfl rfl) (by dsimp only [putV, List.set]) ?_
      | refine wstepN rfl (gtrK (by assumption) rfl rfl) (by dsimp only [putV, List.set]) ?_
      | refine wstepN rfl rfl (by dsimp only [putV, List.set]) ?_
    refine wstepN rfl rfl (by dsimp only [putV, List.set]) ?_
    refine wnil (Ok.cond (b := true) rfl (fun _ => ?_) (fun h => by cases h))
    rw [show checkP l i f = 3 by
      have : baseF (prevF l i) f = 3 := by rw [baseF, if_neg (by rw [h1]; simp), if_neg (by rw [hb1]; simp), if_pos (by omega)]
      rw [checkP, this]; rfl]
    exact go 10 rfl ⟨fun _ h => (by cases h), _, rfl, rfl⟩
  have h3 := of_decide_eq_false h8192
  refine wstepN rfl rfl (by dsimp only [putV, List.set]) ?_
  first
    | refine wstepN rfl (ldT rfl rfl) (by dsimp only [putV, List.set]) ?_
    | refine wstepN rfl (ldE rfl rfl) (by dsimp only [putV, List.set]) ?_
    | refine wstepN rfl rfl (by dsimp only [putV, List.set]) ?_
  first
    | refine wstepN rfl (lenT rfl rfl) (by dsimp only [putV, List.set]) ?_
    | refine wstepN rfl rfl (by dsimp only [putV, List.set]) ?_
  first
    | refine wstepN rfl (gtrK h8192 rfl rfl) (by dsimp only [putV, List.set]) ?_
    | refine wstepN rfl (gtrK (by assumption) rfl rfl) (by dsimp only [putV, List.set]) ?_
    | refine wstepN rfl rfl (by dsimp only [putV, List.set]) ?_
  refine wstepN rfl rfl (by dsimp only [putV, List.set]) ?_
  refine wnil (Ok.cond (b := false) rfl (fun h => by cases h) (fun _ => ?_))
  refine Ok.gcE (bs2 := [.cells [T f.path, bV f.dir, T f.data]]) (ts2 := (((List.replicate 62 V.gone).set 0 (.sl (rowsF l))).set 1 (iV (i : Int))).set 5 (.ptr 0 0)) [0] [0, 1, 5] (by kernel_rfl) (by decide) (floor_ok rfl) rfl ?_
  simp only [List.replicate, List.set]
  obtain ⟨b3, hb3⟩ : ∃ b3, afterB (prevF l i) f = b3 := ⟨_, rfl⟩
  refine Ok.seq (Ok.mono (Q := fun e ts bs => e = .normal ∧ bs = [.cells [T f.path, bV f.dir, T f.data]] ∧ ts = ((((List.replicate 62 V.gone).set 0 (.sl (rowsF l))).set 1 (iV (i : Int))).set 5 (.ptr 0 0)).set 38 (bV b3)) (Ok.after ?_) ?_)
  · cases i with
    | zero =>
      have hq : decide (((0 : Nat) : Int) > 0) = false := rfl
      have : b3 = false := by rw [← hb3]; rfl
      subst this
      refine Ok.regionW (G := fun _ => true) (C := TabP _) mixed layOk noT TabP_calm (.inr ⟨by kernel_rfl, by kernel_rfl⟩) ?_
      refine wstepN rfl rfl (by dsimp only [putV, List.set]) ?_
      first
        | refine wstepN rfl (gtrK h0 rfl rfl) (by dsimp only [putV, List.set]) ?_
        | refine wstepN rfl (gtrK (by assumption) rfl rfl) (by dsimp only [putV, List.set]) ?_
        | refine wstepN rfl rfl (by dsimp only [putV, List.set]) ?_
      refine wstepN rfl rfl (by dsimp only [putV, List.set]) ?_
      first
        | refine wskipN rfl (by dsimp only [putV, List.set]) ?_
        | refine wstepN rfl rfl (by dsimp only [putV, List.set]) ?_
      first
        | refine wskipN rfl (by dsimp only [putV, List.set]) ?_
        | refine wstepN rfl (ldT rfl rfl) (by dsimp only [putV, List.set]) ?_
        | refine wstepN rfl (ldE rfl rfl) (by dsimp only [putV, List.set]) ?_
        | refine wstepN rfl rfl (by dsimp only [putV, List.set]) ?_
      first
        | refine wskipN rfl (by dsimp only [putV, List.set]) ?_
        | refine wstepN rfl rfl (by dsimp only [putV, List.set]) ?_
      first
        | refine wskipN rfl (by dsimp only [putV, List.set]) ?_
        | refine wstepN rfl rfl (by dsimp only [putV, List.set]) ?_
      first
        | refine wskipN rfl (by dsimp only [putV, List.set]) ?_
        | refine wstepN rfl (subK (by assumption) rfl rfl) (by dsimp only [putV, List.set]) ?_
        | refine wstepN rfl rfl (by dsimp only [putV, List.set]) ?_
      first
        | refine wskipN rfl (by dsimp only [putV, List.set]) ?_
        | refine wstepN rfl (ev_ix rfl rfl rfl (by assumption) rfl) (by dsimp only [putV, List.set]) ?_
        | refine wstepN rfl rfl (by dsimp only [putV, List.set]) ?_
      first
        | refine wskipN rfl (by dsimp only [putV, List.set]) ?_
        | refine wstepN rfl rfl (by dsimp only [putV, List.set]) ?_
      first
        | refine wskipN rfl (by dsimp only [putV, List.set]) ?_
        | refine wstepN rfl (ldT rfl rfl) (by dsimp only [putV, List.set]) ?_
        | refine wstepN rfl (ldE rfl rfl) (by dsimp only [putV, List.set]) ?_
        | refine wstepN rfl rfl (by dsimp only [putV, List.set]) ?_
      first
        | refine wskipN rfl (by dsimp only [putV, List.set]) ?_
        | refine wstepN rfl (leT (by assumption) rfl rfl) (by dsimp only [putV, List.set]) ?_
        | refine wstepN rfl rfl (by dsimp only [putV, List.set]) ?_
      refine wstepN rfl rfl (by dsimp only [putV, List.set]) ?_
      refine wstepN rfl rfl (by dsimp only [putV, List.set]) ?_
      exact wnil ⟨[0], [0, 1, 5, 38], _, rfl, by decide, floor_ok rfl, rfl, rfl, rfl⟩
    | succ j =>
      obtain ⟨g, hg⟩ : ∃ g, l[j]? = some g := ⟨_, List.getElem?_eq_getElem (by omega)⟩
      have hgetg := rowsF_at hg
      have hq : decide (((j + 1 : Nat) : Int) > 0) = true := decide_eq_true (by omega)
      have hsub : IntKind.i64.wrap (((j + 1 : Nat) : Int) - 1) = ((j : Nat) : Int) := by rw [wrap64 (by omega) (by omega)]; omega
      have hle : leB f.path g.path = b3 := by
        rw [← hb3, prevF, if_neg (by omega), Nat.add_sub_cancel, hg]
        rfl
      refine Ok.regionW (G := fun _ => true) (C := TabP _) mixed layOk noT TabP_calm (.inr ⟨by kernel_rfl, by kernel_rfl⟩) ?_
      refine wstepN rfl rfl (by dsimp only [putV, List.set]) ?_
      first
        | refine wstepN rfl (gtrK h0 rfl rfl) (by dsimp only [putV, List.set]) ?_
        | refine wstepN rfl (gtrK (by assumption) rfl rfl) (by dsimp only [putV, List.set]) ?_
        | refine wstepN rfl rfl (by dsimp only [putV, List.set]) ?_
      refine wstepN rfl rfl (by dsimp only [putV, List.set]) ?_
      first
        | refine wskipN rfl (by dsimp only [putV, List.set]) ?_
        | refine wstepN rfl rfl (by dsimp only [putV, List.set]) ?_
      first
        | refine wskipN rfl (by dsimp only [putV, List.set]) ?_
        | refine wstepN rfl (ldT rfl rfl) (by dsimp only [putV, List.set]) ?_
        | refine wstepN rfl (ldE rfl rfl) (by dsimp only [putV, List.set]) ?_
        | refine wstepN rfl rfl (by dsimp only [putV, List.set]) ?_
      first
        | refine wskipN rfl (by dsimp only [putV, List.set]) ?_
        | refine wstepN rfl rfl (by dsimp only [putV, List.set]) ?_
      first
        | refine wskipN rfl (by dsimp only [putV, List.set]) ?_
        | refine wstepN rfl rfl (by dsimp only [putV, List.set]) ?_
      first
        | refine wskipN rfl (by dsimp only [putV, List.set]) ?_
        | refine wstepN rfl (subK (by assumption) rfl rfl) (by dsimp only [putV, List.set]) ?_
        | refine wstepN rfl rfl (by dsimp only [putV, List.set]) ?_
      first
        | refine wskipN rfl (by dsimp only [putV, List.set]) ?_
        | refine wstepN rfl (ev_ix rfl rfl rfl (by assumption) rfl) (by dsimp only [putV, List.set]) ?_
        | refine wstepN rfl rfl (by dsimp only [putV, List.set]) ?_
      first
        | refine wskipN rfl (by dsimp only [putV, List.set]) ?_
        | refine wstepN rfl rfl (by dsimp only [putV, List.set]) ?_
      first
        | refine wskipN rfl (by dsimp only [putV, List.set]) ?_
        | refine wstepN rfl (ldT rfl rfl) (by dsimp only [putV, List.set]) ?_
        | refine wstepN rfl (ldE rfl rfl) (by dsimp only [putV, List.set]) ?_
        | refine wstepN rfl rfl (by dsimp only [putV, List.set]) ?_
      first
        | refine wskipN rfl (by dsimp only [putV, List.set]) ?_
        | refine wstepN rfl (leT (by assumption) rfl rfl) (by dsimp only [putV, List.set]) ?_
        | refine wstepN rfl rfl (by dsimp only [putV, List.set]) ?_
      refine wstepN rfl rfl (by dsimp only [putV, List.set]) ?_
      refine wstepN rfl rfl (by dsimp only [putV, List.set]) ?_
      exact wnil ⟨[0], [0, 1, 5, 38], _, rfl, by decide, floor_ok rfl, rfl, rfl, rfl⟩
  rintro _ _ _ ⟨rfl, rfl, rfl⟩
  simp only [List.replicate, List.set]
  cases b3
  case true =>
    refine Ok.cond (b := true) rfl (fun _ => ?_) (fun h => by cases h)
    rw [show checkP l i f = 25 by
      have : baseF (prevF l i) f = 25 := by rw [baseF, if_neg (by rw [h1]; simp), if_neg (by rw [hb1]; simp), if_neg (by omega), if_pos hb3]
      rw [checkP, this]; rfl]
    exact go 10 rfl ⟨fun _ h => (by cases h), _, rfl, rfl⟩
  refine Ok.cond (b := false) rfl (fun h => by cases h) (fun _ => ?_)
  have hb0 : baseF (prevF l i) f = 0 := by rw [baseF, if_neg (by rw [h1]; simp), if_neg (by rw [hb1]; simp), if_neg (by omega), if_neg (by rw [hb3]; simp)]
  by_cases hr : f.path = [47]
  · have hr' : decide (f.path = [47]) = true := decide_eq_true hr
    rw [show checkP l i f = 0 by rw [checkP, hb0, if_neg (by simp), if_pos hr]]
    refine Ok.seq (Ok.regionW (G := fun _ => true) (C := TabP _) mixed layOk noT TabP_calm (.inl rfl) ?_)
    refine wstepN rfl rfl (by dsimp only [putV, List.set]) ?_
    first
      | refine wstepN rfl (ldT rfl rfl) (by dsimp only [putV, List.set]) ?_
      | refine wstepN rfl (ldE rfl rfl) (by dsimp only [putV, List.set]) ?_
      | refine wstepN rfl rfl (by dsimp only [putV, List.set]) ?_
    first
      | refine wstepN rfl (eqT (by assumption) rfl rfl) (by dsimp only [putV, List.set]) ?_
      | refine wstepN rfl rfl (by dsimp only [putV, List.set]) ?_
    refine wstepN rfl rfl (by dsimp only [putV, List.set]) ?_
    refine wnil (Ok.cond (b := true) rfl (fun _ => ?_) (fun h => by cases h))
    exact go 10 rfl ⟨fun _ h => (by cases h), _, rfl, rfl⟩
  · have hr' : decide (f.path = [47]) = false := decide_eq_false hr
    rw [show checkP l i f = perrP (l.take i) f.path by rw [checkP, hb0, if_neg (by simp), if_neg hr]]
    refine Ok.seq (Ok.regionW (G := fun _ => true) (C := TabP _) mixed layOk noT TabP_calm (.inl rfl) ?_)
    refine wstepN rfl rfl (by dsimp only [putV, List.set]) ?_
    first
      | refine wstepN rfl (ldT rfl rfl) (by dsimp only [putV, List.set]) ?_
      | refine wstepN rfl (ldE rfl rfl) (by dsimp only [putV, List.set]) ?_
      | refine wstepN rfl rfl (by dsimp only [putV, List.set]) ?_
    first
      | refine wstepN rfl (eqT (by assumption) rfl rfl) (by dsimp only [putV, List.set]) ?_
      | refine wstepN rfl rfl (by dsimp only [putV, List.set]) ?_
    refine wstepN rfl rfl (by dsimp only [putV, List.set]) ?_
    refine wnil (Ok.cond (b := false) rfl (fun h => by cases h) (fun _ => ?_))
    refine Ok.skip ?_
    refine Ok.gcE (bs2 := [.cells [T f.path, bV f.dir, T f.data]]) (ts2 := (((List.replicate 62 V.gone).set 0 (.sl (rowsF l))).set 1 (iV (i : Int))).set 5 (.ptr 0 0)) [0] [0, 1, 5] (by kernel_rfl) (by decide) (floor_ok rfl) rfl ?_
    simp only [List.replicate, List.set]
    refine Ok.seq (Ok.regionW (G := fun _ => true) (C := TabP _) mixed layOk hT TabP_calm (.inr ⟨by kernel_rfl, by kernel_rfl⟩) ?_)
    refine wstepN rfl rfl (by dsimp only [putV, List.set]) ?_
    refine wstepN rfl rfl (by dsimp only [putV, List.set]) ?_
    refine wstepN rfl (cutF (b := i) (by omega) rfl rfl rfl) (by dsimp only [putV, List.set]) ?_
    refine wstepN rfl rfl (by dsimp only [putV, List.set]) ?_
    first
      | refine wstepN rfl (ldT rfl rfl) (by dsimp only [putV, List.set]) ?_
      | refine wstepN rfl (ldE rfl rfl) (by dsimp only [putV, List.set]) ?_
      | refine wstepN rfl rfl (by dsimp only [putV, List.set]) ?_
    first
      | refine wstepN rfl (hit43 (by first | assumption | omega)) (by dsimp only [putV, List.set]) ?_
      | refine wstepN rfl (T1_hit) (by dsimp only [putV, List.set]) ?_
      | refine wstepN rfl (TabP_use (by assumption) (by assumption)) (by dsimp only [putV, List.set]) ?_
      | refine wstepN rfl (TabP_hit (fun v' h => by cases h; rfl) (by assumption)) (by dsimp only [putV, List.set]) ?_
      | refine wstepN rfl (TabP_hit (fun v' h => by cases h; rfl) (by constructor)) (by dsimp only [putV, List.set]) ?_
      | refine wstepN rfl rfl (by dsimp only [putV, List.set]) ?_
    refine wstepN rfl rfl (by dsimp only [putV, List.set]) ?_
    refine wnil (Ok.ret ⟨fun _ h => (by cases h), _, rfl, rfl⟩)

theorem firstE_drop {chk : Nat → Fl → Int} {l : List Fl} {k : Nat} {f : Fl} (h : l[k]? = some f) : firstE chk k (l.drop k) = if chk k f ≠ 0 then chk k f else firstE chk (k + 1) (l.drop (k + 1)) := by
  obtain ⟨h1, h2⟩ := List.getElem?_eq_some_iff.1 h
  rw [List.drop_eq_getElem_cons h1, h2, firstE]

inductive P10 (l : List Fl) : FuncId → List V → V → Prop
  | chk (k : Nat) (h : k < l.length) : P10 l 32 [.sl (rowsF l), iV (k : Int)] (iV (checkP l k (l[k]'h)))
theorem P10_u (l : List Fl) : Uniq (P10 l) := fun f vs v v' h h' => by cases h; cases h'; rfl
theorem P10_good (l : List Fl) (hl : l.length ≤ 100000) (hp : ∀ f ∈ l, f.path.length ≤ 10000) : Good Tryd.prog (TabP (P10 l)) := TabP_good fun f vs v h => by
  cases h with
  | chk k h => exact ⟨check32 l k l[k] (List.getElem?_eq_getElem h) hl (hp _ (List.getElem_mem h)), rfl, rfl, Tryd.call32⟩

theorem valid10 (l : List Fl) (hl : l.length ≤ 100000) (hp : ∀ f ∈ l, f.path.length ≤ 10000) : FnOk Tryd.prog 10 [.sl (rowsF l)] [] (fun r bs' => fr bs' r = iV (validB checkP l)) := by
  refine FnOk.fast (Q := fun r => r = iV (validB checkP l)) layOk Tryd.func10 rfl ?_
  have hT := P10_good l hl hp
  have hU := P10_u l
  obtain ⟨N, hN⟩ : ∃ N, l.length = N := ⟨_, rfl⟩
  refine Ok.seq (go 10 rfl ?_)
  refine Ok.seq ?_
  cases h128 : decide ((N : Int) > 128)
  case true =>
    have := of_decide_eq_true h128
    rw [show validB checkP l = 4 by unfold validB; rw [if_pos (by omega)]]
    refine Ok.seq (Ok.regionW (G := fun _ => true) (C := TabP _) mixed layOk noT TabP_calm (.inl rfl) ?_)
    refine wstepN rfl rfl (by dsimp only [putV, List.set]) ?_
    first
      | refine wstepN rfl (lenF hN rfl rfl) (by dsimp only [putV, List.set]) ?_
      | refine wstepN rfl (lenF hM rfl rfl) (by dsimp only [putV, List.set]) ?_
      | refine wstepN rfl (lenF (by assumption) rfl rfl) (by dsimp only [putV, List.set]) ?_
      | refine wstepN rfl rfl (by dsimp only [putV, List.set]) ?_
    first
      | refine wstepN rfl (gtrK h128 rfl rfl) (by dsimp only [putV, List.set]) ?_
      | refine wstepN rfl (gtrK (by assumption) rfl rfl) (by dsimp only [putV, List.set]) ?_
      | refine wstepN rfl rfl (by dsimp only [putV, List.set]) ?_
    refine wnil (Ok.cond (b := true) rfl (fun _ => ?_) (fun h => by cases h))
    exact go 10 rfl ⟨fun _ h => (by cases h), _, rfl, rfl⟩
  have h128' := of_decide_eq_false h128
  refine Ok.seq (Ok.regionW (G := fun _ => true) (C := TabP _) mixed layOk noT TabP_calm (.inl rfl) ?_)
  refine wstepN rfl rfl (by dsimp only [putV, List.set]) ?_
  first
    | refine wstepN rfl (lenF hN rfl rfl) (by dsimp only [putV, List.set]) ?_
    | refine wstepN rfl (lenF hM rfl rfl) (by dsimp only [putV, List.set]) ?_
    | refine wstepN rfl (lenF (by assumption) rfl rfl) (by dsimp only [putV, List.set]) ?_
    | refine wstepN rfl rfl (by dsimp only [putV, List.set]) ?_
  first
    | refine wstepN rfl (gtrK h128 rfl rfl) (by dsimp only [putV, List.set]) ?_
    | refine wstepN rfl (gtrK (by assumption) rfl rfl) (by dsimp only [putV, List.set]) ?_
    | refine wstepN rfl rfl (by dsimp only [putV, List.set]) ?_
  refine wnil (Ok.cond (b := false) rfl (fun h => by cases h) (fun _ => ?_))
  refine Ok.skip ?_
  refine Ok.seq ?_
  cases l with
  | nil =>
    obtain rfl : N = 0 := by simpa using hN.symm
    have h0 : (((0 : Nat) : Int) == 0) = true := rfl
    rw [show validB checkP [] = 8 by rfl]
    refine Ok.seq (Ok.regionW (G := fun _ => true) (C := TabP _) mixed layOk noT TabP_calm (.inl rfl) ?_)
    refine wstepN rfl rfl (by dsimp only [putV, List.set]) ?_
    first
      | refine wstepN rfl (lenF hN rfl rfl) (by dsimp only [putV, List.set]) ?_
      | refine wstepN rfl (lenF hM rfl rfl) (by dsimp only [putV, List.set]) ?_
      | refine wstepN rfl (lenF (by assumption) rfl rfl) (by dsimp only [putV, List.set]) ?_
      | refine wstepN rfl rfl (by dsimp only [putV, List.set]) ?_
    first
      | refine wstepN rfl (eqlK (by assumption) rfl rfl) (by dsimp only [putV, List.set]) ?_
      | refine wstepN rfl rfl (by dsimp only [putV, List.set]) ?_
    refine wstepN rfl rfl (by dsimp only [putV, List.set]) ?_
    first
      | refine wskipN rfl (by dsimp only [putV, List.set]) ?_
      | refine wstepN rfl rfl (by dsimp only [putV, List.set]) ?_
    first
      | refine wskipN rfl (by dsimp only [putV, List.set]) ?_
      | refine wstepN rfl (ev_ix rfl rfl rfl (by assumption) rfl) (by dsimp only [putV, List.set]) ?_
      | refine wstepN rfl rfl (by dsimp only [putV, List.set]) ?_
    first
      | refine wskipN rfl (by dsimp only [putV, List.set]) ?_
      | refine wstepN rfl rfl (by dsimp only [putV, List.set]) ?_
    first
      | refine wskipN rfl (by dsimp only [putV, List.set]) ?_
      | refine wstepN rfl (ldT rfl rfl) (by dsimp only [putV, List.set]) ?_
      | refine wstepN rfl (ldE rfl rfl) (by dsimp only [putV, List.set]) ?_
      | refine wstepN rfl rfl (by dsimp only [putV, List.set]) ?_
    first
      | refine wskipN rfl (by dsimp only [putV, List.set]) ?_
      | refine wstepN rfl (neqT (by assumption) rfl rfl) (by dsimp only [putV, List.set]) ?_
      | refine wstepN rfl rfl (by dsimp only [putV, List.set]) ?_
    refine wstepN rfl rfl (by dsimp only [putV, List.set]) ?_
    refine wnil (Ok.cond (b := true) rfl (fun _ => ?_) (fun h => by cases h))
    exact go 10 rfl ⟨fun _ h => (by cases h), _, rfl, rfl⟩
  | cons f0 r =>
    have hN' : 0 < N := by rw [← hN]; simp
    have h0 : ((N : Int) == 0) = false := by simp; omega
    have hget : (rowsF (f0 :: r))[0]? = some (rowF f0) := rfl
    cases h47 : decide (f0.path = [47])
    · have := of_decide_eq_false h47
      rw [show validB checkP (f0 :: r) = 8 by unfold validB; rw [if_neg (by omega)]; simp [this]]
      refine Ok.seq (Ok.regionW (G := fun _ => true) (C := TabP _) mixed layOk noT TabP_calm (.inl rfl) ?_)
      refine wstepN rfl rfl (by dsimp only [putV, List.set]) ?_
      first
        | refine wstepN rfl (lenF hN rfl rfl) (by dsimp only [putV, List.set]) ?_
        | refine wstepN rfl (lenF hM rfl rfl) (by dsimp only [putV, List.set]) ?_
        | refine wstepN rfl (lenF (by assumption) rfl rfl) (by dsimp only [putV, List.set]) ?_
        | refine wstepN rfl rfl (by dsimp only [putV, List.set]) ?_
      first
        | refine wstepN rfl (eqlK (by assumption) rfl rfl) (by dsimp only [putV, List.set]) ?_
        | refine wstepN rfl rfl (by dsimp only [putV, List.set]) ?_
      refine wstepN rfl rfl (by dsimp only [putV, List.set]) ?_
      first
        | refine wskipN rfl (by dsimp only [putV, List.set]) ?_
        | refine wstepN rfl rfl (by dsimp only [putV, List.set]) ?_
      refine wstepN rfl (ev_ix (z := 0) rfl rfl rfl hget rfl) (by dsimp only [putV, List.set]) ?_
      first
        | refine wskipN rfl (by dsimp only [putV, List.set]) ?_
        | refine wstepN rfl rfl (by dsimp only [putV, List.set]) ?_
      first
        | refine wskipN rfl (by dsimp only [putV, List.set]) ?_
        | refine wstepN rfl (ldT rfl rfl) (by dsimp only [putV, List.set]) ?_
        | refine wstepN rfl (ldE rfl rfl) (by dsimp only [putV, List.set]) ?_
        | refine wstepN rfl rfl (by dsimp only [putV, List.set]) ?_
      first
        | refine wskipN rfl (by dsimp only [putV, List.set]) ?_
        | refine wstepN rfl (neqT (by assumption) rfl rfl) (by dsimp only [putV, List.set]) ?_
        | refine wstepN rfl rfl (by dsimp only [putV, List.set]) ?_
      refine wstepN rfl rfl (by dsimp only [putV, List.set]) ?_
      refine wnil (Ok.cond (b := true) rfl (fun _ => ?_) (fun h => by cases h))
      exact go 10 rfl ⟨fun _ h => (by cases h), _, rfl, rfl⟩
    · have := of_decide_eq_true h47
      rw [show validB checkP (f0 :: r) = firstE (checkP (f0 :: r)) 0 (f0 :: r) by unfold validB; rw [if_neg (by omega)]; simp [this]]
      refine Ok.seq (Ok.regionW (G := fun _ => true) (C := TabP _) mixed layOk noT TabP_calm (.inl rfl) ?_)
      refine wstepN rfl rfl (by dsimp only [putV, List.set]) ?_
      first
        | refine wstepN rfl (lenF hN rfl rfl) (by dsimp only [putV, List.set]) ?_
        | refine wstepN rfl (lenF hM rfl rfl) (by dsimp only [putV, List.set]) ?_
        | refine wstepN rfl (lenF (by assumption) rfl rfl) (by dsimp only [putV, List.set]) ?_
        | refine wstepN rfl rfl (by dsimp only [putV, List.set]) ?_
      first
        | refine wstepN rfl (eqlK (by assumption) rfl rfl) (by dsimp only [putV, List.set]) ?_
        | refine wstepN rfl rfl (by dsimp only [putV, List.set]) ?_
      refine wstepN rfl rfl (by dsimp only [putV, List.set]) ?_
      first
        | refine wskipN rfl (by dsimp only [putV, List.set]) ?_
        | refine wstepN rfl rfl (by dsimp only [putV, List.set]) ?_
      refine wstepN rfl (ev_ix (z := 0) rfl rfl rfl hget rfl) (by dsimp only [putV, List.set]) ?_
      first
        | refine wskipN rfl (by dsimp only [putV, List.set]) ?_
        | refine wstepN rfl rfl (by dsimp only [putV, List.set]) ?_
      first
        | refine wskipN rfl (by dsimp only [putV, List.set]) ?_
        | refine wstepN rfl (ldT rfl rfl) (by dsimp only [putV, List.set]) ?_
        | refine wstepN rfl (ldE rfl rfl) (by dsimp only [putV, List.set]) ?_
        | refine wstepN rfl rfl (by dsimp only [putV, List.set]) ?_
      first
        | refine wskipN rfl (by dsimp only [putV, List.set]) ?_
        | refine wstepN rfl (neqT (by assumption) rfl rfl) (by dsimp only [putV, List.set]) ?_
        | refine wstepN rfl rfl (by dsimp only [putV, List.set]) ?_
      refine wstepN rfl rfl (by dsimp only [putV, List.set]) ?_
      refine wnil (Ok.cond (b := false) rfl (fun h => by cases h) (fun _ => ?_))
      refine Ok.skip ?_
      generalize f0 :: r = l at *
      refine Ok.seq (Ok.seq ?_)
      refine Ok.regionW (G := fun _ => true) (C := TabP _) mixed layOk noT TabP_calm (.inl rfl) ?_
      refine wstepN rfl rfl (by dsimp only [putV, List.set]) ?_
      first
        | refine wstepN rfl (lenF hN rfl rfl) (by dsimp only [putV, List.set]) ?_
        | refine wstepN rfl (lenF hM rfl rfl) (by dsimp only [putV, List.set]) ?_
        | refine wstepN rfl (lenF (by assumption) rfl rfl) (by dsimp only [putV, List.set]) ?_
        | refine wstepN rfl rfl (by dsimp only [putV, List.set]) ?_
      refine wstepN rfl rfl (by dsimp only [putV, List.set]) ?_
      refine wnil ?_
      refine Ok.gc (bs2 := []) [] [0, 19, 20] (by kernel_rfl) (by decide) (floor_ok rfl) ?_
      refine Ok.count N (fun k ts bs => firstE (checkP l) 0 l = firstE (checkP l) k (l.drop k) ∧ k ≤ N ∧ bs = [] ∧ ts = (((List.replicate 30 V.gone).set 0 (.sl (rowsF l))).set 19 (iV (N : Int))).set 20 (iV (k : Int))) ?_ ?_
      · exact ⟨rfl, Nat.zero_le _, rfl, rfl⟩
      rintro k _ _ ⟨hfi, hk, rfl, rfl⟩
      simp only [List.replicate, List.set]
      cases hlt : decide (k < N)
      · have hge := of_decide_eq_false hlt
        rw [List.drop_of_length_le (by omega), firstE] at hfi
        rw [hfi]
        refine Ok.seq (Ok.regionW (G := fun _ => true) (C := TabP _) mixed layOk noT TabP_calm (.inl rfl) ?_)
        first
          | refine wstepN rfl (ltT hlt rfl rfl) (by dsimp only [putV, List.set]) ?_
          | refine wstepN rfl (ltT (by assumption) rfl rfl) (by dsimp only [putV, List.set]) ?_
          | refine wstepN rfl (lssK (by assumption) rfl rfl) (by dsimp only [putV, List.set]) ?_
          | refine wstepN rfl rfl (by dsimp only [putV, List.set]) ?_
        refine wnil (Ok.seq (Ok.cond (b := false) rfl (fun h => by cases h) (fun _ => ?_)))
        refine Ok.exit ?_
        exact go 10 rfl ⟨fun _ h => (by cases h), _, rfl, rfl⟩
      · have hlt' : k < N := of_decide_eq_true hlt
        have hkl : k < l.length := by omega
        have hck : P10 l 32 [.sl (rowsF l), iV (k : Int)] (iV (checkP l k l[k])) := .chk k hkl
        rw [firstE_drop (List.getElem?_eq_getElem hkl)] at hfi
        generalize checkP l k l[k] = e at hck hfi
        refine Ok.seq (Ok.regionW (G := fun _ => true) (C := TabP _) mixed layOk noT TabP_calm (.inl rfl) ?_)
        first
          | refine wstepN rfl (ltT hlt rfl rfl) (by dsimp only [putV, List.set]) ?_
          | refine wstepN rfl (ltT (by assumption) rfl rfl) (by dsimp only [putV, List.set]) ?_
          | refine wstepN rfl (lssK (by assumption) rfl rfl) (by dsimp only [putV, List.set]) ?_
          | refine wstepN rfl rfl (by dsimp only [putV, List.set]) ?_
        refine wnil (Ok.seq (Ok.cond (b := true) rfl (fun _ => ?_) (fun h => by cases h)))
        refine Ok.skip ?_
        refine Ok.after (Ok.seq (Ok.block ?_))
        refine Ok.seq (Ok.regionW (G := fun _ => true) (C := TabP _) mixed layOk noT TabP_calm (.inl rfl) ?_)
        refine wstepN rfl rfl (by dsimp only [putV, List.set]) ?_
        refine wstepN rfl rfl (by dsimp only [putV, List.set]) ?_
        refine wnil ?_
        refine Ok.seq (Ok.regionW (G := fun _ => true) (C := TabP _) mixed layOk hT TabP_calm (.inl rfl) ?_)
        refine wstepN rfl rfl (by dsimp only [putV, List.set]) ?_
        refine wstepN rfl rfl (by dsimp only [putV, List.set]) ?_
        first
          | refine wstepN rfl (hit32 (by first | assumption | omega)) (by dsimp only [putV, List.set]) ?_
          | refine wstepN rfl (T1_hit) (by dsimp only [putV, List.set]) ?_
          | refine wstepN rfl (TabP_use (by assumption) (by assumption)) (by dsimp only [putV, List.set]) ?_
          | refine wstepN rfl (TabP_hit (fun v' h => by cases h; rfl) (by assumption)) (by dsimp only [putV, List.set]) ?_
          | refine wstepN rfl (TabP_hit (fun v' h => by cases h; rfl) (by constructor)) (by dsimp only [putV, List.set]) ?_
          | refine wstepN rfl rfl (by dsimp only [putV, List.set]) ?_
        refine wstepN rfl rfl (by dsimp only [putV, List.set]) ?_
        refine wnil ?_
        refine Ok.seq ?_
        by_cases he : e = 0
        · have hq : (e != 0) = false := by simpa using he
          rw [if_neg (by simpa using he)] at hfi
          refine Ok.regionW (G := fun _ => true) (C := TabP _) mixed layOk noT TabP_calm (.inl rfl) ?_
          refine wstepN rfl rfl (by dsimp only [putV, List.set]) ?_
          first
            | refine wstepN rfl (neqK (by assumption) rfl rfl) (by dsimp only [putV, List.set]) ?_
            | refine wstepN rfl rfl (by dsimp only [putV, List.set]) ?_
          refine wnil (Ok.cond (b := false) rfl (fun h => by cases h) (fun _ => ?_))
          refine Ok.skip ?_
          refine Ok.regionW (G := fun _ => true) (C := TabP _) mixed layOk noT TabP_calm (.inl rfl) ?_
          first
            | refine wstepN rfl (incT (by omega) rfl rfl) (by dsimp only [putV, List.set]) ?_
            | refine wstepN rfl (addK (by assumption) rfl rfl) (by dsimp only [putV, List.set]) ?_
            | refine wstepN rfl rfl (by dsimp only [putV, List.set]) ?_
          refine wstepN rfl rfl (by dsimp only [putV, List.set]) ?_
          refine wnil ⟨[], [0, 19, 20], [], by kernel_rfl, by decide, floor_ok rfl, hlt', hfi, hlt', rfl, rfl⟩
        · have hq : (e != 0) = true := by simpa using he
          rw [if_pos he] at hfi
          rw [hfi]
          refine Ok.regionW (G := fun _ => true) (C := TabP _) mixed layOk noT TabP_calm (.inl rfl) ?_
          refine wstepN rfl rfl (by dsimp only [putV, List.set]) ?_
          first
            | refine wstepN rfl (neqK (by assumption) rfl rfl) (by dsimp only [putV, List.set]) ?_
            | refine wstepN rfl rfl (by dsimp only [putV, List.set]) ?_
          refine wnil (Ok.cond (b := true) rfl (fun _ => ?_) (fun h => by cases h))
          refine Ok.seq (Ok.regionW (G := fun _ => true) (C := TabP _) mixed layOk noT TabP_calm (.inl rfl) ?_)
          refine wstepN rfl rfl (by dsimp only [putV, List.set]) ?_
          refine wstepN rfl rfl (by dsimp only [putV, List.set]) ?_
          refine wnil (Ok.ret ?_)
          exact ⟨[], [2], [], by kernel_rfl, by decide, floor_ok rfl, fun _ h => (by cases h), _, rfl, rfl⟩

end Go.Proofs.YtiefcnghjcafbaaDoorV

/- Lists of files: the reference's Valid; the law FilesValid over plain values. -/
namespace Go.Proofs.YtiefcnghjcafbaaDoorV
open Go Go.RowKit Go.Proofs.YtiefcnghjcafbaaDoor
set_option maxRecDepth 20000
set_option maxHeartbeats 1000000

inductive P11 (m : List Fl) (p : List UInt8) : FuncId → List V → V → Prop
  | path : P11 m p 18 [T p] (bV (pathB p))
  | perr : P11 m p 33 [.sl (rowsF m), T p] (iV (perrR m p))
theorem P11_u (m : List Fl) (p : List UInt8) : Uniq (P11 m p) := fun f vs v v' h h' => by cases h <;> cases h' <;> rfl
theorem P11_good (m : List Fl) (p : List UInt8) (hm : m.length ≤ 100000) (hp : p.length ≤ 10000) : Good Tryd.prog (TabP (P11 m p)) := TabP_good fun f vs v h => by
  cases h with
  | path => exact ⟨rpath18 p, rfl, rfl, Tryd.call18⟩
  | perr => exact ⟨rperr33 m p hm hp, rfl, rfl, Tryd.call33⟩

theorem rvalid11 (l : List Fl) (hl : l.length ≤ 100000) (hp : ∀ f ∈ l, f.path.length ≤ 10000) : FnOk Tryd.prog 11 [.sl (rowsF l)] [] (fun r bs' => fr bs' r = iV (validB checkR l)) := by
  refine FnOk.fast (Q := fun r => r = iV (validB checkR l)) layOk Tryd.func11 rfl ?_
  obtain ⟨N, hN⟩ : ∃ N, l.length = N := ⟨_, rfl⟩
  refine Ok.seq (go 10 rfl ?_)
  refine Ok.seq ?_
  cases h128 : decide ((N : Int) > 128)
  case true =>
    have := of_decide_eq_true h128
    rw [show validB checkR l = 4 by unfold validB; rw [if_pos (by omega)]]
    refine Ok.seq (Ok.regionW (G := fun _ => true) (C := TabP _) mixed layOk noT TabP_calm (.inl rfl) ?_)
    refine wstepN rfl rfl (by dsimp only [putV, List.set]) ?_
    first
      | refine wstepN rfl (lenF hN rfl rfl) (by dsimp only [putV, List.set]) ?_
      | refine wstepN rfl (lenF hM rfl rfl) (by dsimp only [putV, List.set]) ?_
      | refine wstepN rfl (lenF (by assumption) rfl rfl) (by dsimp only [putV, List.set]) ?_
      | refine wstepN rfl rfl (by dsimp only [putV, List.set]) ?_
    first
      | refine wstepN rfl (gtrK h128 rfl rfl) (by dsimp only [putV, List.set]) ?_
      | refine wstepN rfl (gtrK (by assumption) rfl rfl) (by dsimp only [putV, List.set]) ?_
      | refine wstepN rfl rfl (by dsimp only [putV, List.set]) ?_
    refine wnil (Ok.cond (b := true) rfl (fun _ => ?_) (fun h => by cases h))
    exact go 10 rfl ⟨fun _ h => (by cases h), _, rfl, rfl⟩
  have h128' := of_decide_eq_false h128
  refine Ok.seq (Ok.regionW (G := fun _ => true) (C := TabP _) mixed layOk noT TabP_calm (.inl rfl) ?_)
  refine wstepN rfl rfl (by dsimp only [putV, List.set]) ?_
  first
    | refine wstepN rfl (lenF hN rfl rfl) (by dsimp only [putV, List.set]) ?_
    | refine wstepN rfl (lenF hM rfl rfl) (by dsimp only [putV, List.set]) ?_
    | refine wstepN rfl (lenF (by assumption) rfl rfl) (by dsimp only [putV, List.set]) ?_
    | refine wstepN rfl rfl (by dsimp only [putV, List.set]) ?_
  first
    | refine wstepN rfl (gtrK h128 rfl rfl) (by dsimp only [putV, List.set]) ?_
    | refine wstepN rfl (gtrK (by assumption) rfl rfl) (by dsimp only [putV, List.set]) ?_
    | refine wstepN rfl rfl (by dsimp only [putV, List.set]) ?_
  refine wnil (Ok.cond (b := false) rfl (fun h => by cases h) (fun _ => ?_))
  refine Ok.skip ?_
  refine Ok.seq ?_
  cases l with
  | nil =>
    obtain rfl : N = 0 := by simpa using hN.symm
    have h0 : (((0 : Nat) : Int) == 0) = true := rfl
    rw [show validB checkR [] = 8 by rfl]
    refine Ok.seq (Ok.regionW (G := fun _ => true) (C := TabP _) mixed layOk noT TabP_calm (.inl rfl) ?_)
    refine wstepN rfl rfl (by dsimp only [putV, List.set]) ?_
    first
      | refine wstepN rfl (lenF hN rfl rfl) (by dsimp only [putV, List.set]) ?_
      | refine wstepN rfl (lenF hM rfl rfl) (by dsimp only [putV, List.set]) ?_
      | refine wstepN rfl (lenF (by assumption) rfl rfl) (by dsimp only [putV, List.set]) ?_
      | refine wstepN rfl rfl (by dsimp only [putV, List.set]) ?_
    first
      | refine wstepN rfl (eqlK (by assumption) rfl rfl) (by dsimp only [putV, List.set]) ?_
      | refine wstepN rfl rfl (by dsimp only [putV, List.set]) ?_
    refine wstepN rfl rfl (by dsimp only [putV, List.set]) ?_
    first
      | refine wskipN rfl (by dsimp only [putV, List.set]) ?_
      | refine wstepN rfl rfl (by dsimp only [putV, List.set]) ?_
    first
      | refine wskipN rfl (by dsimp only [putV, List.set]) ?_
      | refine wstepN rfl (ev_ix rfl rfl rfl (by assumption) rfl) (by dsimp only [putV, List.set]) ?_
      | refine wstepN rfl rfl (by dsimp only [putV, List.set]) ?_
    first
      | refine wskipN rfl (by dsimp only [putV, List.set]) ?_
      | refine wstepN rfl rfl (by dsimp only [putV, List.set]) ?_
    first
      | refine wskipN rfl (by dsimp only [putV, List.set]) ?_
      | refine wstepN rfl (ldT rfl rfl) (by dsimp only [putV, List.set]) ?_
      | refine wstepN rfl (ldE rfl rfl) (by dsimp only [putV, List.set]) ?_
      | refine wstepN rfl rfl (by dsimp only [putV, List.set]) ?_
    first
      | refine wskipN rfl (by dsimp only [putV, List.set]) ?_
      | refine wstepN rfl (neqT (by assumption) rfl rfl) (by dsimp only [putV, List.set]) ?_
      | refine wstepN rfl rfl (by dsimp only [putV, List.set]) ?_
    refine wstepN rfl rfl (by dsimp only [putV, List.set]) ?_
    refine wnil (Ok.cond (b := true) rfl (fun _ => ?_) (fun h => by cases h))
    exact go 10 rfl ⟨fun _ h => (by cases h), _, rfl, rfl⟩
  | cons f0 r =>
    have hN' : 0 < N := by rw [← hN]; simp
    have h0 : ((N : Int) == 0) = false := by simp; omega
    have hget0 : (rowsF (f0 :: r))[0]? = some (rowF f0) := rfl
    cases h47 : decide (f0.path = [47])
    · have := of_decide_eq_false h47
      rw [show validB checkR (f0 :: r) = 8 by unfold validB; rw [if_neg (by omega)]; simp [this]]
      refine Ok.seq (Ok.regionW (G := fun _ => true) (C := TabP _) mixed layOk noT TabP_calm (.inl rfl) ?_)
      refine wstepN rfl rfl (by dsimp only [putV, List.set]) ?_
      first
        | refine wstepN rfl (lenF hN rfl rfl) (by dsimp only [putV, List.set]) ?_
        | refine wstepN rfl (lenF hM rfl rfl) (by dsimp only [putV, List.set]) ?_
        | refine wstepN rfl (lenF (by assumption) rfl rfl) (by dsimp only [putV, List.set]) ?_
        | refine wstepN rfl rfl (by dsimp only [putV, List.set]) ?_
      first
        | refine wstepN rfl (eqlK (by assumption) rfl rfl) (by dsimp only [putV, List.set]) ?_
        | refine wstepN rfl rfl (by dsimp only [putV, List.set]) ?_
      refine wstepN rfl rfl (by dsimp only [putV, List.set]) ?_
      first
        | refine wskipN rfl (by dsimp only [putV, List.set]) ?_
        | refine wstepN rfl rfl (by dsimp only [putV, List.set]) ?_
      refine wstepN rfl (ev_ix (z := 0) rfl rfl rfl hget0 rfl) (by dsimp only [putV, List.set]) ?_
      first
        | refine wskipN rfl (by dsimp only [putV, List.set]) ?_
        | refine wstepN rfl rfl (by dsimp only [putV, List.set]) ?_
      first
        | refine wskipN rfl (by dsimp only [putV, List.set]) ?_
        | refine wstepN rfl (ldT rfl rfl) (by dsimp only [putV, List.set]) ?_
        | refine wstepN rfl (ldE rfl rfl) (by dsimp only [putV, List.set]) ?_
        | refine wstepN rfl rfl (by dsimp only [putV, List.set]) ?_
      first
        | refine wskipN rfl (by dsimp only [putV, List.set]) ?_
        | refine wstepN rfl (neqT (by assumption) rfl rfl) (by dsimp only [putV, List.set]) ?_
        | refine wstepN rfl rfl (by dsimp only [putV, List.set]) ?_
      refine wstepN rfl rfl (by dsimp only [putV, List.set]) ?_
      refine wnil (Ok.cond (b := true) rfl (fun _ => ?_) (fun h => by cases h))
      exact go 10 rfl ⟨fun _ h => (by cases h), _, rfl, rfl⟩
    · have := of_decide_eq_true h47
      rw [show validB checkR (f0 :: r) = firstE (checkR (f0 :: r)) 0 (f0 :: r) by unfold validB; rw [if_neg (by omega)]; simp [this]]
      refine Ok.seq (Ok.regionW (G := fun _ => true) (C := TabP _) mixed layOk noT TabP_calm (.inl rfl) ?_)
      refine wstepN rfl rfl (by dsimp only [putV, List.set]) ?_
      first
        | refine wstepN rfl (lenF hN rfl rfl) (by dsimp only [putV, List.set]) ?_
        | refine wstepN rfl (lenF hM rfl rfl) (by dsimp only [putV, List.set]) ?_
        | refine wstepN rfl (lenF (by assumption) rfl rfl) (by dsimp only [putV, List.set]) ?_
        | refine wstepN rfl rfl (by dsimp only [putV, List.set]) ?_
      first
        | refine wstepN rfl (eqlK (by assumption) rfl rfl) (by dsimp only [putV, List.set]) ?_
        | refine wstepN rfl rfl (by dsimp only [putV, List.set]) ?_
      refine wstepN rfl rfl (by dsimp only [putV, List.set]) ?_
      first
        | refine wskipN rfl (by dsimp only [putV, List.set]) ?_
        | refine wstepN rfl rfl (by dsimp only [putV, List.set]) ?_
      refine wstepN rfl (ev_ix (z := 0) rfl rfl rfl hget0 rfl) (by dsimp only [putV, List.set]) ?_
      first
        | refine wskipN rfl (by dsimp only [putV, List.set]) ?_
        | refine wstepN rfl rfl (by dsimp only [putV, List.set]) ?_
      first
        | refine wskipN rfl (by dsimp only [putV, List.set]) ?_
        | refine wstepN rfl (ldT rfl rfl) (by dsimp only [putV, List.set]) ?_
        | refine wstepN rfl (ldE rfl rfl) (by dsimp only [putV, List.set]) ?_
        | refine wstepN rfl rfl (by dsimp only [putV, List.set]) ?_
      first
        | refine wskipN rfl (by dsimp only [putV, List.set]) ?_
        | refine wstepN rfl (neqT (by assumption) rfl rfl) (by dsimp only [putV, List.set]) ?_
        | refine wstepN rfl rfl (by dsimp only [putV, List.set]) ?_
      refine wstepN rfl rfl (by dsimp only [putV, List.set]) ?_
      refine wnil (Ok.cond (b := false) rfl (fun h => by cases h) (fun _ => ?_))
      refine Ok.skip ?_
      clear hget0 h47 this h0
      generalize f0 :: r = l at *
      refine Ok.seq (Ok.seq (go 10 rfl ?_))
      refine Ok.gc (bs2 := []) [] [0, 3] (by kernel_rfl) (by decide) (floor_ok rfl) ?_
      refine Ok.count N (fun k ts bs => firstE (checkR l) 0 l = firstE (checkR l) k (l.drop k) ∧ k ≤ N ∧ bs = [] ∧ ts = ((List.replicate 78 V.gone).set 0 (.sl (rowsF l))).set 3 (iV (k : Int))) ?_ ?_
      · exact ⟨rfl, Nat.zero_le _, rfl, rfl⟩
      rintro i _ _ ⟨hfi, hk, rfl, rfl⟩
      simp only [List.replicate, List.set]
      refine Ok.seq (Ok.seq ?_)
      cases hlt : decide (i < N)
      · have hge := of_decide_eq_false hlt
        rw [List.drop_of_length_le (by omega), firstE] at hfi
        rw [hfi]
        refine Ok.regionW (G := fun _ => true) (C := TabP _) mixed layOk noT TabP_calm (.inl rfl) ?_
        refine wstepN rfl rfl (by dsimp only [putV, List.set]) ?_
        refine wstepN rfl rfl (by dsimp only [putV, List.set]) ?_
        first
          | refine wstepN rfl (lenF hN rfl rfl) (by dsimp only [putV, List.set]) ?_
          | refine wstepN rfl (lenF hM rfl rfl) (by dsimp only [putV, List.set]) ?_
          | refine wstepN rfl (lenF (by assumption) rfl rfl) (by dsimp only [putV, List.set]) ?_
          | refine wstepN rfl rfl (by dsimp only [putV, List.set]) ?_
        first
          | refine wstepN rfl (ltT hlt rfl rfl) (by dsimp only [putV, List.set]) ?_
          | refine wstepN rfl (ltT (by assumption) rfl rfl) (by dsimp only [putV, List.set]) ?_
          | refine wstepN rfl (lssK (by assumption) rfl rfl) (by dsimp only [putV, List.set]) ?_
          | refine wstepN rfl rfl (by dsimp only [putV, List.set]) ?_
        refine wnil (Ok.cond (b := false) rfl (fun h => by cases h) (fun _ => ?_))
        refine Ok.exit ?_
        exact go 10 rfl ⟨fun _ h => (by cases h), _, rfl, rfl⟩
      have hlt' : i < N := of_decide_eq_true hlt
      obtain ⟨f, hi⟩ : ∃ f, l[i]? = some f := ⟨_, List.getElem?_eq_getElem (by omega)⟩
      have hget := rowsF_at hi
      have hpl := hp f (List.mem_of_getElem? hi)
      have hT := P11_good (l.take i) f.path (by simp; omega) hpl
      have hU := P11_u (l.take i) f.path
      have hpa : P11 (l.take i) f.path 18 [T f.path] (bV (pathB f.path)) := .path
      have hpe : P11 (l.take i) f.path 33 [.sl (rowsF (l.take i)), T f.path] (iV (perrR (l.take i) f.path)) := .perr
      rw [firstE_drop hi] at hfi
      refine Ok.regionW (G := fun _ => true) (C := TabP _) mixed layOk noT TabP_calm (.inl rfl) ?_
      refine wstepN rfl rfl (by dsimp only [putV, List.set]) ?_
      refine wstepN rfl rfl (by dsimp only [putV, List.set]) ?_
      first
        | refine wstepN rfl (lenF hN rfl rfl) (by dsimp only [putV, List.set]) ?_
        | refine wstepN rfl (lenF hM rfl rfl) (by dsimp only [putV, List.set]) ?_
        | refine wstepN rfl (lenF (by assumption) rfl rfl) (by dsimp only [putV, List.set]) ?_
        | refine wstepN rfl rfl (by dsimp only [putV, List.set]) ?_
      first
        | refine wstepN rfl (ltT hlt rfl rfl) (by dsimp only [putV, List.set]) ?_
        | refine wstepN rfl (ltT (by assumption) rfl rfl) (by dsimp only [putV, List.set]) ?_
        | refine wstepN rfl (lssK (by assumption) rfl rfl) (by dsimp only [putV, List.set]) ?_
        | refine wstepN rfl rfl (by dsimp only [putV, List.set]) ?_
      refine wnil (Ok.cond (b := true) rfl (fun _ => ?_) (fun h => by cases h))
      refine Ok.skip ?_
      refine Ok.after (Ok.seq (Ok.block ?_))
      refine Ok.seq (Ok.regionW (G := fun _ => true) (C := TabP _) mixed layOk noT TabP_calm (.inl rfl) ?_)
      refine wstepN rfl rfl (by dsimp only [putV, List.set]) ?_
      refine wstepN rfl rfl (by dsimp only [putV, List.set]) ?_
      first
        | refine wstepN rfl (ev_ix rfl rfl rfl (by assumption) rfl) (by dsimp only [putV, List.set]) ?_
        | refine wstepN rfl rfl (by dsimp only [putV, List.set]) ?_
      first
        | refine wstepN rfl (ldF rfl rfl) (by dsimp only [putV, List.set]) ?_
        | refine wstepN rfl rfl (by dsimp only [putV, List.set]) ?_
      refine wstepN rfl rfl (by dsimp only [putV, List.set]) ?_
      refine wstepN rfl rfl (by dsimp only [putV, List.set]) ?_
      refine wnil ?_
      refine Ok.gcE (bs2 := [.cells [T f.path, bV f.dir, T f.data]]) (ts2 := (((List.replicate 78 V.gone).set 0 (.sl (rowsF l))).set 3 (iV (i : Int))).set 4 (.ptr 0 0)) [0] [0, 3, 4] (by kernel_rfl) (by decide) (floor_ok rfl) rfl ?_
      simp only [List.replicate, List.set]
      refine Ok.seq (Ok.seq ?_)
      refine Ok.regionW (G := fun _ => true) (C := TabP _) mixed layOk hT TabP_calm (.inl rfl) ?_
      refine wstepN rfl rfl (by dsimp only [putV, List.set]) ?_
      first
        | refine wstepN rfl (ldT rfl rfl) (by dsimp only [putV, List.set]) ?_
        | refine wstepN rfl (ldE rfl rfl) (by dsimp only [putV, List.set]) ?_
        | refine wstepN rfl rfl (by dsimp only [putV, List.set]) ?_
      first
        | refine wstepN rfl (hit18 (by first | assumption | omega)) (by dsimp only [putV, List.set]) ?_
        | refine wstepN rfl (T1_hit) (by dsimp only [putV, List.set]) ?_
        | refine wstepN rfl (TabP_use (by assumption) (by assumption)) (by dsimp only [putV, List.set]) ?_
        | refine wstepN rfl (TabP_hit (fun v' h => by cases h; rfl) (by assumption)) (by dsimp only [putV, List.set]) ?_
        | refine wstepN rfl (TabP_hit (fun v' h => by cases h; rfl) (by constructor)) (by dsimp only [putV, List.set]) ?_
        | refine wstepN rfl rfl (by dsimp only [putV, List.set]) ?_
      refine wstepN rfl rfl (by dsimp only [putV, List.set]) ?_
      cases h1 : pathB f.path
      · refine wnil (Ok.cond (b := true) rfl (fun _ => ?_) (fun h => by cases h))
        have hc : checkR l i f = 10 := by
          have : baseF (prevF l i) f = 10 := by rw [baseF, if_pos h1]
          rw [checkR, this]; rfl
        rw [hc, if_pos (by simp)] at hfi
        rw [hfi]
        refine Ok.seq (Ok.regionW (G := fun _ => true) (C := TabP _) mixed layOk noT TabP_calm (.inl rfl) ?_)
        refine wstepN rfl rfl (by dsimp only [putV, List.set]) ?_
        refine wnil (Ok.ret ?_)
        exact ⟨[], [2], [], by kernel_rfl, by decide, floor_ok rfl, fun _ h => (by cases h), _, rfl, rfl⟩
      refine wnil (Ok.cond (b := false) rfl (fun h => by cases h) (fun _ => ?_))
      refine Ok.skip ?_
      obtain ⟨b1, hb1⟩ : ∃ b1, ((f.dir && !decide (f.data = [])) || (decide (f.path = [47]) && !f.dir)) = b1 := ⟨_, rfl⟩
      refine Ok.seq (Ok.seq (Ok.mono (Q := fun e ts bs => e = .normal ∧ bs = [.cells [T f.path, bV f.dir, T f.data]] ∧ ts = ((((List.replicate 78 V.gone).set 0 (.sl (rowsF l))).set 3 (iV (i : Int))).set 4 (.ptr 0 0)).set 49 (bV b1)) (Ok.after ?_) ?_))
      · subst hb1
        cases hd : f.dir <;> cases hx : decide (f.data = []) <;> cases hr : decide (f.path = [47])
        all_goals
          refine Ok.regionW (G := fun _ => true) (C := TabP _) mixed layOk noT TabP_calm (.inl rfl) ?_
          refine wstepN rfl rfl (by dsimp only [putV, List.set]) ?_
          refine wstepN rfl rfl (by dsimp only [putV, List.set]) ?_
          refine wstepN rfl rfl (by dsimp only [putV, List.set]) ?_
          first
            | refine wskipN rfl (by dsimp only [putV, List.set]) ?_
            | refine wstepN rfl rfl (by dsimp only [putV, List.set]) ?_
          first
            | refine wskipN rfl (by dsimp only [putV, List.set]) ?_
            | refine wstepN rfl (ldT rfl rfl) (by dsimp only [putV, List.set]) ?_
            | refine wstepN rfl (ldE rfl rfl) (by dsimp only [putV, List.set]) ?_
            | refine wstepN rfl rfl (by dsimp only [putV, List.set]) ?_
          first
            | refine wskipN rfl (by dsimp only [putV, List.set]) ?_
            | refine wstepN rfl (neqT (by assumption) rfl rfl) (by dsimp only [putV, List.set]) ?_
            | refine wstepN rfl rfl (by dsimp only [putV, List.set]) ?_
          refine wstepN rfl rfl (by dsimp only [putV, List.set]) ?_
          refine wstepN rfl rfl (by dsimp only [putV, List.set]) ?_
          first
            | refine wskipN rfl (by dsimp only [putV, List.set]) ?_
            | refine wstepN rfl rfl (by dsimp only [putV, List.set]) ?_
          first
            | refine wskipN rfl (by dsimp only [putV, List.set]) ?_
            | refine wstepN rfl (ldT rfl rfl) (by dsimp only [putV, List.set]) ?_
            | refine wstepN rfl (ldE rfl rfl) (by dsimp only [putV, List.set]) ?_
            | refine wstepN rfl rfl (by dsimp only [putV, List.set]) ?_
          first
            | refine wskipN rfl (by dsimp only [putV, List.set]) ?_
            | refine wstepN rfl (eqT (by assumption) rfl rfl) (by dsimp only [putV, List.set]) ?_
            | refine wstepN rfl rfl (by dsimp only [putV, List.set]) ?_
          first
            | refine wskipN rfl (by dsimp only [putV, List.set]) ?_
            | refine wstepN rfl rfl (by dsimp only [putV, List.set]) ?_
          first
            | refine wskipN rfl (by dsimp only [putV, List.set]) ?_
            | refine wstepN rfl rfl (by dsimp only [putV, List.set]) ?_
          first
            | refine wskipN rfl (by dsimp only [putV, List.set]) ?_
            | refine wstepN rfl rfl (by dsimp only [putV, List.set]) ?_
          first
            | refine wskipN rfl (by dsimp only [putV, List.set]) ?_
            | refine wstepN rfl rfl (by dsimp only [putV, List.set]) ?_
          first
            | refine wskipN rfl (by dsimp only [putV, List.set]) ?_
            | refine wstepN rfl rfl (by dsimp only [putV, List.set]) ?_
          refine wstepN rfl rfl (by dsimp only [putV, List.set]) ?_
          exact wnil ⟨[0], [0, 3, 4, 49], _, rfl, by decide, floor_ok rfl, rfl, rfl, rfl⟩
      rintro _ _ _ ⟨rfl, rfl, rfl⟩
      simp only [List.replicate, List.set]
      cases b1
      case true =>
        refine Ok.cond (b := true) rfl (fun _ => ?_) (fun h => by cases h)
        have hc : checkR l i f = 1 := by
          have : baseF (prevF l i) f = 1 := by rw [baseF, if_neg (by rw [h1]; simp), if_pos hb1]
          rw [checkR, this]; rfl
        rw [hc, if_pos (by simp)] at hfi
        rw [hfi]
        refine Ok.seq (Ok.regionW (G := fun _ => true) (C := TabP _) mixed layOk noT TabP_calm (.inl rfl) ?_)
        refine wstepN rfl rfl (by dsimp only [putV, List.set]) ?_
        refine wnil (Ok.ret ?_)
        exact ⟨[], [2], [], by kernel_rfl, by decide, floor_ok rfl, fun _ h => (by cases h), _, rfl, rfl⟩
      refine Ok.cond (b := false) rfl (fun h => by cases h) (fun _ => Ok.skip ?_)
      refine Ok.seq (Ok.seq ?_)
      cases h8192 : decide ((f.data.length : Int) > 8192)
      case true =>
        have h3 := of_decide_eq_true h8192
        refine Ok.regionW (G := fun _ => true) (C := TabP _) mixed layOk noT TabP_calm (.inl rfl) ?_
        refine wstepN rfl rfl (by dsimp only [putV, List.set]) ?_
        first
          | refine wstepN rfl (ldT rfl rfl) (by dsimp only [putV, List.set]) ?_
          | refine wstepN rfl (ldE rfl rfl) (by dsimp only [putV, List.set]) ?_
          | refine wstepN rfl rfl (by dsimp only [putV, List.set]) ?_
        first
          | refine wstepN rfl (lenT rfl rfl) (by dsimp only [putV, List.set]) ?_
          | refine wstepN rfl rfl (by dsimp only [putV, List.set]) ?_
        first
          | refine wstepN rfl (gtrK h8192 rfl rfl) (by dsimp only [putV, List.set]) ?_
          | refine wstepN rfl (gtrK (by assumption) rfl rfl) (by dsimp only [putV, List.set]) ?_
          | refine wstepN rfl rfl (by dsimp only [putV, List.set]) ?_
        refine wnil (Ok.cond (b := true) rfl (fun _ => ?_) (fun h => by cases h))
        have hc : checkR l i f = 3 := by
          have : baseF (prevF l i) f = 3 := by rw [baseF, if_neg (by rw [h1]; simp), if_neg (by rw [hb1]; simp), if_pos (by omega)]
          rw [checkR, this]; rfl
        rw [hc, if_pos (by simp)] at hfi
        rw [hfi]
        refine Ok.seq (Ok.regionW (G := fun _ => true) (C := TabP _) mixed layOk noT TabP_calm (.inl rfl) ?_)
        refine wstepN rfl rfl (by dsimp only [putV, List.set]) ?_
        refine wnil (Ok.ret ?_)
        exact ⟨[], [2], [], by kernel_rfl, by decide, floor_ok rfl, fun _ h => (by cases h), _, rfl, rfl⟩
      have h3 := of_decide_eq_false h8192
      refine Ok.regionW (G := fun _ => true) (C := TabP _) mixed layOk noT TabP_calm (.inl rfl) ?_
      refine wstepN rfl rfl (by dsimp only [putV, List.set]) ?_
      first
        | refine wstepN rfl (ldT rfl rfl) (by dsimp only [putV, List.set]) ?_
        | refine wstepN rfl (ldE rfl rfl) (by dsimp only [putV, List.set]) ?_
        | refine wstepN rfl rfl (by dsimp only [putV, List.set]) ?_
      first
        | refine wstepN rfl (lenT rfl rfl) (by dsimp only [putV, List.set]) ?_
        | refine wstepN rfl rfl (by dsimp only [putV, List.set]) ?_
      first
        | refine wstepN rfl (gtrK h8192 rfl rfl) (by dsimp only [putV, List.set]) ?_
        | refine wstepN rfl (gtrK (by assumption) rfl rfl) (by dsimp only [putV, List.set]) ?_
        | refine wstepN rfl rfl (by dsimp only [putV, List.set]) ?_
      refine wnil (Ok.cond (b := false) rfl (fun h => by cases h) (fun _ => ?_))
      refine Ok.skip ?_
      refine Ok.gcE (bs2 := [.cells [T f.path, bV f.dir, T f.data]]) (ts2 := (((List.replicate 78 V.gone).set 0 (.sl (rowsF l))).set 3 (iV (i : Int))).set 4 (.ptr 0 0)) [0] [0, 3, 4] (by kernel_rfl) (by decide) (floor_ok rfl) rfl ?_
      simp only [List.replicate, List.set]
      obtain ⟨b3, hb3⟩ : ∃ b3, afterB (prevF l i) f = b3 := ⟨_, rfl⟩
      refine Ok.seq (Ok.seq (Ok.mono (Q := fun e ts bs => e = .normal ∧ bs = [.cells [T f.path, bV f.dir, T f.data]] ∧ ts = ((((List.replicate 78 V.gone).set 0 (.sl (rowsF l))).set 3 (iV (i : Int))).set 4 (.ptr 0 0)).set 66 (bV b3)) (Ok.after ?_) ?_))
      · cases i with
        | zero =>
          have hq : decide (((0 : Nat) : Int) > 0) = false := rfl
          have : b3 = false := by rw [← hb3]; rfl
          subst this
          refine Ok.regionW (G := fun _ => true) (C := TabP _) mixed layOk noT TabP_calm (.inr ⟨by kernel_rfl, by kernel_rfl⟩) ?_
          refine wstepN rfl rfl (by dsimp only [putV, List.set]) ?_
          first
            | refine wstepN rfl (gtrK h0 rfl rfl) (by dsimp only [putV, List.set]) ?_
            | refine wstepN rfl (gtrK (by assumption) rfl rfl) (by dsimp only [putV, List.set]) ?_
            | refine wstepN rfl rfl (by dsimp only [putV, List.set]) ?_
          refine wstepN rfl rfl (by dsimp only [putV, List.set]) ?_
          first
            | refine wskipN rfl (by dsimp only [putV, List.set]) ?_
            | refine wstepN rfl rfl (by dsimp only [putV, List.set]) ?_
          first
            | refine wskipN rfl (by dsimp only [putV, List.set]) ?_
            | refine wstepN rfl (ldT rfl rfl) (by dsimp only [putV, List.set]) ?_
            | refine wstepN rfl (ldE rfl rfl) (by dsimp only [putV, List.set]) ?_
            | refine wstepN rfl rfl (by dsimp only [putV, List.set]) ?_
          first
            | refine wskipN rfl (by dsimp only [putV, List.set]) ?_
            | refine wstepN rfl rfl (by dsimp only [putV, List.set]) ?_
          first
            | refine wskipN rfl (by dsimp only [putV, List.set]) ?_
            | refine wstepN rfl rfl (by dsimp only [putV, List.set]) ?_
          first
            | refine wskipN rfl (by dsimp only [putV, List.set]) ?_
            | refine wstepN rfl (subK (by assumption) rfl rfl) (by dsimp only [putV, List.set]) ?_
            | refine wstepN rfl rfl (by dsimp only [putV, List.set]) ?_
          first
            | refine wskipN rfl (by dsimp only [putV, List.set]) ?_
            | refine wstepN rfl (ev_ix rfl rfl rfl (by assumption) rfl) (by dsimp only [putV, List.set]) ?_
            | refine wstepN rfl rfl (by dsimp only [putV, List.set]) ?_
          first
            | refine wskipN rfl (by dsimp only [putV, List.set]) ?_
            | refine wstepN rfl rfl (by dsimp only [putV, List.set]) ?_
          first
            | refine wskipN rfl (by dsimp only [putV, List.set]) ?_
            | refine wstepN rfl (ldT rfl rfl) (by dsimp only [putV, List.set]) ?_
            | refine wstepN rfl (ldE rfl rfl) (by dsimp only [putV, List.set]) ?_
            | refine wstepN rfl rfl (by dsimp only [putV, List.set]) ?_
          first
            | refine wskipN rfl (by dsimp only [putV, List.set]) ?_
            | refine wstepN rfl (leT (by assumption) rfl rfl) (by dsimp only [putV, List.set]) ?_
            | refine wstepN rfl rfl (by dsimp only [putV, List.set]) ?_
          refine wstepN rfl rfl (by dsimp only [putV, List.set]) ?_
          exact wnil ⟨[0], [0, 3, 4, 66], _, rfl, by decide, floor_ok rfl, rfl, rfl, rfl⟩
        | succ j =>
          obtain ⟨g, hg⟩ : ∃ g, l[j]? = some g := ⟨_, List.getElem?_eq_getElem (by omega)⟩
          have hgetg := rowsF_at hg
          have hq : decide (((j + 1 : Nat) : Int) > 0) = true := decide_eq_true (by omega)
          have hsub : IntKind.i64.wrap (((j + 1 : Nat) : Int) - 1) = ((j : Nat) : Int) := by rw [wrap64 (by omega) (by omega)]; omega
          have hle : leB f.path g.path = b3 := by
            rw [← hb3, prevF, if_neg (by omega), Nat.add_sub_cancel, hg]
            rfl
          refine Ok.regionW (G := fun _ => true) (C := TabP _) mixed layOk noT TabP_calm (.inr ⟨by kernel_rfl, by kernel_rfl⟩) ?_
          refine wstepN rfl rfl (by dsimp only [putV, List.set]) ?_
          first
            | refine wstepN rfl (gtrK h0 rfl rfl) (by dsimp only [putV, List.set]) ?_
            | refine wstepN rfl (gtrK (by assumption) rfl rfl) (by dsimp only [putV, List.set]) ?_
            | refine wstepN rfl rfl (by dsimp only [putV, List.set]) ?_
          refine wstepN rfl rfl (by dsimp only [putV, List.set]) ?_
          first
            | refine wskipN rfl (by dsimp only [putV, List.set]) ?_
            | refine wstepN rfl rfl (by dsimp only [putV, List.set]) ?_
          first
            | refine wskipN rfl (by dsimp only [putV, List.set]) ?_
            | refine wstepN rfl (ldT rfl rfl) (by dsimp only [putV, List.set]) ?_
            | refine wstepN rfl (ldE rfl rfl) (by dsimp only [putV, List.set]) ?_
            | refine wstepN rfl rfl (by dsimp only [putV, List.set]) ?_
          first
            | refine wskipN rfl (by dsimp only [putV, List.set]) ?_
            | refine wstepN rfl rfl (by dsimp only [putV, List.set]) ?_
          first
            | refine wskipN rfl (by dsimp only [putV, List.set]) ?_
            | refine wstepN rfl rfl (by dsimp only [putV, List.set]) ?_
          first
            | refine wskipN rfl (by dsimp only [putV, List.set]) ?_
            | refine wstepN rfl (subK (by assumption) rfl rfl) (by dsimp only [putV, List.set]) ?_
            | refine wstepN rfl rfl (by dsimp only [putV, List.set]) ?_
          first
            | refine wskipN rfl (by dsimp only [putV, List.set]) ?_
            | refine wstepN rfl (ev_ix rfl rfl rfl (by assumption) rfl) (by dsimp only [putV, List.set]) ?_
            | refine wstepN rfl rfl (by dsimp only [putV, List.set]) ?_
          first
            | refine wskipN rfl (by dsimp only [putV, List.set]) ?_
            | refine wstepN rfl rfl (by dsimp only [putV, List.set]) ?_
          first
            | refine wskipN rfl (by dsimp only [putV, List.set]) ?_
            | refine wstepN rfl (ldT rfl rfl) (by dsimp only [putV, List.set]) ?_
            | refine wstepN rfl (ldE rfl rfl) (by dsimp only [putV, List.set]) ?_
            | refine wstepN rfl rfl (by dsimp only [putV, List.set]) ?_
          first
            | refine wskipN rfl (by dsimp only [putV, List.set]) ?_
            | refine wstepN rfl (leT (by assumption) rfl rfl) (by dsimp only [putV, List.set]) ?_
            | refine wstepN rfl rfl (by dsimp only [putV, List.set]) ?_
          refine wstepN rfl rfl (by dsimp only [putV, List.set]) ?_
          exact wnil ⟨[0], [0, 3, 4, 66], _, rfl, by decide, floor_ok rfl, rfl, rfl, rfl⟩
      rintro _ _ _ ⟨rfl, rfl, rfl⟩
      simp only [List.replicate, List.set]
      cases b3
      case true =>
        refine Ok.cond (b := true) rfl (fun _ => ?_) (fun h => by cases h)
        have hc : checkR l i f = 25 := by
          have : baseF (prevF l i) f = 25 := by rw [baseF, if_neg (by rw [h1]; simp), if_neg (by rw [hb1]; simp), if_neg (by omega), if_pos hb3]
          rw [checkR, this]; rfl
        rw [hc, if_pos (by simp)] at hfi
        rw [hfi]
        refine Ok.seq (Ok.regionW (G := fun _ => true) (C := TabP _) mixed layOk noT TabP_calm (.inl rfl) ?_)
        refine wstepN rfl rfl (by dsimp only [putV, List.set]) ?_
        refine wnil (Ok.ret ?_)
        exact ⟨[], [2], [], by kernel_rfl, by decide, floor_ok rfl, fun _ h => (by cases h), _, rfl, rfl⟩
      refine Ok.cond (b := false) rfl (fun h => by cases h) (fun _ => Ok.skip ?_)
      have hb0 : baseF (prevF l i) f = 0 := by rw [baseF, if_neg (by rw [h1]; simp), if_neg (by rw [hb1]; simp), if_neg (by omega), if_neg (by rw [hb3]; simp)]
      refine Ok.seq ?_
      by_cases hi0 : i = 0
      · have hq : decide ((i : Int) > 0) = false := decide_eq_false (by omega)
        have hc : checkR l i f = 0 := by rw [checkR, hb0, if_neg (by simp), if_pos hi0]
        rw [hc, if_neg (by simp)] at hfi
        refine Ok.regionW (G := fun _ => true) (C := TabP _) mixed layOk noT TabP_calm (.inl rfl) ?_
        refine wstepN rfl rfl (by dsimp only [putV, List.set]) ?_
        first
          | refine wstepN rfl (gtrK h0 rfl rfl) (by dsimp only [putV, List.set]) ?_
          | refine wstepN rfl (gtrK (by assumption) rfl rfl) (by dsimp only [putV, List.set]) ?_
          | refine wstepN rfl rfl (by dsimp only [putV, List.set]) ?_
        refine wnil (Ok.cond (b := false) rfl (fun h => by cases h) (fun _ => ?_))
        refine Ok.skip ?_
        refine Ok.regionW (G := fun _ => true) (C := TabP _) mixed layOk noT TabP_calm (.inl rfl) ?_
        refine wstepN rfl rfl (by dsimp only [putV, List.set]) ?_
        first
          | refine wstepN rfl (incT (by omega) rfl rfl) (by dsimp only [putV, List.set]) ?_
          | refine wstepN rfl (addK (by assumption) rfl rfl) (by dsimp only [putV, List.set]) ?_
          | refine wstepN rfl rfl (by dsimp only [putV, List.set]) ?_
        refine wstepN rfl rfl (by dsimp only [putV, List.set]) ?_
        exact wnil ⟨[], [0, 3], [], by kernel_rfl, by decide, floor_ok rfl, hlt', hfi, hlt', rfl, rfl⟩
      · have hq : decide ((i : Int) > 0) = true := decide_eq_true (by omega)
        have hc : checkR l i f = perrR (l.take i) f.path := by rw [checkR, hb0, if_neg (by simp), if_neg hi0]
        rw [hc] at hfi
        refine Ok.regionW (G := fun _ => true) (C := TabP _) mixed layOk noT TabP_calm (.inl rfl) ?_
        refine wstepN rfl rfl (by dsimp only [putV, List.set]) ?_
        first
          | refine wstepN rfl (gtrK h0 rfl rfl) (by dsimp only [putV, List.set]) ?_
          | refine wstepN rfl (gtrK (by assumption) rfl rfl) (by dsimp only [putV, List.set]) ?_
          | refine wstepN rfl rfl (by dsimp only [putV, List.set]) ?_
        refine wnil (Ok.cond (b := true) rfl (fun _ => ?_) (fun h => by cases h))
        refine Ok.gcE (bs2 := [.cells [T f.path, bV f.dir, T f.data]]) (ts2 := (((List.replicate 78 V.gone).set 0 (.sl (rowsF l))).set 3 (iV (i : Int))).set 4 (.ptr 0 0)) [0] [0, 3, 4] (by kernel_rfl) (by decide) (floor_ok rfl) rfl ?_
        simp only [List.replicate, List.set]
        generalize perrR (l.take i) f.path = e at hpe hfi
        refine Ok.seq (Ok.regionW (G := fun _ => true) (C := TabP _) mixed layOk hT TabP_calm (.inr ⟨by kernel_rfl, by kernel_rfl⟩) ?_)
        refine wstepN rfl rfl (by dsimp only [putV, List.set]) ?_
        refine wstepN rfl rfl (by dsimp only [putV, List.set]) ?_
        refine wstepN rfl (cutF (b := i) (by omega) rfl rfl rfl) (by dsimp only [putV, List.set]) ?_
        refine wstepN rfl rfl (by dsimp only [putV, List.set]) ?_
        first
          | refine wstepN rfl (ldT rfl rfl) (by dsimp only [putV, List.set]) ?_
          | refine wstepN rfl (ldE rfl rfl) (by dsimp only [putV, List.set]) ?_
          | refine wstepN rfl rfl (by dsimp only [putV, List.set]) ?_
        first
          | refine wstepN rfl (hit33 (by first | assumption | omega)) (by dsimp only [putV, List.set]) ?_
          | refine wstepN rfl (T1_hit) (by dsimp only [putV, List.set]) ?_
          | refine wstepN rfl (TabP_use (by assumption) (by assumption)) (by dsimp only [putV, List.set]) ?_
          | refine wstepN rfl (TabP_hit (fun v' h => by cases h; rfl) (by assumption)) (by dsimp only [putV, List.set]) ?_
          | refine wstepN rfl (TabP_hit (fun v' h => by cases h; rfl) (by constructor)) (by dsimp only [putV, List.set]) ?_
          | refine wstepN rfl rfl (by dsimp only [putV, List.set]) ?_
        refine wstepN rfl rfl (by dsimp only [putV, List.set]) ?_
        refine wnil ?_
        refine Ok.seq ?_
        by_cases he : e = 0
        · have hq2 : (e != 0) = false := by simpa using he
          rw [if_neg (by simpa using he)] at hfi
          refine Ok.regionW (G := fun _ => true) (C := TabP _) mixed layOk noT TabP_calm (.inl rfl) ?_
          refine wstepN rfl rfl (by dsimp only [putV, List.set]) ?_
          first
            | refine wstepN rfl (neqK (by assumption) rfl rfl) (by dsimp only [putV, List.set]) ?_
            | refine wstepN rfl rfl (by dsimp only [putV, List.set]) ?_
          refine wnil (Ok.cond (b := false) rfl (fun h => by cases h) (fun _ => ?_))
          refine Ok.skip ?_
          refine Ok.regionW (G := fun _ => true) (C := TabP _) mixed layOk noT TabP_calm (.inl rfl) ?_
          refine wstepN rfl rfl (by dsimp only [putV, List.set]) ?_
          first
            | refine wstepN rfl (incT (by omega) rfl rfl) (by dsimp only [putV, List.set]) ?_
            | refine wstepN rfl (addK (by assumption) rfl rfl) (by dsimp only [putV, List.set]) ?_
            | refine wstepN rfl rfl (by dsimp only [putV, List.set]) ?_
          refine wstepN rfl rfl (by dsimp only [putV, List.set]) ?_
          exact wnil ⟨[], [0, 3], [], by kernel_rfl, by decide, floor_ok rfl, hlt', hfi, hlt', rfl, rfl⟩
        · have hq2 : (e != 0) = true := by simpa using he
          rw [if_pos he] at hfi
          rw [hfi]
          refine Ok.regionW (G := fun _ => true) (C := TabP _) mixed layOk noT TabP_calm (.inl rfl) ?_
          refine wstepN rfl rfl (by dsimp only [putV, List.set]) ?_
          first
            | refine wstepN rfl (neqK (by assumption) rfl rfl) (by dsimp only [putV, List.set]) ?_
            | refine wstepN rfl rfl (by dsimp only [putV, List.set]) ?_
          refine wnil (Ok.cond (b := true) rfl (fun _ => ?_) (fun h => by cases h))
          refine Ok.seq (Ok.regionW (G := fun _ => true) (C := TabP _) mixed layOk noT TabP_calm (.inl rfl) ?_)
          refine wstepN rfl rfl (by dsimp only [putV, List.set]) ?_
          refine wstepN rfl rfl (by dsimp only [putV, List.set]) ?_
          refine wnil (Ok.ret ?_)
          exact ⟨[], [2], [], by kernel_rfl, by decide, floor_ok rfl, fun _ h => (by cases h), _, rfl, rfl⟩

inductive P3 (l : List Fl) : FuncId → List V → V → Prop
  | small : P3 l 8 [.sl (rowsF l)] (bV (smallB l))
  | vp (h : l.length ≤ 100000) (hp : ∀ f ∈ l, f.path.length ≤ 10000) : P3 l 10 [.sl (rowsF l)] (iV (validB checkP l))
  | vr (h : l.length ≤ 100000) (hp : ∀ f ∈ l, f.path.length ≤ 10000) : P3 l 11 [.sl (rowsF l)] (iV (validB checkP l))
  | new : P3 l 13 [] (.sl (rowsF [rootF]))
  | rnew : P3 l 14 [] (.sl (rowsF [rootF]))
  | same : P3 l 12 [.sl (rowsF [rootF]), .sl (rowsF [rootF])] (bV true)
  | ex : P3 l 9 [] (bV true)
theorem P3_u (l : List Fl) : Uniq (P3 l) := fun f vs v v' h h' => by cases h <;> cases h' <;> rfl
theorem P3_good (l : List Fl) : Good Tryd.prog (TabP (P3 l)) := TabP_good fun f vs v h => by
  cases h with
  | small => exact ⟨small8 l, rfl, rfl, Tryd.call8⟩
  | vp h hp => exact ⟨valid10 l h hp, rfl, rfl, Tryd.call10⟩
  | vr h hp => exact ⟨valid_same l ▸ rvalid11 l h hp, rfl, rfl, Tryd.call11⟩
  | new => exact ⟨new13, rfl, rfl, Tryd.call13⟩
  | rnew => exact ⟨rnew14, rfl, rfl, Tryd.call14⟩
  | same => exact ⟨same12 [rootF] [rootF] (by simp) (by simp), rfl, rfl, Tryd.call12⟩
  | ex => exact ⟨awake9, rfl, rfl, Tryd.call9⟩

theorem law3 (l : List Fl) : FnOk Tryd.prog 3 [.sl (rowsF l)] [] (fun r _ => r = .val (.bool true)) := by
  refine FnOk.of layOk Tryd.func3 rfl ?_
  have hT := P3_good l
  have hU := P3_u l
  have hex : P3 l 9 [] (bV true) := .ex
  have hsm : P3 l 8 [.sl (rowsF l)] (bV (smallB l)) := .small
  refine Ok.seq (go 10 rfl ?_)
  refine Ok.seq ?_
  cases hs : smallB l
  · rw [hs] at hsm
    refine Ok.seq (Ok.regionW (G := fun _ => true) (C := TabP _) mixed layOk hT TabP_calm (.inl rfl) ?_)
    refine wstepN rfl rfl (by dsimp only [putV, List.set]) ?_
    first
      | refine wstepN rfl (hit8 (by first | assumption | omega)) (by dsimp only [putV, List.set]) ?_
      | refine wstepN rfl (T1_hit) (by dsimp only [putV, List.set]) ?_
      | refine wstepN rfl (TabP_use (by assumption) (by assumption)) (by dsimp only [putV, List.set]) ?_
      | refine wstepN rfl (TabP_hit (fun v' h => by cases h; rfl) (by assumption)) (by dsimp only [putV, List.set]) ?_
      | refine wstepN rfl (TabP_hit (fun v' h => by cases h; rfl) (by constructor)) (by dsimp only [putV, List.set]) ?_
      | refine wstepN rfl rfl (by dsimp only [putV, List.set]) ?_
    refine wstepN rfl rfl (by dsimp only [putV, List.set]) ?_
    refine wnil (Ok.cond (b := true) rfl (fun _ => ?_) (fun h => by cases h))
    refine Ok.seq (Ok.regionW (G := fun _ => true) (C := TabP _) mixed layOk hT TabP_calm (.inl rfl) ?_)
    first
      | refine wstepN rfl (hit9 (by first | assumption | omega)) (by dsimp only [putV, List.set]) ?_
      | refine wstepN rfl (T1_hit) (by dsimp only [putV, List.set]) ?_
      | refine wstepN rfl (TabP_use (by assumption) (by assumption)) (by dsimp only [putV, List.set]) ?_
      | refine wstepN rfl (TabP_hit (fun v' h => by cases h; rfl) (by assumption)) (by dsimp only [putV, List.set]) ?_
      | refine wstepN rfl (TabP_hit (fun v' h => by cases h; rfl) (by constructor)) (by dsimp only [putV, List.set]) ?_
      | refine wstepN rfl rfl (by dsimp only [putV, List.set]) ?_
    refine wstepN rfl rfl (by dsimp only [putV, List.set]) ?_
    refine wnil (Ok.ret ⟨fun _ h => (by cases h), _, rfl, rfl⟩)
  · rw [hs] at hsm
    obtain ⟨h1, h2⟩ := small_is hs
    have hp : ∀ f ∈ l, f.path.length ≤ 10000 := fun f hf => by have := h2 f hf; omega
    have hvp := P3.vp (by omega) hp
    have hvr := P3.vr (by omega) hp
    have hnew : P3 l 13 [] (.sl (rowsF [rootF])) := .new
    have hrnew : P3 l 14 [] (.sl (rowsF [rootF])) := .rnew
    have hsame : P3 l 12 [.sl (rowsF [rootF]), .sl (rowsF [rootF])] (bV true) := .same
    generalize validB checkP l = e at hvp hvr
    have hq : (e == e) = true := by simp
    refine Ok.seq (Ok.regionW (G := fun _ => true) (C := TabP _) mixed layOk hT TabP_calm (.inl rfl) ?_)
    refine wstepN rfl rfl (by dsimp only [putV, List.set]) ?_
    first
      | refine wstepN rfl (hit8 (by first | assumption | omega)) (by dsimp only [putV, List.set]) ?_
      | refine wstepN rfl (T1_hit) (by dsimp only [putV, List.set]) ?_
      | refine wstepN rfl (TabP_use (by assumption) (by assumption)) (by dsimp only [putV, List.set]) ?_
      | refine wstepN rfl (TabP_hit (fun v' h => by cases h; rfl) (by assumption)) (by dsimp only [putV, List.set]) ?_
      | refine wstepN rfl (TabP_hit (fun v' h => by cases h; rfl) (by constructor)) (by dsimp only [putV, List.set]) ?_
      | refine wstepN rfl rfl (by dsimp only [putV, List.set]) ?_
    refine wstepN rfl rfl (by dsimp only [putV, List.set]) ?_
    refine wnil (Ok.cond (b := false) rfl (fun h => by cases h) (fun _ => ?_))
    refine Ok.skip ?_
    refine Ok.seq (Ok.regionW (G := fun _ => true) (C := TabP _) mixed layOk hT TabP_calm (.inl rfl) ?_)
    refine wstepN rfl rfl (by dsimp only [putV, List.set]) ?_
    first
      | refine wstepN rfl (hit10 (by first | assumption | omega)) (by dsimp only [putV, List.set]) ?_
      | refine wstepN rfl (T1_hit) (by dsimp only [putV, List.set]) ?_
      | refine wstepN rfl (TabP_use (by assumption) (by assumption)) (by dsimp only [putV, List.set]) ?_
      | refine wstepN rfl (TabP_hit (fun v' h => by cases h; rfl) (by assumption)) (by dsimp only [putV, List.set]) ?_
      | refine wstepN rfl (TabP_hit (fun v' h => by cases h; rfl) (by constructor)) (by dsimp only [putV, List.set]) ?_
      | refine wstepN rfl rfl (by dsimp only [putV, List.set]) ?_
    refine wstepN rfl rfl (by dsimp only [putV, List.set]) ?_
    first
      | refine wstepN rfl (hit11 (by first | assumption | omega)) (by dsimp only [putV, List.set]) ?_
      | refine wstepN rfl (T1_hit) (by dsimp only [putV, List.set]) ?_
      | refine wstepN rfl (TabP_use (by assumption) (by assumption)) (by dsimp only [putV, List.set]) ?_
      | refine wstepN rfl (TabP_hit (fun v' h => by cases h; rfl) (by assumption)) (by dsimp only [putV, List.set]) ?_
      | refine wstepN rfl (TabP_hit (fun v' h => by cases h; rfl) (by constructor)) (by dsimp only [putV, List.set]) ?_
      | refine wstepN rfl rfl (by dsimp only [putV, List.set]) ?_
    first
      | refine wstepN rfl (eqlK (by assumption) rfl rfl) (by dsimp only [putV, List.set]) ?_
      | refine wstepN rfl rfl (by dsimp only [putV, List.set]) ?_
    refine wstepN rfl rfl (by dsimp only [putV, List.set]) ?_
    first
      | refine wskipN rfl (by dsimp only [putV, List.set]) ?_
      | refine wstepN rfl (hit13 (by first | assumption | omega)) (by dsimp only [putV, List.set]) ?_
      | refine wstepN rfl (T1_hit) (by dsimp only [putV, List.set]) ?_
      | refine wstepN rfl (TabP_use (by assumption) (by assumption)) (by dsimp only [putV, List.set]) ?_
      | refine wstepN rfl (TabP_hit (fun v' h => by cases h; rfl) (by assumption)) (by dsimp only [putV, List.set]) ?_
      | refine wstepN rfl (TabP_hit (fun v' h => by cases h; rfl) (by constructor)) (by dsimp only [putV, List.set]) ?_
      | refine wstepN rfl rfl (by dsimp only [putV, List.set]) ?_
    first
      | refine wskipN rfl (by dsimp only [putV, List.set]) ?_
      | refine wstepN rfl (hit14 (by first | assumption | omega)) (by dsimp only [putV, List.set]) ?_
      | refine wstepN rfl (T1_hit) (by dsimp only [putV, List.set]) ?_
      | refine wstepN rfl (TabP_use (by assumption) (by assumption)) (by dsimp only [putV, List.set]) ?_
      | refine wstepN rfl (TabP_hit (fun v' h => by cases h; rfl) (by assumption)) (by dsimp only [putV, List.set]) ?_
      | refine wstepN rfl (TabP_hit (fun v' h => by cases h; rfl) (by constructor)) (by dsimp only [putV, List.set]) ?_
      | refine wstepN rfl rfl (by dsimp only [putV, List.set]) ?_
    first
      | refine wskipN rfl (by dsimp only [putV, List.set]) ?_
      | refine wstepN rfl (hit12 (by first | assumption | omega)) (by dsimp only [putV, List.set]) ?_
      | refine wstepN rfl (T1_hit) (by dsimp only [putV, List.set]) ?_
      | refine wstepN rfl (TabP_use (by assumption) (by assumption)) (by dsimp only [putV, List.set]) ?_
      | refine wstepN rfl (TabP_hit (fun v' h => by cases h; rfl) (by assumption)) (by dsimp only [putV, List.set]) ?_
      | refine wstepN rfl (TabP_hit (fun v' h => by cases h; rfl) (by constructor)) (by dsimp only [putV, List.set]) ?_
      | refine wstepN rfl rfl (by dsimp only [putV, List.set]) ?_
    refine wstepN rfl rfl (by dsimp only [putV, List.set]) ?_
    refine wstepN rfl rfl (by dsimp only [putV, List.set]) ?_
    first
      | refine wskipN rfl (by dsimp only [putV, List.set]) ?_
      | refine wstepN rfl (hit9 (by first | assumption | omega)) (by dsimp only [putV, List.set]) ?_
      | refine wstepN rfl (T1_hit) (by dsimp only [putV, List.set]) ?_
      | refine wstepN rfl (TabP_use (by assumption) (by assumption)) (by dsimp only [putV, List.set]) ?_
      | refine wstepN rfl (TabP_hit (fun v' h => by cases h; rfl) (by assumption)) (by dsimp only [putV, List.set]) ?_
      | refine wstepN rfl (TabP_hit (fun v' h => by cases h; rfl) (by constructor)) (by dsimp only [putV, List.set]) ?_
      | refine wstepN rfl rfl (by dsimp only [putV, List.set]) ?_
    refine wstepN rfl rfl (by dsimp only [putV, List.set]) ?_
    refine wstepN rfl rfl (by dsimp only [putV, List.set]) ?_
    refine wnil (Ok.ret ⟨fun _ h => (by cases h), _, rfl, rfl⟩)

end Go.Proofs.YtiefcnghjcafbaaDoorV

/- The law FilesChanges over plain values. -/
namespace Go.Proofs.YtiefcnghjcafbaaDoorV
open Go Go.RowKit Go.Proofs.YtiefcnghjcafbaaDoor
set_option maxRecDepth 20000
set_option maxHeartbeats 1000000

theorem insR_len : ∀ (l : List Fl) (f : Fl), (insR l f).length = l.length + 1
  | [], f => rfl
  | g :: l, f => by
    rw [insR]
    split
    · simp
    · simp [insR_len l f]
theorem putR_len (l : List Fl) (p d : List UInt8) : (putR l p d).1.length ≤ l.length + 1 := by
  have h1 := insR_len (withoutF l p) ⟨p, false, d⟩
  have h2 := without_len l p
  unfold putR
  split
  · simp
  split
  · simp
  split
  · split
    · simp
    split
    · simp
    · simp only [h1]; omega
  · split
    · simp
    split
    · simp
    · simp only [h1]; omega
theorem mkR_len (l : List Fl) (p : List UInt8) : (mkR l p).1.length ≤ l.length + 1 := by
  have h1 := insR_len l ⟨p, true, []⟩
  unfold mkR
  split
  · simp
  split
  · simp
  split
  · simp
  split
  · simp
  · simp only [h1]; omega
theorem rmR_len (l : List Fl) (p : List UInt8) : (rmR l p).1.length ≤ l.length + 1 := by
  have h2 := without_len l p
  unfold rmR
  split
  · simp
  split
  · simp
  split
  · simp
  split
  · simp
  · simp only; omega

structure Fit (l : List Fl) (p : List UInt8) : Prop where
  len : l.length ≤ 1000
  path : p.length ≤ 10000
  paths : ∀ f ∈ l, f.path.length ≤ 10000
inductive P6 (l : List Fl) (p d : List UInt8) : FuncId → List V → V → Prop
  | small : P6 l p d 8 [.sl (rowsF l)] (bV (smallB l))
  | sh : P6 l p d 15 [T p, T []] (bV (decide ((p.length : Int) ≤ 600) && decide ((([] : List UInt8).length : Int) ≤ 600)))
  | vr (h : Fit l p) : P6 l p d 11 [.sl (rowsF l)] (iV (validB checkP l))
  | put (h : Fit l p) : P6 l p d 19 [.sl (rowsF l), T p, T d] (.tup [.sl (rowsF (putP l p d).1), iV (putP l p d).2])
  | rput (h : Fit l p) (hv : validB checkP l = 0) : P6 l p d 20 [.sl (rowsF l), T p, T d] (.tup [.sl (rowsF (putP l p d).1), iV (putP l p d).2])
  | mk (h : Fit l p) : P6 l p d 21 [.sl (rowsF l), T p] (.tup [.sl (rowsF (mkP l p).1), iV (mkP l p).2])
  | rmk (h : Fit l p) (hv : validB checkP l = 0) : P6 l p d 22 [.sl (rowsF l), T p] (.tup [.sl (rowsF (mkP l p).1), iV (mkP l p).2])
  | rm (h : Fit l p) : P6 l p d 23 [.sl (rowsF l), T p] (.tup [.sl (rowsF (rmP l p).1), iV (rmP l p).2])
  | rrm (h : Fit l p) (hv : validB checkP l = 0) : P6 l p d 24 [.sl (rowsF l), T p] (.tup [.sl (rowsF (rmP l p).1), iV (rmP l p).2])
  | same (a b : V) (h : ∃ m : List Fl, m.length ≤ 100000 ∧ a = .sl (rowsF m) ∧ b = .sl (rowsF m)) : P6 l p d 12 [a, b] (bV true)
  | ex : P6 l p d 9 [] (bV true)
theorem P6_u (l : List Fl) (p d : List UInt8) : Uniq (P6 l p d) := fun f vs v v' h h' => by cases h <;> cases h' <;> rfl
theorem P6_good (l : List Fl) (p d : List UInt8) : Good Tryd.prog (TabP (P6 l p d)) := TabP_good fun f vs v h => by
  cases h with
  | small => exact ⟨small8 l, rfl, rfl, Tryd.call8⟩
  | sh => exact ⟨short15 p [], rfl, rfl, Tryd.call15⟩
  | vr h => exact ⟨valid_same l ▸ rvalid11 l (by have := h.len; omega) h.paths, rfl, rfl, Tryd.call11⟩
  | put h => exact ⟨put19 l p d h.len h.path h.paths, rfl, rfl, Tryd.call19⟩
  | rput h hv => exact ⟨put_same hv p d ▸ rput20 l p d h.len h.path h.paths, rfl, rfl, Tryd.call20⟩
  | mk h => exact ⟨mk21 l p h.len h.path h.paths, rfl, rfl, Tryd.call21⟩
  | rmk h hv => exact ⟨mk_same hv p ▸ rmk22 l p h.len h.path h.paths, rfl, rfl, Tryd.call22⟩
  | rm h => exact ⟨rm23 l p h.len h.path h.paths, rfl, rfl, Tryd.call23⟩
  | rrm h hv => exact ⟨rm_same hv p ▸ rrm24 l p h.len h.path h.paths, rfl, rfl, Tryd.call24⟩
  | same a b h =>
    obtain ⟨m, hm, rfl, rfl⟩ := h
    refine ⟨?_, rfl, rfl, Tryd.call12⟩
    have := same12 m m hm hm
    rw [show decide (m = m) = true by simp] at this
    exact this
  | ex => exact ⟨awake9, rfl, rfl, Tryd.call9⟩

theorem law6 (l : List Fl) (p d : List UInt8) : FnOk Tryd.prog 6 [.sl (rowsF l), T p, T d] [] (fun r _ => r = .val (.bool true)) := by
  refine FnOk.of layOk Tryd.func6 rfl ?_
  have hT := P6_good l p d
  have hU := P6_u l p d
  have hex : P6 l p d 9 [] (bV true) := .ex
  have hsm : P6 l p d 8 [.sl (rowsF l)] (bV (smallB l)) := .small
  have hsh : P6 l p d 15 [T p, T []] (bV (decide ((p.length : Int) ≤ 600) && decide ((([] : List UInt8).length : Int) ≤ 600))) := .sh
  refine Ok.seq (go 10 rfl ?_)
  refine Ok.seq ?_
  cases hs : smallB l
  · rw [hs] at hsm
    refine Ok.seq (Ok.regionW (G := fun _ => true) (C := TabP _) mixed layOk hT TabP_calm (.inl rfl) ?_)
    refine wstepN rfl rfl (by dsimp only [putV, List.set]) ?_
    first
      | refine wstepN rfl (hit8 (by first | assumption | omega)) (by dsimp only [putV, List.set]) ?_
      | refine wstepN rfl (T1_hit) (by dsimp only [putV, List.set]) ?_
      | refine wstepN rfl (TabP_use (by assumption) (by assumption)) (by dsimp only [putV, List.set]) ?_
      | refine wstepN rfl (TabP_hit (fun v' h => by cases h; rfl) (by assumption)) (by dsimp only [putV, List.set]) ?_
      | refine wstepN rfl (TabP_hit (fun v' h => by cases h; rfl) (by constructor)) (by dsimp only [putV, List.set]) ?_
      | refine wstepN rfl rfl (by dsimp only [putV, List.set]) ?_
    refine wstepN rfl rfl (by dsimp only [putV, List.set]) ?_
    refine wstepN rfl rfl (by dsimp only [putV, List.set]) ?_
    first
      | refine wskipN rfl (by dsimp only [putV, List.set]) ?_
      | refine wstepN rfl rfl (by dsimp only [putV, List.set]) ?_
    first
      | refine wskipN rfl (by dsimp only [putV, List.set]) ?_
      | refine wstepN rfl (hit15 (by first | assumption | omega)) (by dsimp only [putV, List.set]) ?_
      | refine wstepN rfl (T1_hit) (by dsimp only [putV, List.set]) ?_
      | refine wstepN rfl (TabP_use (by assumption) (by assumption)) (by dsimp only [putV, List.set]) ?_
      | refine wstepN rfl (TabP_hit (fun v' h => by cases h; rfl) (by assumption)) (by dsimp only [putV, List.set]) ?_
      | refine wstepN rfl (TabP_hit (fun v' h => by cases h; rfl) (by constructor)) (by dsimp only [putV, List.set]) ?_
      | refine wstepN rfl rfl (by dsimp only [putV, List.set]) ?_
    first
      | refine wskipN rfl (by dsimp only [putV, List.set]) ?_
      | refine wstepN rfl rfl (by dsimp only [putV, List.set]) ?_
    refine wstepN rfl rfl (by dsimp only [putV, List.set]) ?_
    refine wstepN rfl rfl (by dsimp only [putV, List.set]) ?_
    first
      | refine wskipN rfl (by dsimp only [putV, List.set]) ?_
      | refine wstepN rfl rfl (by dsimp only [putV, List.set]) ?_
    first
      | refine wskipN rfl (by dsimp only [putV, List.set]) ?_
      | refine wstepN rfl (lenT rfl rfl) (by dsimp only [putV, List.set]) ?_
      | refine wstepN rfl rfl (by dsimp only [putV, List.set]) ?_
    first
      | refine wskipN rfl (by dsimp only [putV, List.set]) ?_
      | refine wstepN rfl (gtrK h9000 rfl rfl) (by dsimp only [putV, List.set]) ?_
      | refine wstepN rfl (gtrK (by assumption) rfl rfl) (by dsimp only [putV, List.set]) ?_
      | refine wstepN rfl rfl (by dsimp only [putV, List.set]) ?_
    refine wstepN rfl rfl (by dsimp only [putV, List.set]) ?_
    refine wstepN rfl rfl (by dsimp only [putV, List.set]) ?_
    first
      | refine wskipN rfl (by dsimp only [putV, List.set]) ?_
      | refine wstepN rfl rfl (by dsimp only [putV, List.set]) ?_
    first
      | refine wskipN rfl (by dsimp only [putV, List.set]) ?_
      | refine wstepN rfl (hit11 (by first | assumption | omega)) (by dsimp only [putV, List.set]) ?_
      | refine wstepN rfl (T1_hit) (by dsimp only [putV, List.set]) ?_
      | refine wstepN rfl (TabP_use (by assumption) (by assumption)) (by dsimp only [putV, List.set]) ?_
      | refine wstepN rfl (TabP_hit (fun v' h => by cases h; rfl) (by assumption)) (by dsimp only [putV, List.set]) ?_
      | refine wstepN rfl (TabP_hit (fun v' h => by cases h; rfl) (by constructor)) (by dsimp only [putV, List.set]) ?_
      | refine wstepN rfl rfl (by dsimp only [putV, List.set]) ?_
    first
      | refine wskipN rfl (by dsimp only [putV, List.set]) ?_
      | refine wstepN rfl (neqK (by assumption) rfl rfl) (by dsimp only [putV, List.set]) ?_
      | refine wstepN rfl rfl (by dsimp only [putV, List.set]) ?_
    refine wstepN rfl rfl (by dsimp only [putV, List.set]) ?_
    refine wnil (Ok.cond (b := true) rfl (fun _ => ?_) (fun h => by cases h))
    refine Ok.seq (Ok.regionW (G := fun _ => true) (C := TabP _) mixed layOk hT TabP_calm (.inl rfl) ?_)
    first
      | refine wstepN rfl (hit9 (by first | assumption | omega)) (by dsimp only [putV, List.set]) ?_
      | refine wstepN rfl (T1_hit) (by dsimp only [putV, List.set]) ?_
      | refine wstepN rfl (TabP_use (by assumption) (by assumption)) (by dsimp only [putV, List.set]) ?_
      | refine wstepN rfl (TabP_hit (fun v' h => by cases h; rfl) (by assumption)) (by dsimp only [putV, List.set]) ?_
      | refine wstepN rfl (TabP_hit (fun v' h => by cases h; rfl) (by constructor)) (by dsimp only [putV, List.set]) ?_
      | refine wstepN rfl rfl (by dsimp only [putV, List.set]) ?_
    refine wstepN rfl rfl (by dsimp only [putV, List.set]) ?_
    refine wnil (Ok.ret ⟨fun _ h => (by cases h), _, rfl, rfl⟩)
  rw [hs] at hsm
  obtain ⟨k1, k2⟩ := small_is hs
  cases h600 : decide ((p.length : Int) ≤ 600) && decide ((([] : List UInt8).length : Int) ≤ 600)
  · rw [h600] at hsh
    refine Ok.seq (Ok.regionW (G := fun _ => true) (C := TabP _) mixed layOk hT TabP_calm (.inl rfl) ?_)
    refine wstepN rfl rfl (by dsimp only [putV, List.set]) ?_
    first
      | refine wstepN rfl (hit8 (by first | assumption | omega)) (by dsimp only [putV, List.set]) ?_
      | refine wstepN rfl (T1_hit) (by dsimp only [putV, List.set]) ?_
      | refine wstepN rfl (TabP_use (by assumption) (by assumption)) (by dsimp only [putV, List.set]) ?_
      | refine wstepN rfl (TabP_hit (fun v' h => by cases h; rfl) (by assumption)) (by dsimp only [putV, List.set]) ?_
      | refine wstepN rfl (TabP_hit (fun v' h => by cases h; rfl) (by constructor)) (by dsimp only [putV, List.set]) ?_
      | refine wstepN rfl rfl (by dsimp only [putV, List.set]) ?_
    refine wstepN rfl rfl (by dsimp only [putV, List.set]) ?_
    refine wstepN rfl rfl (by dsimp only [putV, List.set]) ?_
    first
      | refine wskipN rfl (by dsimp only [putV, List.set]) ?_
      | refine wstepN rfl rfl (by dsimp only [putV, List.set]) ?_
    first
      | refine wskipN rfl (by dsimp only [putV, List.set]) ?_
      | refine wstepN rfl (hit15 (by first | assumption | omega)) (by dsimp only [putV, List.set]) ?_
      | refine wstepN rfl (T1_hit) (by dsimp only [putV, List.set]) ?_
      | refine wstepN rfl (TabP_use (by assumption) (by assumption)) (by dsimp only [putV, List.set]) ?_
      | refine wstepN rfl (TabP_hit (fun v' h => by cases h; rfl) (by assumption)) (by dsimp only [putV, List.set]) ?_
      | refine wstepN rfl (TabP_hit (fun v' h => by cases h; rfl) (by constructor)) (by dsimp only [putV, List.set]) ?_
      | refine wstepN rfl rfl (by dsimp only [putV, List.set]) ?_
    first
      | refine wskipN rfl (by dsimp only [putV, List.set]) ?_
      | refine wstepN rfl rfl (by dsimp only [putV, List.set]) ?_
    refine wstepN rfl rfl (by dsimp only [putV, List.set]) ?_
    refine wstepN rfl rfl (by dsimp only [putV, List.set]) ?_
    first
      | refine wskipN rfl (by dsimp only [putV, List.set]) ?_
      | refine wstepN rfl rfl (by dsimp only [putV, List.set]) ?_
    first
      | refine wskipN rfl (by dsimp only [putV, List.set]) ?_
      | refine wstepN rfl (lenT rfl rfl) (by dsimp only [putV, List.set]) ?_
      | refine wstepN rfl rfl (by dsimp only [putV, List.set]) ?_
    first
      | refine wskipN rfl (by dsimp only [putV, List.set]) ?_
      | refine wstepN rfl (gtrK h9000 rfl rfl) (by dsimp only [putV, List.set]) ?_
      | refine wstepN rfl (gtrK (by assumption) rfl rfl) (by dsimp only [putV, List.set]) ?_
      | refine wstepN rfl rfl (by dsimp only [putV, List.set]) ?_
    refine wstepN rfl rfl (by dsimp only [putV, List.set]) ?_
    refine wstepN rfl rfl (by dsimp only [putV, List.set]) ?_
    first
      | refine wskipN rfl (by dsimp only [putV, List.set]) ?_
      | refine wstepN rfl rfl (by dsimp only [putV, List.set]) ?_
    first
      | refine wskipN rfl (by dsimp only [putV, List.set]) ?_
      | refine wstepN rfl (hit11 (by first | assumption | omega)) (by dsimp only [putV, List.set]) ?_
      | refine wstepN rfl (T1_hit) (by dsimp only [putV, List.set]) ?_
      | refine wstepN rfl (TabP_use (by assumption) (by assumption)) (by dsimp only [putV, List.set]) ?_
      | refine wstepN rfl (TabP_hit (fun v' h => by cases h; rfl) (by assumption)) (by dsimp only [putV, List.set]) ?_
      | refine wstepN rfl (TabP_hit (fun v' h => by cases h; rfl) (by constructor)) (by dsimp only [putV, List.set]) ?_
      | refine wstepN rfl rfl (by dsimp only [putV, List.set]) ?_
    first
      | refine wskipN rfl (by dsimp only [putV, List.set]) ?_
      | refine wstepN rfl (neqK (by assumption) rfl rfl) (by dsimp only [putV, List.set]) ?_
      | refine wstepN rfl rfl (by dsimp only [putV, List.set]) ?_
    refine wstepN rfl rfl (by dsimp only [putV, List.set]) ?_
    refine wnil (Ok.cond (b := true) rfl (fun _ => ?_) (fun h => by cases h))
    refine Ok.seq (Ok.regionW (G := fun _ => true) (C := TabP _) mixed layOk hT TabP_calm (.inl rfl) ?_)
    first
      | refine wstepN rfl (hit9 (by first | assumption | omega)) (by dsimp only [putV, List.set]) ?_
      | refine wstepN rfl (T1_hit) (by dsimp only [putV, List.set]) ?_
      | refine wstepN rfl (TabP_use (by assumption) (by assumption)) (by dsimp only [putV, List.set]) ?_
      | refine wstepN rfl (TabP_hit (fun v' h => by cases h; rfl) (by assumption)) (by dsimp only [putV, List.set]) ?_
      | refine wstepN rfl (TabP_hit (fun v' h => by cases h; rfl) (by constructor)) (by dsimp only [putV, List.set]) ?_
      | refine wstepN rfl rfl (by dsimp only [putV, List.set]) ?_
    refine wstepN rfl rfl (by dsimp only [putV, List.set]) ?_
    refine wnil (Ok.ret ⟨fun _ h => (by cases h), _, rfl, rfl⟩)
  rw [h600] at hsh
  have hpl : p.length ≤ 600 := by
    simp only [Bool.and_eq_true, decide_eq_true_eq] at h600
    omega
  have hfit : Fit l p := ⟨by omega, by omega, fun f hf => by have := k2 f hf; omega⟩
  have hvr : P6 l p d 11 [.sl (rowsF l)] (iV (validB checkP l)) := .vr hfit
  cases h9000 : decide ((d.length : Int) > 9000)
  case true =>
    refine Ok.seq (Ok.regionW (G := fun _ => true) (C := TabP _) mixed layOk hT TabP_calm (.inl rfl) ?_)
    refine wstepN rfl rfl (by dsimp only [putV, List.set]) ?_
    first
      | refine wstepN rfl (hit8 (by first | assumption | omega)) (by dsimp only [putV, List.set]) ?_
      | refine wstepN rfl (T1_hit) (by dsimp only [putV, List.set]) ?_
      | refine wstepN rfl (TabP_use (by assumption) (by assumption)) (by dsimp only [putV, List.set]) ?_
      | refine wstepN rfl (TabP_hit (fun v' h => by cases h; rfl) (by assumption)) (by dsimp only [putV, List.set]) ?_
      | refine wstepN rfl (TabP_hit (fun v' h => by cases h; rfl) (by constructor)) (by dsimp only [putV, List.set]) ?_
      | refine wstepN rfl rfl (by dsimp only [putV, List.set]) ?_
    refine wstepN rfl rfl (by dsimp only [putV, List.set]) ?_
    refine wstepN rfl rfl (by dsimp only [putV, List.set]) ?_
    first
      | refine wskipN rfl (by dsimp only [putV, List.set]) ?_
      | refine wstepN rfl rfl (by dsimp only [putV, List.set]) ?_
    first
      | refine wskipN rfl (by dsimp only [putV, List.set]) ?_
      | refine wstepN rfl (hit15 (by first | assumption | omega)) (by dsimp only [putV, List.set]) ?_
      | refine wstepN rfl (T1_hit) (by dsimp only [putV, List.set]) ?_
      | refine wstepN rfl (TabP_use (by assumption) (by assumption)) (by dsimp only [putV, List.set]) ?_
      | refine wstepN rfl (TabP_hit (fun v' h => by cases h; rfl) (by assumption)) (by dsimp only [putV, List.set]) ?_
      | refine wstepN rfl (TabP_hit (fun v' h => by cases h; rfl) (by constructor)) (by dsimp only [putV, List.set]) ?_
      | refine wstepN rfl rfl (by dsimp only [putV, List.set]) ?_
    first
      | refine wskipN rfl (by dsimp only [putV, List.set]) ?_
      | refine wstepN rfl rfl (by dsimp only [putV, List.set]) ?_
    refine wstepN rfl rfl (by dsimp only [putV, List.set]) ?_
    refine wstepN rfl rfl (by dsimp only [putV, List.set]) ?_
    first
      | refine wskipN rfl (by dsimp only [putV, List.set]) ?_
      | refine wstepN rfl rfl (by dsimp only [putV, List.set]) ?_
    first
      | refine wskipN rfl (by dsimp only [putV, List.set]) ?_
      | refine wstepN rfl (lenT rfl rfl) (by dsimp only [putV, List.set]) ?_
      | refine wstepN rfl rfl (by dsimp only [putV, List.set]) ?_
    first
      | refine wskipN rfl (by dsimp only [putV, List.set]) ?_
      | refine wstepN rfl (gtrK h9000 rfl rfl) (by dsimp only [putV, List.set]) ?_
      | refine wstepN rfl (gtrK (by assumption) rfl rfl) (by dsimp only [putV, List.set]) ?_
      | refine wstepN rfl rfl (by dsimp only [putV, List.set]) ?_
    refine wstepN rfl rfl (by dsimp only [putV, List.set]) ?_
    refine wstepN rfl rfl (by dsimp only [putV, List.set]) ?_
    first
      | refine wskipN rfl (by dsimp only [putV, List.set]) ?_
      | refine wstepN rfl rfl (by dsimp only [putV, List.set]) ?_
    first
      | refine wskipN rfl (by dsimp only [putV, List.set]) ?_
      | refine wstepN rfl (hit11 (by first | assumption | omega)) (by dsimp only [putV, List.set]) ?_
      | refine wstepN rfl (T1_hit) (by dsimp only [putV, List.set]) ?_
      | refine wstepN rfl (TabP_use (by assumption) (by assumption)) (by dsimp only [putV, List.set]) ?_
      | refine wstepN rfl (TabP_hit (fun v' h => by cases h; rfl) (by assumption)) (by dsimp only [putV, List.set]) ?_
      | refine wstepN rfl (TabP_hit (fun v' h => by cases h; rfl) (by constructor)) (by dsimp only [putV, List.set]) ?_
      | refine wstepN rfl rfl (by dsimp only [putV, List.set]) ?_
    first
      | refine wskipN rfl (by dsimp only [putV, List.set]) ?_
      | refine wstepN rfl (neqK (by assumption) rfl rfl) (by dsimp only [putV, List.set]) ?_
      | refine wstepN rfl rfl (by dsimp only [putV, List.set]) ?_
    refine wstepN rfl rfl (by dsimp only [putV, List.set]) ?_
    refine wnil (Ok.cond (b := true) rfl (fun _ => ?_) (fun h => by cases h))
    refine Ok.seq (Ok.regionW (G := fun _ => true) (C := TabP _) mixed layOk hT TabP_calm (.inl rfl) ?_)
    first
      | refine wstepN rfl (hit9 (by first | assumption | omega)) (by dsimp only [putV, List.set]) ?_
      | refine wstepN rfl (T1_hit) (by dsimp only [putV, List.set]) ?_
      | refine wstepN rfl (TabP_use (by assumption) (by assumption)) (by dsimp only [putV, List.set]) ?_
      | refine wstepN rfl (TabP_hit (fun v' h => by cases h; rfl) (by assumption)) (by dsimp only [putV, List.set]) ?_
      | refine wstepN rfl (TabP_hit (fun v' h => by cases h; rfl) (by constructor)) (by dsimp only [putV, List.set]) ?_
      | refine wstepN rfl rfl (by dsimp only [putV, List.set]) ?_
    refine wstepN rfl rfl (by dsimp only [putV, List.set]) ?_
    refine wnil (Ok.ret ⟨fun _ h => (by cases h), _, rfl, rfl⟩)
  by_cases hv : validB checkP l = 0
  · rw [hv] at hvr
    have hq : ((0 : Int) != 0) = false := rfl
    have hput : P6 l p d 19 _ _ := .put hfit
    have hrput : P6 l p d 20 _ _ := .rput hfit hv
    have hmk : P6 l p d 21 _ _ := .mk hfit
    have hrmk : P6 l p d 22 _ _ := .rmk hfit hv
    have hrm : P6 l p d 23 _ _ := .rm hfit
    have hrrm : P6 l p d 24 _ _ := .rrm hfit hv
    have la := putR_len l p d
    have lb := mkR_len l p
    have lc := rmR_len l p
    rw [← put_same hv] at la
    rw [← mk_same hv] at lb
    rw [← rm_same hv] at lc
    generalize putP l p d = a at hput hrput la
    generalize mkP l p = b at hmk hrmk lb
    generalize rmP l p = c at hrm hrrm lc
    have sa : P6 l p d 12 [.sl (rowsF a.1), .sl (rowsF a.1)] (bV true) := .same _ _ ⟨a.1, by omega, rfl, rfl⟩
    have sb : P6 l p d 12 [.sl (rowsF b.1), .sl (rowsF b.1)] (bV true) := .same _ _ ⟨b.1, by omega, rfl, rfl⟩
    have sc : P6 l p d 12 [.sl (rowsF c.1), .sl (rowsF c.1)] (bV true) := .same _ _ ⟨c.1, by omega, rfl, rfl⟩
    have qa : (a.2 == a.2) = true := by simp
    have qb : (b.2 == b.2) = true := by simp
    have qc : (c.2 == c.2) = true := by simp
    refine Ok.seq (Ok.regionW (G := fun _ => true) (C := TabP _) mixed layOk hT TabP_calm (.inl rfl) ?_)
    refine wstepN rfl rfl (by dsimp only [putV, List.set]) ?_
    first
      | refine wstepN rfl (hit8 (by first | assumption | omega)) (by dsimp only [putV, List.set]) ?_
      | refine wstepN rfl (T1_hit) (by dsimp only [putV, List.set]) ?_
      | refine wstepN rfl (TabP_use (by assumption) (by assumption)) (by dsimp only [putV, List.set]) ?_
      | refine wstepN rfl (TabP_hit (fun v' h => by cases h; rfl) (by assumption)) (by dsimp only [putV, List.set]) ?_
      | refine wstepN rfl (TabP_hit (fun v' h => by cases h; rfl) (by constructor)) (by dsimp only [putV, List.set]) ?_
      | refine wstepN rfl rfl (by dsimp only [putV, List.set]) ?_
    refine wstepN rfl rfl (by dsimp only [putV, List.set]) ?_
    refine wstepN rfl rfl (by dsimp only [putV, List.set]) ?_
    first
      | refine wskipN rfl (by dsimp only [putV, List.set]) ?_
      | refine wstepN rfl rfl (by dsimp only [putV, List.set]) ?_
    first
      | refine wskipN rfl (by dsimp only [putV, List.set]) ?_
      | refine wstepN rfl (hit15 (by first | assumption | omega)) (by dsimp only [putV, List.set]) ?_
      | refine wstepN rfl (T1_hit) (by dsimp only [putV, List.set]) ?_
      | refine wstepN rfl (TabP_use (by assumption) (by assumption)) (by dsimp only [putV, List.set]) ?_
      | refine wstepN rfl (TabP_hit (fun v' h => by cases h; rfl) (by assumption)) (by dsimp only [putV, List.set]) ?_
      | refine wstepN rfl (TabP_hit (fun v' h => by cases h; rfl) (by constructor)) (by dsimp only [putV, List.set]) ?_
      | refine wstepN rfl rfl (by dsimp only [putV, List.set]) ?_
    first
      | refine wskipN rfl (by dsimp only [putV, List.set]) ?_
      | refine wstepN rfl rfl (by dsimp only [putV, List.set]) ?_
    refine wstepN rfl rfl (by dsimp only [putV, List.set]) ?_
    refine wstepN rfl rfl (by dsimp only [putV, List.set]) ?_
    first
      | refine wskipN rfl (by dsimp only [putV, List.set]) ?_
      | refine wstepN rfl rfl (by dsimp only [putV, List.set]) ?_
    first
      | refine wskipN rfl (by dsimp only [putV, List.set]) ?_
      | refine wstepN rfl (lenT rfl rfl) (by dsimp only [putV, List.set]) ?_
      | refine wstepN rfl rfl (by dsimp only [putV, List.set]) ?_
    first
      | refine wskipN rfl (by dsimp only [putV, List.set]) ?_
      | refine wstepN rfl (gtrK h9000 rfl rfl) (by dsimp only [putV, List.set]) ?_
      | refine wstepN rfl (gtrK (by assumption) rfl rfl) (by dsimp only [putV, List.set]) ?_
      | refine wstepN rfl rfl (by dsimp only [putV, List.set]) ?_
    refine wstepN rfl rfl (by dsimp only [putV, List.set]) ?_
    refine wstepN rfl rfl (by dsimp only [putV, List.set]) ?_
    first
      | refine wskipN rfl (by dsimp only [putV, List.set]) ?_
      | refine wstepN rfl rfl (by dsimp only [putV, List.set]) ?_
    first
      | refine wskipN rfl (by dsimp only [putV, List.set]) ?_
      | refine wstepN rfl (hit11 (by first | assumption | omega)) (by dsimp only [putV, List.set]) ?_
      | refine wstepN rfl (T1_hit) (by dsimp only [putV, List.set]) ?_
      | refine wstepN rfl (TabP_use (by assumption) (by assumption)) (by dsimp only [putV, List.set]) ?_
      | refine wstepN rfl (TabP_hit (fun v' h => by cases h; rfl) (by assumption)) (by dsimp only [putV, List.set]) ?_
      | refine wstepN rfl (TabP_hit (fun v' h => by cases h; rfl) (by constructor)) (by dsimp only [putV, List.set]) ?_
      | refine wstepN rfl rfl (by dsimp only [putV, List.set]) ?_
    first
      | refine wskipN rfl (by dsimp only [putV, List.set]) ?_
      | refine wstepN rfl (neqK (by assumption) rfl rfl) (by dsimp only [putV, List.set]) ?_
      | refine wstepN rfl rfl (by dsimp only [putV, List.set]) ?_
    refine wstepN rfl rfl (by dsimp only [putV, List.set]) ?_
    refine wnil (Ok.cond (b := false) rfl (fun h => by cases h) (fun _ => ?_))
    refine Ok.skip ?_
    refine Ok.gcE (bs2 := []) (ts2 := (((List.replicate 107 V.gone).set 0 (.sl (rowsF l))).set 1 (T p)).set 2 (T d)) [] [0, 1, 2] (by kernel_rfl) (by decide) (floor_ok rfl) rfl ?_
    simp only [List.replicate, List.set]
    refine Ok.seq (Ok.regionW (G := fun _ => true) (C := TabP _) mixed layOk hT TabP_calm (.inl rfl) ?_)
    refine wstepN rfl rfl (by dsimp only [putV, List.set]) ?_
    refine wstepN rfl rfl (by dsimp only [putV, List.set]) ?_
    refine wstepN rfl rfl (by dsimp only [putV, List.set]) ?_
    first
      | refine wstepN rfl (hit19 (by first | assumption | omega)) (by dsimp only [putV, List.set]) ?_
      | refine wstepN rfl (T1_hit) (by dsimp only [putV, List.set]) ?_
      | refine wstepN rfl (TabP_use (by assumption) (by assumption)) (by dsimp only [putV, List.set]) ?_
      | refine wstepN rfl (TabP_hit (fun v' h => by cases h; rfl) (by assumption)) (by dsimp only [putV, List.set]) ?_
      | refine wstepN rfl (TabP_hit (fun v' h => by cases h; rfl) (by constructor)) (by dsimp only [putV, List.set]) ?_
      | refine wstepN rfl rfl (by dsimp only [putV, List.set]) ?_
    refine wstepN rfl rfl (by dsimp only [putV, List.set]) ?_
    refine wstepN rfl rfl (by dsimp only [putV, List.set]) ?_
    refine wstepN rfl rfl (by dsimp only [putV, List.set]) ?_
    refine wstepN rfl rfl (by dsimp only [putV, List.set]) ?_
    refine wstepN rfl rfl (by dsimp only [putV, List.set]) ?_
    refine wnil ?_
    refine Ok.seq (Ok.regionW (G := fun _ => true) (C := TabP _) mixed layOk hT TabP_calm (.inl rfl) ?_)
    refine wstepN rfl rfl (by dsimp only [putV, List.set]) ?_
    refine wstepN rfl rfl (by dsimp only [putV, List.set]) ?_
    refine wstepN rfl rfl (by dsimp only [putV, List.set]) ?_
    first
      | refine wstepN rfl (hit20 (by first | assumption | omega)) (by dsimp only [putV, List.set]) ?_
      | refine wstepN rfl (T1_hit) (by dsimp only [putV, List.set]) ?_
      | refine wstepN rfl (TabP_use (by assumption) (by assumption)) (by dsimp only [putV, List.set]) ?_
      | refine wstepN rfl (TabP_hit (fun v' h => by cases h; rfl) (by assumption)) (by dsimp only [putV, List.set]) ?_
      | refine wstepN rfl (TabP_hit (fun v' h => by cases h; rfl) (by constructor)) (by dsimp only [putV, List.set]) ?_
      | refine wstepN rfl rfl (by dsimp only [putV, List.set]) ?_
    refine wstepN rfl rfl (by dsimp only [putV, List.set]) ?_
    refine wstepN rfl rfl (by dsimp only [putV, List.set]) ?_
    refine wstepN rfl rfl (by dsimp only [putV, List.set]) ?_
    refine wstepN rfl rfl (by dsimp only [putV, List.set]) ?_
    refine wstepN rfl rfl (by dsimp only [putV, List.set]) ?_
    refine wnil ?_
    refine Ok.seq (Ok.regionW (G := fun _ => true) (C := TabP _) mixed layOk hT TabP_calm (.inl rfl) ?_)
    refine wstepN rfl rfl (by dsimp only [putV, List.set]) ?_
    refine wstepN rfl rfl (by dsimp only [putV, List.set]) ?_
    first
      | refine wstepN rfl (hit21 (by first | assumption | omega)) (by dsimp only [putV, List.set]) ?_
      | refine wstepN rfl (T1_hit) (by dsimp only [putV, List.set]) ?_
      | refine wstepN rfl (TabP_use (by assumption) (by assumption)) (by dsimp only [putV, List.set]) ?_
      | refine wstepN rfl (TabP_hit (fun v' h => by cases h; rfl) (by assumption)) (by dsimp only [putV, List.set]) ?_
      | refine wstepN rfl (TabP_hit (fun v' h => by cases h; rfl) (by constructor)) (by dsimp only [putV, List.set]) ?_
      | refine wstepN rfl rfl (by dsimp only [putV, List.set]) ?_
    refine wstepN rfl rfl (by dsimp only [putV, List.set]) ?_
    refine wstepN rfl rfl (by dsimp only [putV, List.set]) ?_
    refine wstepN rfl rfl (by dsimp only [putV, List.set]) ?_
    refine wstepN rfl rfl (by dsimp only [putV, List.set]) ?_
    refine wstepN rfl rfl (by dsimp only [putV, List.set]) ?_
    refine wnil ?_
    refine Ok.seq (Ok.regionW (G := fun _ => true) (C := TabP _) mixed layOk hT TabP_calm (.inl rfl) ?_)
    refine wstepN rfl rfl (by dsimp only [putV, List.set]) ?_
    refine wstepN rfl rfl (by dsimp only [putV, List.set]) ?_
    first
      | refine wstepN rfl (hit22 (by first | assumption | omega)) (by dsimp only [putV, List.set]) ?_
      | refine wstepN rfl (T1_hit) (by dsimp only [putV, List.set]) ?_
      | refine wstepN rfl (TabP_use (by assumption) (by assumption)) (by dsimp only [putV, List.set]) ?_
      | refine wstepN rfl (TabP_hit (fun v' h => by cases h; rfl) (by assumption)) (by dsimp only [putV, List.set]) ?_
      | refine wstepN rfl (TabP_hit (fun v' h => by cases h; rfl) (by constructor)) (by dsimp only [putV, List.set]) ?_
      | refine wstepN rfl rfl (by dsimp only [putV, List.set]) ?_
    refine wstepN rfl rfl (by dsimp only [putV, List.set]) ?_
    refine wstepN rfl rfl (by dsimp only [putV, List.set]) ?_
    refine wstepN rfl rfl (by dsimp only [putV, List.set]) ?_
    refine wstepN rfl rfl (by dsimp only [putV, List.set]) ?_
    refine wstepN rfl rfl (by dsimp only [putV, List.set]) ?_
    refine wnil ?_
    refine Ok.seq (Ok.regionW (G := fun _ => true) (C := TabP _) mixed layOk hT TabP_calm (.inl rfl) ?_)
    refine wstepN rfl rfl (by dsimp only [putV, List.set]) ?_
    refine wstepN rfl rfl (by dsimp only [putV, List.set]) ?_
    first
      | refine wstepN rfl (hit23 (by first | assumption | omega)) (by dsimp only [putV, List.set]) ?_
      | refine wstepN rfl (T1_hit) (by dsimp only [putV, List.set]) ?_
      | refine wstepN rfl (TabP_use (by assumption) (by assumption)) (by dsimp only [putV, List.set]) ?_
      | refine wstepN rfl (TabP_hit (fun v' h => by cases h; rfl) (by assumption)) (by dsimp only [putV, List.set]) ?_
      | refine wstepN rfl (TabP_hit (fun v' h => by cases h; rfl) (by constructor)) (by dsimp only [putV, List.set]) ?_
      | refine wstepN rfl rfl (by dsimp only [putV, List.set]) ?_
    refine wstepN rfl rfl (by dsimp only [putV, List.set]) ?_
    refine wstepN rfl rfl (by dsimp only [putV, List.set]) ?_
    refine wstepN rfl rfl (by dsimp only [putV, List.set]) ?_
    refine wstepN rfl rfl (by dsimp only [putV, List.set]) ?_
    refine wstepN rfl rfl (by dsimp only [putV, List.set]) ?_
    refine wnil ?_
    refine Ok.seq (Ok.regionW (G := fun _ => true) (C := TabP _) mixed layOk hT TabP_calm (.inl rfl) ?_)
    refine wstepN rfl rfl (by dsimp only [putV, List.set]) ?_
    refine wstepN rfl rfl (by dsimp only [putV, List.set]) ?_
    first
      | refine wstepN rfl (hit24 (by first | assumption | omega)) (by dsimp only [putV, List.set]) ?_
      | refine wstepN rfl (T1_hit) (by dsimp only [putV, List.set]) ?_
      | refine wstepN rfl (TabP_use (by assumption) (by assumption)) (by dsimp only [putV, List.set]) ?_
      | refine wstepN rfl (TabP_hit (fun v' h => by cases h; rfl) (by assumption)) (by dsimp only [putV, List.set]) ?_
      | refine wstepN rfl (TabP_hit (fun v' h => by cases h; rfl) (by constructor)) (by dsimp only [putV, List.set]) ?_
      | refine wstepN rfl rfl (by dsimp only [putV, List.set]) ?_
    refine wstepN rfl rfl (by dsimp only [putV, List.set]) ?_
    refine wstepN rfl rfl (by dsimp only [putV, List.set]) ?_
    refine wstepN rfl rfl (by dsimp only [putV, List.set]) ?_
    refine wstepN rfl rfl (by dsimp only [putV, List.set]) ?_
    refine wstepN rfl rfl (by dsimp only [putV, List.set]) ?_
    refine wnil ?_
    refine Ok.gcE (bs2 := []) (ts2 := ((((((((((((List.replicate 107 V.gone).set 7 (.sl (rowsF a.1))).set 8 (iV a.2)).set 9 (.sl (rowsF a.1))).set 10 (iV a.2)).set 11 (.sl (rowsF b.1))).set 12 (iV b.2)).set 13 (.sl (rowsF b.1))).set 14 (iV b.2)).set 15 (.sl (rowsF c.1))).set 16 (iV c.2)).set 17 (.sl (rowsF c.1))).set 18 (iV c.2)) [] [7, 8, 9, 10, 11, 12, 13, 14, 15, 16, 17, 18] (by kernel_rfl) (by decide) (floor_ok rfl) rfl ?_
    simp only [List.replicate, List.set]
    refine Ok.seq (Ok.regionW (G := fun _ => true) (C := TabP _) mixed layOk hT TabP_calm (.inl rfl) ?_)
    refine wstepN rfl rfl (by dsimp only [putV, List.set]) ?_
    refine wstepN rfl rfl (by dsimp only [putV, List.set]) ?_
    first
      | refine wstepN rfl (hit12 (by first | assumption | omega)) (by dsimp only [putV, List.set]) ?_
      | refine wstepN rfl (T1_hit) (by dsimp only [putV, List.set]) ?_
      | refine wstepN rfl (TabP_use (by assumption) (by assumption)) (by dsimp only [putV, List.set]) ?_
      | refine wstepN rfl (TabP_hit (fun v' h => by cases h; rfl) (by assumption)) (by dsimp only [putV, List.set]) ?_
      | refine wstepN rfl (TabP_hit (fun v' h => by cases h; rfl) (by constructor)) (by dsimp only [putV, List.set]) ?_
      | refine wstepN rfl rfl (by dsimp only [putV, List.set]) ?_
    refine wstepN rfl rfl (by dsimp only [putV, List.set]) ?_
    first
      | refine wskipN rfl (by dsimp only [putV, List.set]) ?_
      | refine wstepN rfl rfl (by dsimp only [putV, List.set]) ?_
    first
      | refine wskipN rfl (by dsimp only [putV, List.set]) ?_
      | refine wstepN rfl rfl (by dsimp only [putV, List.set]) ?_
    first
      | refine wskipN rfl (by dsimp only [putV, List.set]) ?_
      | refine wstepN rfl (eqlK (by assumption) rfl rfl) (by dsimp only [putV, List.set]) ?_
      | refine wstepN rfl rfl (by dsimp only [putV, List.set]) ?_
    refine wstepN rfl rfl (by dsimp only [putV, List.set]) ?_
    refine wstepN rfl rfl (by dsimp only [putV, List.set]) ?_
    first
      | refine wskipN rfl (by dsimp only [putV, List.set]) ?_
      | refine wstepN rfl rfl (by dsimp only [putV, List.set]) ?_
    first
      | refine wskipN rfl (by dsimp only [putV, List.set]) ?_
      | refine wstepN rfl rfl (by dsimp only [putV, List.set]) ?_
    first
      | refine wskipN rfl (by dsimp only [putV, List.set]) ?_
      | refine wstepN rfl (hit12 (by first | assumption | omega)) (by dsimp only [putV, List.set]) ?_
      | refine wstepN rfl (T1_hit) (by dsimp only [putV, List.set]) ?_
      | refine wstepN rfl (TabP_use (by assumption) (by assumption)) (by dsimp only [putV, List.set]) ?_
      | refine wstepN rfl (TabP_hit (fun v' h => by cases h; rfl) (by assumption)) (by dsimp only [putV, List.set]) ?_
      | refine wstepN rfl (TabP_hit (fun v' h => by cases h; rfl) (by constructor)) (by dsimp only [putV, List.set]) ?_
      | refine wstepN rfl rfl (by dsimp only [putV, List.set]) ?_
    refine wstepN rfl rfl (by dsimp only [putV, List.set]) ?_
    refine wstepN rfl rfl (by dsimp only [putV, List.set]) ?_
    first
      | refine wskipN rfl (by dsimp only [putV, List.set]) ?_
      | refine wstepN rfl rfl (by dsimp only [putV, List.set]) ?_
    first
      | refine wskipN rfl (by dsimp only [putV, List.set]) ?_
      | refine wstepN rfl rfl (by dsimp only [putV, List.set]) ?_
    first
      | refine wskipN rfl (by dsimp only [putV, List.set]) ?_
      | refine wstepN rfl (eqlK (by assumption) rfl rfl) (by dsimp only [putV, List.set]) ?_
      | refine wstepN rfl rfl (by dsimp only [putV, List.set]) ?_
    refine wstepN rfl rfl (by dsimp only [putV, List.set]) ?_
    refine wstepN rfl rfl (by dsimp only [putV, List.set]) ?_
    first
      | refine wskipN rfl (by dsimp only [putV, List.set]) ?_
      | refine wstepN rfl rfl (by dsimp only [putV, List.set]) ?_
    first
      | refine wskipN rfl (by dsimp only [putV, List.set]) ?_
      | refine wstepN rfl rfl (by dsimp only [putV, List.set]) ?_
    first
      | refine wskipN rfl (by dsimp only [putV, List.set]) ?_
      | refine wstepN rfl (hit12 (by first | assumption | omega)) (by dsimp only [putV, List.set]) ?_
      | refine wstepN rfl (T1_hit) (by dsimp only [putV, List.set]) ?_
      | refine wstepN rfl (TabP_use (by assumption) (by assumption)) (by dsimp only [putV, List.set]) ?_
      | refine wstepN rfl (TabP_hit (fun v' h => by cases h; rfl) (by assumption)) (by dsimp only [putV, List.set]) ?_
      | refine wstepN rfl (TabP_hit (fun v' h => by cases h; rfl) (by constructor)) (by dsimp only [putV, List.set]) ?_
      | refine wstepN rfl rfl (by dsimp only [putV, List.set]) ?_
    refine wstepN rfl rfl (by dsimp only [putV, List.set]) ?_
    refine wstepN rfl rfl (by dsimp only [putV, List.set]) ?_
    first
      | refine wskipN rfl (by dsimp only [putV, List.set]) ?_
      | refine wstepN rfl rfl (by dsimp only [putV, List.set]) ?_
    first
      | refine wskipN rfl (by dsimp only [putV, List.set]) ?_
      | refine wstepN rfl rfl (by dsimp only [putV, List.set]) ?_
    first
      | refine wskipN rfl (by dsimp only [putV, List.set]) ?_
      | refine wstepN rfl (eqlK (by assumption) rfl rfl) (by dsimp only [putV, List.set]) ?_
      | refine wstepN rfl rfl (by dsimp only [putV, List.set]) ?_
    refine wstepN rfl rfl (by dsimp only [putV, List.set]) ?_
    refine wstepN rfl rfl (by dsimp only [putV, List.set]) ?_
    first
      | refine wskipN rfl (by dsimp only [putV, List.set]) ?_
      | refine wstepN rfl (hit9 (by first | assumption | omega)) (by dsimp only [putV, List.set]) ?_
      | refine wstepN rfl (T1_hit) (by dsimp only [putV, List.set]) ?_
      | refine wstepN rfl (TabP_use (by assumption) (by assumption)) (by dsimp only [putV, List.set]) ?_
      | refine wstepN rfl (TabP_hit (fun v' h => by cases h; rfl) (by assumption)) (by dsimp only [putV, List.set]) ?_
      | refine wstepN rfl (TabP_hit (fun v' h => by cases h; rfl) (by constructor)) (by dsimp only [putV, List.set]) ?_
      | refine wstepN rfl rfl (by dsimp only [putV, List.set]) ?_
    refine wstepN rfl rfl (by dsimp only [putV, List.set]) ?_
    refine wstepN rfl rfl (by dsimp only [putV, List.set]) ?_
    refine wnil (Ok.ret ⟨fun _ h => (by cases h), _, rfl, rfl⟩)
  · generalize validB checkP l = e at hvr hv
    have hq : (e != 0) = true := by simpa using hv
    refine Ok.seq (Ok.regionW (G := fun _ => true) (C := TabP _) mixed layOk hT TabP_calm (.inl rfl) ?_)
    refine wstepN rfl rfl (by dsimp only [putV, List.set]) ?_
    first
      | refine wstepN rfl (hit8 (by first | assumption | omega)) (by dsimp only [putV, List.set]) ?_
      | refine wstepN rfl (T1_hit) (by dsimp only [putV, List.set]) ?_
      | refine wstepN rfl (TabP_use (by assumption) (by assumption)) (by dsimp only [putV, List.set]) ?_
      | refine wstepN rfl (TabP_hit (fun v' h => by cases h; rfl) (by assumption)) (by dsimp only [putV, List.set]) ?_
      | refine wstepN rfl (TabP_hit (fun v' h => by cases h; rfl) (by constructor)) (by dsimp only [putV, List.set]) ?_
      | refine wstepN rfl rfl (by dsimp only [putV, List.set]) ?_
    refine wstepN rfl rfl (by dsimp only [putV, List.set]) ?_
    refine wstepN rfl rfl (by dsimp only [putV, List.set]) ?_
    first
      | refine wskipN rfl (by dsimp only [putV, List.set]) ?_
      | refine wstepN rfl rfl (by dsimp only [putV, List.set]) ?_
    first
      | refine wskipN rfl (by dsimp only [putV, List.set]) ?_
      | refine wstepN rfl (hit15 (by first | assumption | omega)) (by dsimp only [putV, List.set]) ?_
      | refine wstepN rfl (T1_hit) (by dsimp only [putV, List.set]) ?_
      | refine wstepN rfl (TabP_use (by assumption) (by assumption)) (by dsimp only [putV, List.set]) ?_
      | refine wstepN rfl (TabP_hit (fun v' h => by cases h; rfl) (by assumption)) (by dsimp only [putV, List.set]) ?_
      | refine wstepN rfl (TabP_hit (fun v' h => by cases h; rfl) (by constructor)) (by dsimp only [putV, List.set]) ?_
      | refine wstepN rfl rfl (by dsimp only [putV, List.set]) ?_
    first
      | refine wskipN rfl (by dsimp only [putV, List.set]) ?_
      | refine wstepN rfl rfl (by dsimp only [putV, List.set]) ?_
    refine wstepN rfl rfl (by dsimp only [putV, List.set]) ?_
    refine wstepN rfl rfl (by dsimp only [putV, List.set]) ?_
    first
      | refine wskipN rfl (by dsimp only [putV, List.set]) ?_
      | refine wstepN rfl rfl (by dsimp only [putV, List.set]) ?_
    first
      | refine wskipN rfl (by dsimp only [putV, List.set]) ?_
      | refine wstepN rfl (lenT rfl rfl) (by dsimp only [putV, List.set]) ?_
      | refine wstepN rfl rfl (by dsimp only [putV, List.set]) ?_
    first
      | refine wskipN rfl (by dsimp only [putV, List.set]) ?_
      | refine wstepN rfl (gtrK h9000 rfl rfl) (by dsimp only [putV, List.set]) ?_
      | refine wstepN rfl (gtrK (by assumption) rfl rfl) (by dsimp only [putV, List.set]) ?_
      | refine wstepN rfl rfl (by dsimp only [putV, List.set]) ?_
    refine wstepN rfl rfl (by dsimp only [putV, List.set]) ?_
    refine wstepN rfl rfl (by dsimp only [putV, List.set]) ?_
    first
      | refine wskipN rfl (by dsimp only [putV, List.set]) ?_
      | refine wstepN rfl rfl (by dsimp only [putV, List.set]) ?_
    first
      | refine wskipN rfl (by dsimp only [putV, List.set]) ?_
      | refine wstepN rfl (hit11 (by first | assumption | omega)) (by dsimp only [putV, List.set]) ?_
      | refine wstepN rfl (T1_hit) (by dsimp only [putV, List.set]) ?_
      | refine wstepN rfl (TabP_use (by assumption) (by assumption)) (by dsimp only [putV, List.set]) ?_
      | refine wstepN rfl (TabP_hit (fun v' h => by cases h; rfl) (by assumption)) (by dsimp only [putV, List.set]) ?_
      | refine wstepN rfl (TabP_hit (fun v' h => by cases h; rfl) (by constructor)) (by dsimp only [putV, List.set]) ?_
      | refine wstepN rfl rfl (by dsimp only [putV, List.set]) ?_
    first
      | refine wskipN rfl (by dsimp only [putV, List.set]) ?_
      | refine wstepN rfl (neqK (by assumption) rfl rfl) (by dsimp only [putV, List.set]) ?_
      | refine wstepN rfl rfl (by dsimp only [putV, List.set]) ?_
    refine wstepN rfl rfl (by dsimp only [putV, List.set]) ?_
    refine wnil (Ok.cond (b := true) rfl (fun _ => ?_) (fun h => by cases h))
    refine Ok.seq (Ok.regionW (G := fun _ => true) (C := TabP _) mixed layOk hT TabP_calm (.inl rfl) ?_)
    first
      | refine wstepN rfl (hit9 (by first | assumption | omega)) (by dsimp only [putV, List.set]) ?_
      | refine wstepN rfl (T1_hit) (by dsimp only [putV, List.set]) ?_
      | refine wstepN rfl (TabP_use (by assumption) (by assumption)) (by dsimp only [putV, List.set]) ?_
      | refine wstepN rfl (TabP_hit (fun v' h => by cases h; rfl) (by assumption)) (by dsimp only [putV, List.set]) ?_
      | refine wstepN rfl (TabP_hit (fun v' h => by cases h; rfl) (by constructor)) (by dsimp only [putV, List.set]) ?_
      | refine wstepN rfl rfl (by dsimp only [putV, List.set]) ?_
    refine wstepN rfl rfl (by dsimp only [putV, List.set]) ?_
    refine wnil (Ok.ret ⟨fun _ h => (by cases h), _, rfl, rfl⟩)

end Go.Proofs.YtiefcnghjcafbaaDoorV

/- The calculus of values, twenty-fourth text: a law's arguments, opened. -/
namespace Go.Proofs.YtiefcnghjcafbaaDoorV
open Go Go.RowKit

/-- The shape of a cell. -/
inductive Sh where
  | int (k : IntKind)
  | bool
  | str
  | sl (r : List Sh)
  | raw

/-- The shapes of a type's cells. -/
inductive IsSh (P : Program) : TypeId → List Sh → Prop
  | int {t : TypeId} {k : IntKind} (h : P.underlying t = some (.int k)) : IsSh P t [.int k]
  | bool {t : TypeId} (h : P.underlying t = some .bool) : IsSh P t [.bool]
  | str {t : TypeId} (h : P.underlying t = some .string) : IsSh P t [.str]
  | sl {t e : TypeId} {r : List Sh} (h : P.underlying t = some (.slice e)) (hr : IsSh P e r) (hc : P.cellsOf e = r.length) (h0 : 0 < r.length) : IsSh P t [.sl r]
  | raw {t e : TypeId} (h : P.underlying t = some (.slice e)) : IsSh P t [.raw]
  | struct {t : TypeId} {fs : Array Field} {rs : List (List Sh)} (h : P.underlying t = some (.struct fs)) (hl : rs.length = fs.size) (hf : ∀ (i : Nat) f r, fs[i]? = some f → rs[i]? = some r → IsSh P f.type r)
      (ho : ∀ (i : Nat) f, fs[i]? = some f → f.offset = (rs.take i).flatten.length) (hc : ∀ (i : Nat) f r, fs[i]? = some f → rs[i]? = some r → P.cellsOf f.type = r.length) (ht : P.cellsOf t = rs.flatten.length) : IsSh P t rs.flatten

/-- A value of a shape. -/
inductive TyS : Sh → S → Prop
  | int (k : IntKind) (n : Int) (h : (Lit.int k n).wf = true) : TyS (.int k) (.val (.int k n))
  | bool (b : Bool) : TyS .bool (.val (.bool b))
  | str (s : ByteArray) (h : s.size ≤ maxLen) : TyS .str (.val (.string s))
  | sl (r : List Sh) (xs : List (List S)) (hl : ∀ x ∈ xs, x.length = r.length) (h : ∀ x ∈ xs, ∀ (i : Nat) s c, x[i]? = some s → r[i]? = some c → TyS c s) : TyS (.sl r) (.sl xs)
  | raw (v : Value) (h : scalar v = true) : TyS .raw (.val v)

/-- Cells beside their values. -/
def Opens (w : World) (r : List Sh) (cs : List Value) (ss : List S) : Prop :=
  cs.length = r.length ∧ ss.length = r.length ∧ (∀ (i : Nat) s v, ss[i]? = some s → cs[i]? = some v → RS (fun _ => True) w s v) ∧ ∀ (i : Nat) s c, ss[i]? = some s → r[i]? = some c → TyS c s

section
variable {H : Type} {enc : TypeId × Value → H} {P : Program} {w : World} {base : Nat} {spare : Nat → Bool} {held : Bool}

theorem opens_one {c : Sh} {v : Value} {s : S} (hr : RS (fun _ => True) w s v) (ht : TyS c s) : Opens w [c] [v] [s] :=
  ⟨rfl, rfl, fun i s' v' h1 h2 => by
    cases i with
    | zero =>
      obtain rfl : s = s' := by simpa using h1
      obtain rfl : v = v' := by simpa using h2
      exact hr
    | succ i => simp at h1, fun i s' c' h1 h2 => by
    cases i with
    | zero =>
      obtain rfl : s = s' := by simpa using h1
      obtain rfl : c = c' := by simpa using h2
      exact ht
    | succ i => simp at h1⟩

theorem opens_append {r1 r2 : List Sh} {c1 c2 : List Value} {s1 s2 : List S} (h1 : Opens w r1 c1 s1) (h2 : Opens w r2 c2 s2) : Opens w (r1 ++ r2) (c1 ++ c2) (s1 ++ s2) := by
  obtain ⟨a1, a2, a3, a4⟩ := h1
  obtain ⟨b1, b2, b3, b4⟩ := h2
  refine ⟨by simp [a1, b1], by simp [a2, b2], fun i s v hs hv => ?_, fun i s c hs hc => ?_⟩
  · rcases Nat.lt_or_ge i s1.length with h | h
    · rw [List.getElem?_append_left h] at hs
      rw [List.getElem?_append_left (by omega)] at hv
      exact a3 i s v hs hv
    · rw [List.getElem?_append_right h] at hs
      rw [List.getElem?_append_right (by omega), show i - c1.length = i - s1.length by omega] at hv
      exact b3 _ s v hs hv
  · rcases Nat.lt_or_ge i s1.length with h | h
    · rw [List.getElem?_append_left h] at hs
      rw [List.getElem?_append_left (by omega)] at hc
      exact a4 i s c hs hc
    · rw [List.getElem?_append_right h] at hs
      rw [List.getElem?_append_right (by omega), show i - r1.length = i - s1.length by omega] at hc
      exact b4 _ s c hs hc

theorem choose_rows {α β : Type} {R : Nat → α → β → Prop} : ∀ (l : List α) (k : Nat), (∀ i a, l[i]? = some a → ∃ b, R (k + i) a b) → ∃ m : List β, m.length = l.length ∧ ∀ (i : Nat) a b, l[i]? = some a → m[i]? = some b → R (k + i) a b
  | [], k, h => ⟨[], rfl, fun i a b h => by simp at h⟩
  | x :: l, k, h => by
    obtain ⟨b, hb⟩ := h 0 x rfl
    obtain ⟨m, h1, h2⟩ := choose_rows l (k + 1) fun i a ha => by
      obtain ⟨b, hb⟩ := h (i + 1) a (by simpa using ha)
      exact ⟨b, by rwa [show k + 1 + i = k + (i + 1) by omega]⟩
    refine ⟨b :: m, by simp [h1], fun i a c ha hc => ?_⟩
    cases i with
    | zero =>
      obtain rfl : x = a := by simpa using ha
      obtain rfl : b = c := by simpa using hc
      exact hb
    | succ i =>
      have := h2 i a c (by simpa using ha) (by simpa using hc)
      rwa [show k + (i + 1) = k + 1 + i by omega]

theorem opens {t : TypeId} {r : List Sh} (hs : IsSh P t r) : ∀ {fuel : Nat} {cs : List Value} {x : DataW H × List MemPlace}, DataW.trod enc P w base spare held fuel t cs = some x → ∃ ss, Opens w r cs ss := by
  induction hs with
  | int h =>
    intro fuel cs x hx
    obtain ⟨n, rfl, _, hw⟩ := DataW.trod_int h hx
    exact ⟨[.val (.int _ n)], opens_one (.val _ rfl) (.int _ n hw)⟩
  | bool h =>
    intro fuel cs x hx
    obtain ⟨b, rfl, _⟩ := DataW.trod_bool h hx
    exact ⟨[.val (.bool b)], opens_one (.val _ rfl) (.bool b)⟩
  | str h =>
    intro fuel cs x hx
    obtain ⟨s, rfl, _, hl⟩ := DataW.trod_string h hx
    exact ⟨[.val (.string s)], opens_one (.val _ rfl) (.str s hl)⟩
  | raw h =>
    intro fuel cs x hx
    rcases DataW.trod_slice h hx with ⟨rfl, _⟩ | ⟨a, len, cap, elems, rest, n, _, rfl, _⟩
    · exact ⟨[.val _], opens_one (.val _ rfl) (.raw _ rfl)⟩
    · exact ⟨[.val _], opens_one (.val _ rfl) (.raw _ rfl)⟩
  | @sl t e r h hr hc h0 ih =>
    intro fuel cs x hx
    rcases DataW.trod_slice h hx with ⟨rfl, _⟩ | ⟨a, len, cap, elems, rest, n, _, rfl, _, hb, hl, hm, hlen, hel, _, _⟩
    · exact ⟨[.sl []], opens_one (.nil none 0 (Nat.zero_le _)) (.sl r [] (fun x hx => by cases hx) (fun x hx => by cases hx))⟩
    · have each : ∀ i, i < len → ∃ vs ss, w.cells? base (a.add (i * r.length)) r.length = some vs ∧ Opens w r vs ss := by
        intro i hi
        have h1 := hel i hi
        rw [hc] at h1
        have h2 : elems[i]? = some elems[i] := List.getElem?_eq_getElem (by omega)
        rw [h2, Option.bind_eq_some_iff] at h1
        obtain ⟨vs, hv, ht⟩ := h1
        obtain ⟨ss, hss⟩ := ih ht
        exact ⟨vs, ss, hv, hss⟩
      obtain ⟨rows, hrl, hrows⟩ := choose_rows (R := fun i (_ : Nat) (ss : List S) => ∃ vs, w.cells? base (a.add (i * r.length)) r.length = some vs ∧ Opens w r vs ss) (List.range len) 0 fun i q hq => by
        have hi : i < len := by
          have := (List.getElem?_eq_some_iff.1 hq).1
          simpa using this
        obtain ⟨vs, ss, h1, h2⟩ := each i hi
        exact ⟨ss, vs, by rwa [Nat.zero_add], h2⟩
      have hrl' : rows.length = len := by simpa using hrl
      have hrow : ∀ (i : Nat) ss, rows[i]? = some ss → ∃ vs, w.cells? base (a.add (i * r.length)) r.length = some vs ∧ Opens w r vs ss := fun i ss hi => by
        have hlt : i < len := by rw [← hrl']; exact (List.getElem?_eq_some_iff.1 hi).1
        have := hrows i i ss (by simp [hlt]) hi
        rwa [Nat.zero_add] at this
      have hty : TyS (.sl r) (.sl rows) := .sl r rows (fun x hx => by
        obtain ⟨i, hi⟩ := List.mem_iff_getElem?.1 hx
        obtain ⟨vs, _, ho⟩ := hrow i x hi
        exact ho.2.1) fun x hx i s c h1 h2 => by
        obtain ⟨j, hj⟩ := List.mem_iff_getElem?.1 hx
        obtain ⟨vs, _, ho⟩ := hrow j x hj
        exact ho.2.2.2 i s c h1 h2
      by_cases hx0 : rows = []
      · subst hx0
        obtain rfl : len = 0 := by simpa using hrl'.symm
        exact ⟨[.sl []], opens_one (.nil _ cap hm) hty⟩
      · have hcell : ∀ (i : Nat) x (j : Nat) y, rows[i]? = some x → x[j]? = some y → ∃ v, w.cell? (a.add (i * r.length + j)) = some v ∧ RS (fun _ => True) w y v := fun i x j y hi hj => by
          obtain ⟨vs, hv, ho⟩ := hrow i x hi
          obtain ⟨_, h1, h2⟩ := World.cells?_some hv
          have hjl : j < r.length := by rw [← ho.2.1]; exact (List.getElem?_eq_some_iff.1 hj).1
          have h3 := h2 j hjl
          rw [add_add] at h3
          have h4 : vs[j]? = some (vs.getD j Go.undef) := by simp [List.getD, List.getElem?_eq_getElem (show j < vs.length by omega)]
          exact ⟨vs.getD j Go.undef, by rw [h3, h4], ho.2.2.1 j y _ hj h4⟩
        have hlt : a.block < w.heap.size := by
          obtain ⟨x, hx⟩ := List.exists_mem_of_ne_nil _ hx0
          obtain ⟨i, hi⟩ := List.mem_iff_getElem?.1 hx
          obtain ⟨vs, hv, ho⟩ := hrow i x hi
          obtain ⟨y, hy⟩ : ∃ y, x[0]? = some y := ⟨_, List.getElem?_eq_getElem (by rw [ho.2.1]; exact h0)⟩
          obtain ⟨v, hc1, _⟩ := hcell i x 0 y hi hy
          have := cell_lt hc1
          rwa [add_block] at this
        have := RS.cons (ok := fun _ => True) (w := w) rows a cap r.length (fun i j => (w.cell? (a.add (i * r.length + j))).getD Go.undef) hx0 (fun x hx => by
            obtain ⟨i, hi⟩ := List.mem_iff_getElem?.1 hx
            obtain ⟨vs, _, ho⟩ := hrow i x hi
            exact ho.2.1) (by omega) hm trivial hlt (fun i x j y hi hj => by
            obtain ⟨v, h1, _⟩ := hcell i x j y hi hj
            rw [h1]; rfl) (fun i x j y hi hj => by
            obtain ⟨v, h1, h2⟩ := hcell i x j y hi hj
            rw [h1]; exact h2)
        rw [hrl'] at this
        exact ⟨[.sl rows], opens_one this hty⟩
  | @struct t fs rs h hl hf ho hc ht ih =>
    intro fuel cs x hx
    obtain ⟨xs, n, _, _, hcl, hxl, hread⟩ := DataW.trod_struct h hx
    have key : ∀ k, k ≤ rs.length → ∃ ss, Opens w (rs.take k).flatten (cs.take (rs.take k).flatten.length) ss := by
      intro k
      induction k with
      | zero => intro _; exact ⟨[], by simp [Opens]⟩
      | succ k ihk =>
        intro hk
        obtain ⟨ss, hss⟩ := ihk (by omega)
        obtain ⟨r, hr⟩ : ∃ r, rs[k]? = some r := ⟨_, List.getElem?_eq_getElem (by omega)⟩
        obtain ⟨f, hf1⟩ : ∃ f, fs[k]? = some f := ⟨_, Array.getElem?_eq_getElem (by omega)⟩
        obtain ⟨y, hy⟩ : ∃ y, xs[k]? = some y := ⟨_, List.getElem?_eq_getElem (by omega)⟩
        have h1 := hread k f hf1
        rw [hy, ho k f hf1, hc k f r hf1 hr] at h1
        obtain ⟨s2, hs2⟩ := ih k f r hf1 hr h1
        have e1 : (rs.take (k + 1)).flatten = (rs.take k).flatten ++ r := by
          rw [List.take_add_one, hr]
          simp
        refine ⟨ss ++ s2, ?_⟩
        rw [e1, List.length_append, List.take_add]
        exact opens_append hss hs2
    obtain ⟨ss, hss⟩ := key rs.length (Nat.le_refl _)
    rw [List.take_length, List.take_of_length_le (by omega)] at hss
    exact ⟨ss, hss⟩
end

end Go.Proofs.YtiefcnghjcafbaaDoorV

/- The calculus of values, twenty-fifth text: a law's arguments as values, and as they read behind the call. -/
namespace Go.Proofs.YtiefcnghjcafbaaDoorV
open Go Go.RowKit

section
variable {H : Type} {enc : TypeId × Value → H} {P : Program} {w : World} {base : Nat} {spare : Nat → Bool} {held : Bool}

theorem stays (hl : laidOutB P = true) {W W' : World} (hb : Below W.heap.size W W') : ∀ {ts : List TypeId} {vs : List Value} {ds : List (DataW H)} {ps : List MemPlace}, (∀ t ∈ ts, P.readableRec t = true ∧ t < P.types.size) →
    DataW.TrodAll enc P W 0 (fun _ => true) true ts vs ds ps → DataW.TrodAll enc P W' 0 (fun b => decide (b < W.heap.size)) true ts vs ds ps
  | [], [], [], ps, _, h => h
  | t :: ts, v :: vs, d :: ds, ps, hr, h => by
    obtain ⟨p, q, h1, h2, rfl⟩ := h
    obtain ⟨fuel, hf⟩ := h1
    obtain ⟨k1, k2⟩ := hr t List.mem_cons_self
    exact ⟨p, q, hb.trod hl k1 k2 ⟨fuel, hf⟩ (DataW.trod_lt fuel t _ _ hf), stays hl hb (fun t ht => hr t (List.mem_cons_of_mem _ ht)) h2, rfl⟩
  | [], _ :: _, _, _, _, h => h.elim
  | [], [], _ :: _, _, _, h => h.elim
  | _ :: _, [], _, _, _, h => h.elim
  | _ :: _, _ :: _, [], _, _, h => h.elim

/-- A struct. -/
theorem arg_struct {t : TypeId} {r : List Sh} {fs : Array Field} {v : Value} {d : DataW H} {p : List MemPlace} (hs : IsSh P t r) (ht : P.underlying t = some (.struct fs)) {rc : Reach} {b0 : Nat} (hv : Value.okWide P w rc b0 t v) (h : DataW.Trod enc P w base spare held t v d p) :
    ∃ ss : List S, ss.length = r.length ∧ RV (fun _ => True) w [] (.agg (ss.map S.up)) v ∧ ∀ (i : Nat) s c, ss[i]? = some s → r[i]? = some c → TyS c s := by
  obtain ⟨fuel, hf⟩ := h
  obtain ⟨arr, rfl, _⟩ := Go.WideShapes.okWide_struct ht hv
  obtain ⟨ss, h1, h2, h3, h4⟩ := opens hs hf
  have hc : (Value.agg arr).cells = arr := rfl
  rw [hc] at h1 h3
  refine ⟨ss, h2, .agg _ arr (by simp at h1 ⊢; omega) (fun c hm => ?_) (fun i c hi => ?_), h4⟩
  · obtain ⟨s, _, rfl⟩ := List.mem_map.1 hm
    exact S.up_atomic s
  · rw [List.getElem?_map] at hi
    obtain ⟨s, hs1, rfl⟩ := Option.map_eq_some_iff.1 hi
    have hlt : i < arr.size := by
      have := (List.getElem?_eq_some_iff.1 hs1).1
      simp at h1
      omega
    have := h3 i s (arr.getD i Go.undef) hs1 (by simp [Array.getD, hlt])
    exact this.up

/-- A slice. -/
theorem arg_slice {t e : TypeId} {r : List Sh} {v : Value} {d : DataW H} {p : List MemPlace} (hs : IsSh P t [.sl r]) (hcells : v.cells = #[v]) (h : DataW.Trod enc P w base spare held t v d p) :
    ∃ xs : List (List S), RV (fun _ => True) w [] (.sl xs) v ∧ TyS (.sl r) (.sl xs) := by
  obtain ⟨fuel, hf⟩ := h
  obtain ⟨ss, h1, h2, h3, h4⟩ := opens hs hf
  rw [hcells] at h3
  match ss, h2, h3, h4 with
  | [s], _, h3, h4 =>
    have ht := h4 0 s _ rfl rfl
    cases ht with
    | sl r xs hl h => exact ⟨xs, .sl xs v (h3 0 _ v rfl rfl), .sl r xs hl h⟩
end

/-- Rows of one number each. -/
theorem ints_of {k : IntKind} {xs : List (List S)} (h : TyS (.sl [.int k]) (.sl xs)) : ∃ is : List Int, xs = is.map fun n => [.val (.int k n)] := by
  cases h with
  | sl r xs hl h =>
    induction xs with
    | nil => exact ⟨[], rfl⟩
    | cons x xs ih =>
      obtain ⟨is, rfl⟩ := ih (fun y hy => hl y (List.mem_cons_of_mem _ hy)) (fun y hy => h y (List.mem_cons_of_mem _ hy))
      have h1 := hl x List.mem_cons_self
      match x, h1 with
      | [s], _ =>
        have h2 := h [s] List.mem_cons_self 0 s _ rfl rfl
        cases h2 with
        | int k n hw => exact ⟨n :: is, rfl⟩

end Go.Proofs.YtiefcnghjcafbaaDoorV

/- The tied card of the law FilesChanges: for every input the law returns true, and each argument reads as before; the two listed tables are tied to the text. -/
namespace Go.Proofs.YtiefcnghjcafbaaDoor.filesChanges
open Go Go.ChangeShapes Go.WideShapes Go.ChangeMaps Go.ChangeAt Go.RowKit Go.Proofs.YtiefcnghjcafbaaDoorV Go.Proofs.YtiefcnghjcafbaaDoor
theorem own : ownKnob Tryd.prog.godebug = none := by kernel_rfl
noncomputable def laid : List (String × DataW Unit) := [("unicode/utf8.acceptRanges", Rows.laid_unicode_utf8_acceptRanges), ("unicode/utf8.first", Rows.laid_unicode_utf8_first)]
theorem sh45 : IsSh Tryd.prog 45 [.str, .bool, .str] := by
  refine IsSh.struct (rs := [[.str], [.bool], [.str]]) Tryd.underlying45 rfl ?_ ?_ ?_ (by kernel_rfl)
  · intro i f r h1 h2
    rcases i with _ | _ | _ | i <;> cases h1 <;> cases h2
    · exact .str Tryd.underlying9
    · exact .bool Tryd.underlying4
    · exact .str Tryd.underlying9
  · intro i f h1
    rcases i with _ | _ | _ | i <;> cases h1 <;> rfl
  · intro i f r h1 h2
    rcases i with _ | _ | _ | i <;> cases h1 <;> cases h2 <;> kernel_rfl
theorem sh22 : IsSh Tryd.prog 22 [.sl [.str, .bool, .str]] := .sl Tryd.underlying22 sh45 (by kernel_rfl) (by decide)
theorem files_of {xs : List (List S)} (h : TyS (.sl [.str, .bool, .str]) (.sl xs)) : ∃ l : List Fl, xs = rowsF l := by
  cases h with
  | sl r xs hl h =>
    induction xs with
    | nil => exact ⟨[], rfl⟩
    | cons x xs ih =>
      obtain ⟨l, rfl⟩ := ih (fun y hy => hl y (List.mem_cons_of_mem _ hy)) (fun y hy => h y (List.mem_cons_of_mem _ hy))
      have h1 := hl x List.mem_cons_self
      match x, h1 with
      | [s0, s1, s2], _ =>
        have t0 := h [s0, s1, s2] List.mem_cons_self 0 s0 _ rfl rfl
        have t1 := h [s0, s1, s2] List.mem_cons_self 1 s1 _ rfl rfl
        have t2 := h [s0, s1, s2] List.mem_cons_self 2 s2 _ rfl rfl
        obtain ⟨a, rfl⟩ : ∃ a, s0 = .val (.string (B a)) := by cases t0 with | str s h => exact ⟨_, by rw [← B_data]⟩
        obtain ⟨d, rfl⟩ : ∃ d, s1 = .val (.bool d) := by cases t1; exact ⟨_, rfl⟩
        obtain ⟨e, rfl⟩ : ∃ a, s2 = .val (.string (B a)) := by cases t2 with | str s h => exact ⟨_, by rw [← B_data]⟩
        exact ⟨⟨a, d, e⟩ :: l, rfl⟩
set_option maxRecDepth 100000 in
theorem lifted (os : Os) (started : os.Started) (H : Type) (enc : TypeId × Value → H) :
    ReturnsInHanded {} Tryd.checked os 6 .any (fun w args => (Rows.filesChangesSpec.pre enc Tryd.prog Tryd.f6 [] false w args ∧ laidMetH Tryd.prog laid w) ∧ sizedMet enc Tryd.prog Tryd.f6 (OpenSpec.ofChange Rows.filesChangesSpec) false w args)
      (Rows.filesChangesSpec.post enc Tryd.prog Tryd.f6 false true false false) := by
  refine returnsInHanded_of_change_and (C := Tryd.checked) (X := fun w _ => laidMetH Tryd.prog laid w) (fun _ _ _ hh h => h.of_heap hh) own started (by kernel_rfl) Tryd.func6
    (ChangeSpec.witness_shaped (enc := enc) (C := Tryd.checked) (os := os) (X := fun w _ => laidMetH Tryd.prog laid w) false (World.laidAll Tryd.prog os laid) #[.slice none 0 0, .string ⟨#[]⟩, .string ⟨#[]⟩] 8 (World.laidAll_os _ _ _)
      (World.shaped_of_ZipB (by kernel_rfl) (by kernel_rfl)) (by kernel_rfl) (by kernel_rfl) (by kernel_rfl)
      (by rw [MakeChecks.laidMetH_plain _ _ _ (by kernel_rfl)]; exact laidMet_laidAll _ (by kernel_rfl) (by kernel_rfl))) ?_
  intro W base args ds gs before hval0 hW _ hsz0 _ _
  have hval : ∀ (j : Nat) t v, Tryd.f6.params[j]? = some t → args[j]? = some v → Value.okWide Tryd.prog W .any base t v := hval0
  have hW' := hW
  obtain ⟨p, q, hA0, hV, rfl, hfz, hnd⟩ := hW
  have hA : DataW.TrodAll enc Tryd.prog W 0 (fun _ => true) true Tryd.f6.params.toList args.toList ds p := hA0
  rw [Tryd.params6] at hA hval
  have hA1 := hA
  obtain ⟨v0, vs0, d0, ds0, p0, q0, hargs, rfl, rfl, h0, r0⟩ := trodAll_cons hA
  obtain ⟨v1, vs1, d1, ds1, p1, q1, rfl, rfl, rfl, h1, r1⟩ := trodAll_cons r0
  obtain ⟨v2, vs2, d2, ds2, p2, q2, rfl, rfl, rfl, h2, r2⟩ := trodAll_cons r1
  obtain ⟨rfl, rfl, rfl⟩ := trodAll_nil r2
  obtain rfl : args = #[v0, v1, v2] := by cases args; simp_all
  obtain ⟨rfl, rfl⟩ := trodVars_none hV
  obtain ⟨A0, n0, c0, e0⟩ := Go.WideShapes.okWide_slice Tryd.underlying22 (hval 0 22 v0 rfl rfl)
  obtain ⟨xs0, hr0, ht0⟩ := arg_slice (e := 45) sh22 (by rw [e0]; rfl) h0
  obtain ⟨l0, rfl⟩ := files_of ht0
  obtain ⟨s1, rfl, rfl, rfl, w1⟩ := open_string Tryd.underlying9 (hval 1 9 v1 rfl rfl) h1
  obtain ⟨l1, rfl⟩ : ∃ l, s1 = B l := ⟨_, B_data s1⟩
  obtain ⟨s2, rfl, rfl, rfl, w2⟩ := open_string Tryd.underlying9 (hval 2 9 v2 rfl rfl) h2
  obtain ⟨l2, rfl⟩ : ∃ l, s2 = B l := ⟨_, B_data s2⟩
  clear hA0 hval0 hsz0
  refine (law_call (law6 l0 l1 l2) (w := W) (vargs := #[v0, .string (B l1), .string (B l2)]) ⟨rfl, fun i c hi => ?_⟩).mono fun e W' ⟨he, bel⟩ => ?_
  · match i, hi with
    | 0, hi => obtain rfl := Option.some.inj hi; exact hr0
    | 1, hi => obtain rfl := Option.some.inj hi; exact .val _ rfl
    | 2, hi => obtain rfl := Option.some.inj hi; exact .val _ rfl
    | i + 3, hi => simp at hi
  subst he
  exact ⟨_, rfl, _, _, _, [], _, [], hW', trodAll_mk1 (shut_bool Tryd.underlying4 _), stays (by kernel_rfl) bel (of_decide_eq_true (by kernel_rfl)) hA1, rfl, bel.frame _, fun h => by cases h⟩
theorem over : Rows.filesChangesRow.holds Tryd.pinned (OpenSpec.ofChange Rows.filesChangesSpec) :=
  OpenClaim.holds_of_wide 6 Tryd.f6 rfl rfl rfl rfl rfl rfl rfl ⟨rfl, rfl, rfl, rfl, rfl⟩ rfl rfl rfl rfl rfl (by kernel_rfl) Tryd.func6 (by kernel_rfl)
    (of_decide_eq_true (by kernel_rfl)) (by unfold Func.isWrapper; first | (rw [if_pos (by decide +kernel)]; kernel_rfl) | (rw [if_neg (by decide +kernel)]; exact ⟨rfl, rfl⟩))
    (fun os started H enc _ => lifted os started H enc)
end Go.Proofs.YtiefcnghjcafbaaDoor.filesChanges
namespace Go.Proofs.YtiefcnghjcafbaaDoor
/-- The tied card holds. -/
theorem filesChanges_card_holds : Rows.FilesChangesCardSaid :=
  Claim7.holds_tied_plain_at .later [] [.data, .pinned] true (true, "aca7594db9ff0d93d77f1e814c5b7da2aff19731a7df622b2ac5446e91a458f9") false
    filesChanges.over (fun _ h => by cases h) (by kernel_rfl) (fun _ h => by cases h) filesChanges_row_tie rfl ⟨rfl, rfl⟩ (by kernel_rfl) rfl
    (fun f fn hf hfn => by
      obtain rfl : f = 6 := Option.some.inj ((show Tryd.prog.funcNamed "jobshell/jobshelllaw19.FilesChanges" = some 6 by kernel_rfl).symm.trans hf) |>.symm
      obtain rfl : fn = Tryd.f6 := (Option.some.inj (Tryd.func6.symm.trans hfn)).symm
      exact ⟨by kernel_rfl, fun j t ht => by
        rw [Tryd.params6] at ht
        have hm : t ∈ [22, 9, 9] := by simpa using Array.mem_of_getElem? ht
        have hall : ([22, 9, 9].all fun u => !Tryd.prog.wantsStandIn u) = true := by kernel_rfl
        exact (show Tryd.prog.wantsStandIn t = false by simpa using List.all_eq_true.1 hall t hm)⟩)
    (by kernel_rfl)
end Go.Proofs.YtiefcnghjcafbaaDoor
