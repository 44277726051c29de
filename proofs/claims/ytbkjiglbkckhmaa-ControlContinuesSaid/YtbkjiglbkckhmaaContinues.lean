/- The law ControlContinues over plain values. -/
import Derived.Test.YtbkjiglbkckhmaaBack
import Derived.Test.YtbkjiglbkckhmaaSame
import Derived.Test.YtbkjiglbkckhmaaEx38
namespace Go.Proofs.YtbkjiglbkckhmaaV
open Go Go.RowKit Go.Proofs.Ytbkjiglbkckhmaa
set_option maxRecDepth 20000
set_option maxHeartbeats 1000000

def frontS (b own : Int) (ss : List Int) : List (List S) := (if b != own then [qFront b] else []) ++ backS b ss

section
variable (a b c : Int) (ps ss : List Int) (t : ByteArray) (n : Bool)

theorem front20 (own : Int) (hl : ss.length ≤ 60) : FnOk Try.prog 20 [jobV a b c ps ss t n, .val (i64 own)] [] (fun r bs' => fr bs' r = .sl (frontS b own ss)) := by
  refine FnOk.fast (Q := fun r => r = .sl (frontS b own ss)) layOk Try.func20 rfl ?_
  have hT : ∀ e ∈ [((22 : FuncId), [jobV a b c ps ss t n], V.sl (backS b ss))], (∀ bs, FnOk Try.prog e.1 e.2.1 bs (fun r b => r = e.2.2 ∧ b = bs)) ∧ Enters Try.prog e.1 := by
    intro e he
    obtain rfl := List.mem_singleton.1 he
    exact fact (back22 a b c ps ss t n hl) rfl rfl Try.call22
  unfold frontS
  unfold backS at hT ⊢
  generalize ss.any stop = r at hT ⊢
  refine Ok.seq (go 10 rfl ?_)
  refine Ok.seq (go 10 rfl ?_)
  unfold thn
  dsimp only
  refine Ok.seq (Ok.seq (Ok.regionW (G := fun _ => false) (C := fun _ _ _ => none) mixed layOk noCalls (fun _ _ h => by cases h) (.inl rfl) ?_))
  generalize hp : (b != own) = p
  refine wstepN rfl rfl (by dsimp only [putV, List.set]) ?_
  refine wstepN rfl rfl (by dsimp only [putV, List.set]) ?_
  refine wstepN rfl rfl (by dsimp only [putV, List.set]) ?_
  refine wstepN rfl (neq_is hp rfl rfl) (by dsimp only [putV, List.set]) ?_
  refine wnil (Ok.cond (b := p) rfl (fun h => ?_) (fun h => Ok.skip ?_))
  · subst h
    refine go 20 rfl ?_
    unfold thn
    dsimp only
    cases r
    all_goals
      refine Ok.seq (Ok.regionW (G := fun _ => true) (C := Tab _) mixed layOk (Tab_good hT) Tab_calm (.inr ⟨by kernel_rfl, by kernel_rfl⟩) ?_)
      refine wstepN rfl rfl (by dsimp only [putV, List.set]) ?_
      refine wstepN rfl rfl (by dsimp only [putV, List.set]) ?_
      refine wstepN rfl rfl (by dsimp only [putV, List.set]) ?_
      refine wstepN rfl Tab_hit (by dsimp only [putV, List.set]) ?_
      refine wstepN rfl rfl (by dsimp only [putV, List.set]) ?_
      refine wstepN rfl rfl (by dsimp only [putV, List.set]) ?_
      refine wnil ?_
      exact Ok.ret ⟨fun _ h => (by cases h), _, rfl, rfl⟩
  · subst h
    unfold thn
    dsimp only
    cases r
    all_goals
      refine Ok.seq (Ok.regionW (G := fun _ => true) (C := Tab _) mixed layOk (Tab_good hT) Tab_calm (.inr ⟨by kernel_rfl, by kernel_rfl⟩) ?_)
      refine wstepN rfl rfl (by dsimp only [putV, List.set]) ?_
      refine wstepN rfl rfl (by dsimp only [putV, List.set]) ?_
      refine wstepN rfl rfl (by dsimp only [putV, List.set]) ?_
      refine wstepN rfl Tab_hit (by dsimp only [putV, List.set]) ?_
      refine wstepN rfl rfl (by dsimp only [putV, List.set]) ?_
      refine wstepN rfl rfl (by dsimp only [putV, List.set]) ?_
      refine wnil ?_
      exact Ok.ret ⟨fun _ h => (by cases h), _, rfl, rfl⟩

theorem front21 (own : Int) (hl : ss.length ≤ 60) : FnOk Try.prog 21 [jobV a b c ps ss t n, .val (i64 own)] [] (fun r bs' => fr bs' r = .sl (frontS b own ss)) := by
  refine FnOk.fast (Q := fun r => r = .sl (frontS b own ss)) layOk Try.func21 rfl ?_
  have hT : ∀ e ∈ [((23 : FuncId), [jobV a b c ps ss t n], V.sl (backS b ss))], (∀ bs, FnOk Try.prog e.1 e.2.1 bs (fun r b => r = e.2.2 ∧ b = bs)) ∧ Enters Try.prog e.1 := by
    intro e he
    obtain rfl := List.mem_singleton.1 he
    exact fact (back23 a b c ps ss t n hl) rfl rfl Try.call23
  unfold frontS
  unfold backS at hT ⊢
  generalize ss.any stop = r at hT ⊢
  refine Ok.seq (go 10 rfl ?_)
  refine Ok.seq (go 10 rfl ?_)
  unfold thn
  dsimp only
  refine Ok.seq (Ok.seq (Ok.regionW (G := fun _ => false) (C := fun _ _ _ => none) mixed layOk noCalls (fun _ _ h => by cases h) (.inl rfl) ?_))
  generalize hp : (b != own) = p
  refine wstepN rfl rfl (by dsimp only [putV, List.set]) ?_
  refine wstepN rfl rfl (by dsimp only [putV, List.set]) ?_
  refine wstepN rfl rfl (by dsimp only [putV, List.set]) ?_
  refine wstepN rfl (neq_is hp rfl rfl) (by dsimp only [putV, List.set]) ?_
  refine wnil (Ok.cond (b := p) rfl (fun h => ?_) (fun h => Ok.skip ?_))
  · subst h
    refine go 20 rfl ?_
    unfold thn
    dsimp only
    cases r
    all_goals
      refine Ok.seq (Ok.regionW (G := fun _ => true) (C := Tab _) mixed layOk (Tab_good hT) Tab_calm (.inl rfl) ?_)
      refine wstepN rfl rfl (by dsimp only [putV, List.set]) ?_
      refine wstepN rfl rfl (by dsimp only [putV, List.set]) ?_
      refine wstepN rfl Tab_hit (by dsimp only [putV, List.set]) ?_
      refine wstepN rfl rfl (by dsimp only [putV, List.set]) ?_
      refine wstepN rfl rfl (by dsimp only [putV, List.set]) ?_
      refine wnil ?_
      exact Ok.ret ⟨fun _ h => (by cases h), _, rfl, rfl⟩
  · subst h
    unfold thn
    dsimp only
    cases r
    all_goals
      refine Ok.seq (Ok.regionW (G := fun _ => true) (C := Tab _) mixed layOk (Tab_good hT) Tab_calm (.inl rfl) ?_)
      refine wstepN rfl rfl (by dsimp only [putV, List.set]) ?_
      refine wstepN rfl rfl (by dsimp only [putV, List.set]) ?_
      refine wstepN rfl Tab_hit (by dsimp only [putV, List.set]) ?_
      refine wstepN rfl rfl (by dsimp only [putV, List.set]) ?_
      refine wstepN rfl rfl (by dsimp only [putV, List.set]) ?_
      refine wnil ?_
      exact Ok.ret ⟨fun _ h => (by cases h), _, rfl, rfl⟩

theorem few14j : FnOk Try.prog 14 [.agg ((lay.zero 34).getD []), jobV a b c ps ss t n] [] (fun r bs' => fr bs' r = .val (.bool (decide (((ps.map num).length : Int) ≤ 60) && decide (((ss.map num).length : Int) ≤ 60)))) := by
  refine FnOk.fast (Q := fun r => r = .val (.bool (decide (((ps.map num).length : Int) ≤ 60) && decide (((ss.map num).length : Int) ≤ 60)))) layOk Try.func14 rfl ?_
  refine Ok.seq (go 10 rfl ?_)
  unfold thn
  dsimp only
  refine Ok.seq (Ok.regionW (G := fun _ => false) (C := fun _ _ _ => none) mixed layOk noCalls (fun _ _ h => by cases h) (.inl rfl) ?_)
  generalize h1 : decide (((ps.map num).length : Int) ≤ 60) = u1
  generalize h2 : decide (((ss.map num).length : Int) ≤ 60) = u2
  cases u1 <;> cases u2
  all_goals
    repeat (first | refine wskipN rfl (by dsimp only [putV, List.set]) ?_ | refine wstepN rfl (leq_is h1 rfl rfl rfl) (by dsimp only [putV, List.set]) ?_ | refine wstepN rfl (leq_is h2 rfl rfl rfl) (by dsimp only [putV, List.set]) ?_ | refine wstepN rfl rfl (by dsimp only [putV, List.set]) ?_)
    refine wnil ?_
    exact Ok.ret ⟨fun _ h => (by cases h), _, rfl, rfl⟩
end

theorem back_req (b : Int) (ss : List Int) : ∀ x ∈ backS b ss, IsReq x := by
  intro x hx
  unfold backS at hx
  split at hx <;> simp at hx
  subst hx
  exact ⟨_, _, _, _, _, _, _, _, _, _, rfl⟩
theorem back_len (b : Int) (ss : List Int) : (backS b ss).length ≤ 1 := by
  unfold backS
  split <;> simp
theorem front_req (b own : Int) (ss : List Int) : ∀ x ∈ frontS b own ss, IsReq x := by
  intro x hx
  simp only [frontS, List.mem_append] at hx
  rcases hx with hx | hx
  · split at hx <;> simp at hx; subst hx; exact isReq_front _
  · exact back_req _ _ _ hx
theorem front_len (b own : Int) (ss : List Int) : (frontS b own ss).length ≤ 1000 := by
  have := back_len b ss
  simp only [frontS, List.length_append]
  split <;> simp <;> omega

inductive T5 (a b c : Int) (ps ss : List Int) (t : ByteArray) (n : Bool) (own : Int) : FuncId → List V → V → Prop
  | few : T5 a b c ps ss t n own 14 [.agg ((lay.zero 34).getD []), jobV a b c ps ss t n] (.val (.bool (decide (((ps.map num).length : Int) ≤ 60) && decide (((ss.map num).length : Int) ≤ 60))))
  | ex : T5 a b c ps ss t n own 13 [] (.val (.bool true))
  | f20 (hl : ss.length ≤ 60) : T5 a b c ps ss t n own 20 [jobV a b c ps ss t n, .val (i64 own)] (.sl (frontS b own ss))
  | f21 (hl : ss.length ≤ 60) : T5 a b c ps ss t n own 21 [jobV a b c ps ss t n, .val (i64 own)] (.sl (frontS b own ss))
  | b22 (hl : ss.length ≤ 60) : T5 a b c ps ss t n own 22 [jobV a b c ps ss t n] (.sl (backS b ss))
  | b23 (hl : ss.length ≤ 60) : T5 a b c ps ss t n own 23 [jobV a b c ps ss t n] (.sl (backS b ss))
  | same (xs : List (List S)) (h : ∀ x ∈ xs, IsReq x) (hl : xs.length ≤ 1000) : T5 a b c ps ss t n own 15 [.sl xs, .sl xs] (.val (.bool true))
theorem T5_good (a b c : Int) (ps ss : List Int) (t : ByteArray) (n : Bool) (own : Int) : Good Try.prog (TabP (T5 a b c ps ss t n own)) := by
  refine TabP_good fun f vs v h => ?_
  cases h with
  | few => exact ⟨few14j _ _ _ _ _ _ _, rfl, rfl, Try.call14⟩
  | ex => exact ⟨ex13, rfl, rfl, Try.call13⟩
  | f20 hl => exact ⟨front20 _ _ _ _ _ _ _ _ hl, rfl, rfl, Try.call20⟩
  | f21 hl => exact ⟨front21 _ _ _ _ _ _ _ _ hl, rfl, rfl, Try.call21⟩
  | b22 hl => exact ⟨back22 _ _ _ _ _ _ _ hl, rfl, rfl, Try.call22⟩
  | b23 hl => exact ⟨back23 _ _ _ _ _ _ _ hl, rfl, rfl, Try.call23⟩
  | same xs h hl => exact ⟨same15 xs h hl, rfl, rfl, Try.call15⟩

theorem law5 (a b c : Int) (ps ss : List Int) (t : ByteArray) (n : Bool) (own : Int) : FnOk Try.prog 5 [jobV a b c ps ss t n, .val (i64 own)] [] (fun r _ => r = .val (.bool true)) := by
  refine FnOk.of layOk Try.func5 rfl ?_
  refine Ok.seq (go 10 rfl ?_)
  unfold thn
  dsimp only
  refine Ok.seq (Ok.seq (Ok.regionW (G := fun _ => true) (C := TabP (T5 a b c ps ss t n own)) mixed layOk (T5_good _ _ _ _ _ _ _ _) TabP_calm (.inl rfl) ?_))
  refine wstepN rfl rfl (by dsimp only [putV, List.set]) ?_
  refine wstepN rfl rfl (by dsimp only [putV, List.set]) ?_
  refine wstepN rfl (TabP_hit (fun v' h => by cases h; rfl) .few) (by dsimp only [putV, List.set]) ?_
  generalize hb : (decide (((ps.map num).length : Int) ≤ 60) && decide (((ss.map num).length : Int) ≤ 60)) = f
  generalize hd : decide (b < -2147483647) = d
  have hf : f = true → ss.length ≤ 60 := by
    intro h
    rw [h] at hb
    simp only [List.length_map, Bool.and_eq_true, decide_eq_true_eq] at hb
    omega
  clear hb
  cases f
  · repeat (first | refine wskipN rfl (by dsimp only [putV, List.set]) ?_ | refine wstepN rfl rfl (by dsimp only [putV, List.set]) ?_)
    refine wnil (Ok.cond (b := true) rfl (fun _ => ?_) (fun h => by cases h))
    refine Ok.seq (Ok.regionW (G := fun _ => true) (C := TabP (T5 a b c ps ss t n own)) mixed layOk (T5_good _ _ _ _ _ _ _ _) TabP_calm (.inl rfl) ?_)
    refine wstepN rfl (TabP_hit (fun v' h => by cases h; rfl) .ex) (by dsimp only [putV, List.set]) ?_
    refine wstepN rfl rfl (by dsimp only [putV, List.set]) ?_
    refine wnil ?_
    exact Ok.ret ⟨fun _ h => (by cases h), _, rfl, rfl⟩
  · have hl := hf rfl
    repeat (first | refine wskipN rfl (by dsimp only [putV, List.set]) ?_ | refine wstepN rfl (lss_is hd rfl rfl) (by dsimp only [putV, List.set]) ?_ | refine wstepN rfl rfl (by dsimp only [putV, List.set]) ?_)
    refine wnil (Ok.cond (b := d) rfl (fun h => ?_) (fun h => Ok.skip ?_))
    · refine Ok.seq (Ok.regionW (G := fun _ => true) (C := TabP (T5 a b c ps ss t n own)) mixed layOk (T5_good _ _ _ _ _ _ _ _) TabP_calm (.inl rfl) ?_)
      refine wstepN rfl (TabP_hit (fun v' h => by cases h; rfl) .ex) (by dsimp only [putV, List.set]) ?_
      refine wstepN rfl rfl (by dsimp only [putV, List.set]) ?_
      refine wnil ?_
      exact Ok.ret ⟨fun _ h => (by cases h), _, rfl, rfl⟩
    · unfold thn
      dsimp only
      refine Ok.seq (Ok.regionW (G := fun _ => true) (C := TabP (T5 a b c ps ss t n own)) mixed layOk (T5_good _ _ _ _ _ _ _ _) TabP_calm (.inr ⟨by kernel_rfl, by kernel_rfl⟩) ?_)
      repeat (first
        | refine wstepN rfl (TabP_hit (fun v' h => by cases h; rfl) (.f20 hl)) (by dsimp only [putV, List.set]) ?_
        | refine wstepN rfl (TabP_hit (fun v' h => by cases h; rfl) (.f21 hl)) (by dsimp only [putV, List.set]) ?_
        | refine wstepN rfl (TabP_hit (fun v' h => by cases h; rfl) (.b22 hl)) (by dsimp only [putV, List.set]) ?_
        | refine wstepN rfl (TabP_hit (fun v' h => by cases h; rfl) (.b23 hl)) (by dsimp only [putV, List.set]) ?_
        | refine wstepN rfl (TabP_hit (fun v' h => by cases h; rfl) .ex) (by dsimp only [putV, List.set]) ?_
        | refine wstepN rfl (TabP_hit (fun v' h => by cases h; rfl) (.same _ (front_req b own ss) (front_len b own ss))) (by dsimp only [putV, List.set]) ?_
        | refine wstepN rfl (TabP_hit (fun v' h => by cases h; rfl) (.same _ (back_req b ss) (Nat.le_trans (back_len b ss) (by decide)))) (by dsimp only [putV, List.set]) ?_
        | refine wstepN rfl rfl (by dsimp only [putV, List.set]) ?_)
      refine wnil ?_
      exact Ok.ret ⟨fun _ h => (by cases h), _, rfl, rfl⟩


end Go.Proofs.YtbkjiglbkckhmaaV
