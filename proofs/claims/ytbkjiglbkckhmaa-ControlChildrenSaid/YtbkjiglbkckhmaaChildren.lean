/- The law ControlChildren over plain values. -/
import Derived.Test.YtbkjiglbkckhmaaChild16
import Derived.Test.YtbkjiglbkckhmaaChild17
import Derived.Test.YtbkjiglbkckhmaaPar
import Derived.Test.YtbkjiglbkckhmaaFew
import Derived.Test.YtbkjiglbkckhmaaSame
import Derived.Test.YtbkjiglbkckhmaaEx38
namespace Go.Proofs.YtbkjiglbkckhmaaV
open Go Go.RowKit Go.Proofs.Ytbkjiglbkckhmaa
set_option maxRecDepth 20000
set_option maxHeartbeats 1000000

theorem child_req (g f n : Bool) (is rs : List Int) (group : Int) : ∀ x ∈ childS g f n is rs group, IsReq x := by
  intro x hx
  simp only [childS, List.mem_append, List.mem_map] at hx
  rcases hx with (((hx | hx) | hx) | ⟨s, _, rfl⟩) | ⟨s, _, rfl⟩
  · split at hx <;> simp at hx; subst hx; exact isReq_group _ _
  · split at hx <;> simp at hx; subst hx; exact isReq_front _
  · split at hx <;> simp at hx; subst hx; exact isReq_null
  · exact isReq_sig _ _
  · exact isReq_sig _ _
theorem child_len (g f n : Bool) (is rs : List Int) (group : Int) (hi : is.length ≤ 60) (hr : rs.length ≤ 60) : (childS g f n is rs group).length ≤ 1000 := by
  simp only [childS, List.length_append, List.length_map]
  repeat' split
  all_goals simp <;> omega
theorem par_req (g f : Bool) (group pid : Int) : ∀ x ∈ parS g f group pid, IsReq x := by
  intro x hx
  simp only [parS, List.mem_append] at hx
  rcases hx with hx | hx
  · split at hx <;> simp at hx; subst hx; exact isReq_group _ _
  · split at hx <;> simp at hx; subst hx; exact isReq_front _
theorem par_len (g f : Bool) (group pid : Int) : (parS g f group pid).length ≤ 1000 := by
  simp only [parS, List.length_append]
  repeat' split
  all_goals simp

abbrev launchV (g f n : Bool) (is rs : List Int) : V := .agg [.val (.bool g), .val (.bool f), .sl (is.map num), .sl (rs.map num), .val (.bool n)]
inductive T4 (g f n : Bool) (is rs : List Int) (group pid : Int) : FuncId → List V → V → Prop
  | few : T4 g f n is rs group pid 14 [launchV g f n is rs, .agg ((lay.zero 40).getD [])] (.val (.bool (decide (((is.map num).length : Int) ≤ 60) && decide (((rs.map num).length : Int) ≤ 60))))
  | ex : T4 g f n is rs group pid 13 [] (.val (.bool true))
  | c16 (hi : is.length ≤ 60) (hr : rs.length ≤ 60) : T4 g f n is rs group pid 16 [launchV g f n is rs, .val (i64 group)] (.sl (childS g f n is rs group))
  | c17 (hi : is.length ≤ 60) (hr : rs.length ≤ 60) : T4 g f n is rs group pid 17 [launchV g f n is rs, .val (i64 group)] (.sl (childS g f n is rs group))
  | p18 : T4 g f n is rs group pid 18 [launchV g f n is rs, .val (i64 group), .val (i64 pid)] (.sl (parS g f group pid))
  | p19 : T4 g f n is rs group pid 19 [launchV g f n is rs, .val (i64 group), .val (i64 pid)] (.sl (parS g f group pid))
  | same (xs : List (List S)) (h : ∀ x ∈ xs, IsReq x) (hl : xs.length ≤ 1000) : T4 g f n is rs group pid 15 [.sl xs, .sl xs] (.val (.bool true))
theorem T4_good (g f n : Bool) (is rs : List Int) (group pid : Int) : Good Try.prog (TabP (T4 g f n is rs group pid)) := by
  refine TabP_good fun f vs v h => ?_
  cases h with
  | few => exact ⟨few14 _ _ _ _ _, rfl, rfl, Try.call14⟩
  | ex => exact ⟨ex13, rfl, rfl, Try.call13⟩
  | c16 hi hr => exact ⟨c16 _ _ _ _ _ _ hi hr, rfl, rfl, Try.call16⟩
  | c17 hi hr => exact ⟨c17 _ _ _ _ _ _ hi hr, rfl, rfl, Try.call17⟩
  | p18 => exact ⟨par18 _ _ _ _ _ _ _, rfl, rfl, Try.call18⟩
  | p19 => exact ⟨par19 _ _ _ _ _ _ _, rfl, rfl, Try.call19⟩
  | same xs h hl => exact ⟨same15 xs h hl, rfl, rfl, Try.call15⟩

theorem law4 (g f n : Bool) (is rs : List Int) (group pid : Int) : FnOk Try.prog 4 [launchV g f n is rs, .val (i64 group), .val (i64 pid)] [] (fun r _ => r = .val (.bool true)) := by
  refine FnOk.of layOk Try.func4 rfl ?_
  refine Ok.seq (go 10 rfl ?_)
  unfold thn
  dsimp only
  refine Ok.seq (Ok.seq (Ok.regionW (G := fun _ => true) (C := TabP (T4 g f n is rs group pid)) mixed layOk (T4_good _ _ _ _ _ _ _) TabP_calm (.inl rfl) ?_))
  refine wstepN rfl rfl (by dsimp only [putV, List.set]) ?_
  refine wstepN rfl rfl (by dsimp only [putV, List.set]) ?_
  refine wstepN rfl (TabP_hit (fun v' h => by cases h; rfl) .few) (by dsimp only [putV, List.set]) ?_
  generalize hb : (decide (((is.map num).length : Int) ≤ 60) && decide (((rs.map num).length : Int) ≤ 60)) = b
  refine wstepN rfl rfl (by dsimp only [putV, List.set]) ?_
  refine wnil ?_
  refine Ok.cond (b := !b) rfl (fun h => ?_) (fun h => Ok.skip ?_)
  · refine Ok.seq (Ok.regionW (G := fun _ => true) (C := TabP (T4 g f n is rs group pid)) mixed layOk (T4_good _ _ _ _ _ _ _) TabP_calm (.inl rfl) ?_)
    refine wstepN rfl (TabP_hit (fun v' h => by cases h; rfl) .ex) (by dsimp only [putV, List.set]) ?_
    refine wstepN rfl rfl (by dsimp only [putV, List.set]) ?_
    refine wnil ?_
    exact Ok.ret ⟨fun _ h => (by cases h), _, rfl, rfl⟩
  · have hb2 : b = true := by simpa using h
    rw [hb2] at hb
    simp only [List.length_map, Bool.and_eq_true, decide_eq_true_eq] at hb
    have hi : is.length ≤ 60 := by omega
    have hr : rs.length ≤ 60 := by omega
    unfold thn
    dsimp only
    refine Ok.seq (Ok.regionW (G := fun _ => true) (C := TabP (T4 g f n is rs group pid)) mixed layOk (T4_good _ _ _ _ _ _ _) TabP_calm (.inr ⟨by kernel_rfl, by kernel_rfl⟩) ?_)
    repeat (first
      | refine wstepN rfl (TabP_hit (fun v' h => by cases h; rfl) (.c16 hi hr)) (by dsimp only [putV, List.set]) ?_
      | refine wstepN rfl (TabP_hit (fun v' h => by cases h; rfl) (.c17 hi hr)) (by dsimp only [putV, List.set]) ?_
      | refine wstepN rfl (TabP_hit (fun v' h => by cases h; rfl) .p18) (by dsimp only [putV, List.set]) ?_
      | refine wstepN rfl (TabP_hit (fun v' h => by cases h; rfl) .p19) (by dsimp only [putV, List.set]) ?_
      | refine wstepN rfl (TabP_hit (fun v' h => by cases h; rfl) .ex) (by dsimp only [putV, List.set]) ?_
      | refine wstepN rfl (TabP_hit (fun v' h => by cases h; rfl) (.same _ (child_req g f n is rs group) (child_len g f n is rs group hi hr))) (by dsimp only [putV, List.set]) ?_
      | refine wstepN rfl (TabP_hit (fun v' h => by cases h; rfl) (.same _ (par_req g f group pid) (par_len g f group pid))) (by dsimp only [putV, List.set]) ?_
      | refine wstepN rfl rfl (by dsimp only [putV, List.set]) ?_)
    refine wnil ?_
    exact Ok.ret ⟨fun _ h => (by cases h), _, rfl, rfl⟩


end Go.Proofs.YtbkjiglbkckhmaaV
