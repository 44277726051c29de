/- Whether lists are short. -/
import Derived.Test.YtbkjiglbkckhmaaReq
namespace Go.Proofs.YtbkjiglbkckhmaaV
open Go Go.RowKit Go.Proofs.Ytbkjiglbkckhmaa
set_option maxRecDepth 20000
set_option maxHeartbeats 1000000

theorem few14 (g f n : Value) (is rs : List (List S)) : FnOk Try.prog 14 [.agg [.val g, .val f, .sl is, .sl rs, .val n], .agg ((lay.zero 40).getD [])] [] (fun r bs' => fr bs' r = .val (.bool (decide ((is.length : Int) ≤ 60) && decide ((rs.length : Int) ≤ 60)))) := by
  refine FnOk.fast (Q := fun r => r = .val (.bool (decide ((is.length : Int) ≤ 60) && decide ((rs.length : Int) ≤ 60)))) layOk Try.func14 rfl ?_
  refine Ok.seq (go 10 rfl ?_)
  unfold thn
  dsimp only
  refine Ok.seq (Ok.regionW (G := fun _ => false) (C := fun _ _ _ => none) mixed layOk noCalls (fun _ _ h => by cases h) (.inl rfl) ?_)
  generalize h1 : decide ((is.length : Int) ≤ 60) = u1
  generalize h2 : decide ((rs.length : Int) ≤ 60) = u2
  cases u1
  · repeat (first | refine wskipN rfl (by dsimp only [putV, List.set]) ?_ | refine wstepN rfl (leq_is h1 rfl rfl rfl) (by dsimp only [putV, List.set]) ?_ | refine wstepN rfl rfl (by dsimp only [putV, List.set]) ?_)
    refine wnil ?_
    exact Ok.ret ⟨fun _ h => (by cases h), _, rfl, rfl⟩
  · cases u2
    · repeat (first | refine wskipN rfl (by dsimp only [putV, List.set]) ?_ | refine wstepN rfl (leq_is h1 rfl rfl rfl) (by dsimp only [putV, List.set]) ?_ | refine wstepN rfl (leq_is h2 rfl rfl rfl) (by dsimp only [putV, List.set]) ?_ | refine wstepN rfl rfl (by dsimp only [putV, List.set]) ?_)
      refine wnil ?_
      exact Ok.ret ⟨fun _ h => (by cases h), _, rfl, rfl⟩
    · repeat (first | refine wskipN rfl (by dsimp only [putV, List.set]) ?_ | refine wstepN rfl (leq_is h1 rfl rfl rfl) (by dsimp only [putV, List.set]) ?_ | refine wstepN rfl (leq_is h2 rfl rfl rfl) (by dsimp only [putV, List.set]) ?_ | refine wstepN rfl rfl (by dsimp only [putV, List.set]) ?_)
      refine wnil ?_
      exact Ok.ret ⟨fun _ h => (by cases h), _, rfl, rfl⟩


end Go.Proofs.YtbkjiglbkckhmaaV
