/- What both Parent return. -/
import Derived.Test.YtbkjiglbkckhmaaReq
namespace Go.Proofs.YtbkjiglbkckhmaaV
open Go Go.RowKit Go.Proofs.Ytbkjiglbkckhmaa
set_option maxRecDepth 20000
set_option maxHeartbeats 1000000

theorem par18 (g f n : Bool) (I R : List (List S)) (group pid : Int) : FnOk Try.prog 18 [.agg [.val (.bool g), .val (.bool f), .sl I, .sl R, .val (.bool n)], .val (i64 group), .val (i64 pid)] [] (fun r bs' => fr bs' r = .sl (parS g f group pid)) := by
  refine FnOk.fast (Q := fun r => r = .sl (parS g f group pid)) layOk Try.func18 rfl (goOut 100 (r := .sl (parS g f group pid)) ?_ rfl)
  cases g <;> cases f <;> rcases group with (_ | k) | k <;> kernel_rfl
theorem par19 (g f n : Bool) (I R : List (List S)) (group pid : Int) : FnOk Try.prog 19 [.agg [.val (.bool g), .val (.bool f), .sl I, .sl R, .val (.bool n)], .val (i64 group), .val (i64 pid)] [] (fun r bs' => fr bs' r = .sl (parS g f group pid)) := by
  refine FnOk.fast (Q := fun r => r = .sl (parS g f group pid)) layOk Try.func19 rfl (goOut 100 (r := .sl (parS g f group pid)) ?_ rfl)
  cases g <;> cases f <;> rcases group with (_ | k) | k <;> kernel_rfl


end Go.Proofs.YtbkjiglbkckhmaaV
