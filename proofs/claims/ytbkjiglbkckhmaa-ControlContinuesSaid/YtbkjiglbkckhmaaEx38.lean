/- The examples of the chapter on control. -/
import Derived.Test.YtbkjiglbkckhmaaTab
namespace Go.Proofs.YtbkjiglbkckhmaaV
open Go Go.RowKit Go.Proofs.Ytbkjiglbkckhmaa
set_option maxRecDepth 20000
set_option maxHeartbeats 1000000

/-- The examples of the chapter on control. -/
theorem ex13 : FnOk Try.prog 13 [] [] (fun r bs' => fr bs' r = .val (.bool true)) :=
  FnOk.fast (Q := fun r => r = .val (.bool true)) layOk Try.func13 rfl (goOut 300 (r := .val (.bool true)) (by kernel_rfl) rfl)


end Go.Proofs.YtbkjiglbkckhmaaV
