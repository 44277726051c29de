/- The examples of the chapter on redirection. -/
import Derived.Test.YtbkjiglbkckhmaaTab
namespace Go.Proofs.YtbkjiglbkckhmaaV
open Go Go.RowKit Go.Proofs.Ytbkjiglbkckhmaa
set_option maxRecDepth 20000
set_option maxHeartbeats 1000000

/-- The examples of the chapter on redirection. -/
theorem ex24 : FnOk Try.prog 24 [] [] (fun r bs' => fr bs' r = .val (.bool true)) :=
  FnOk.fast (Q := fun r => r = .val (.bool true)) layOk Try.func24 rfl (goOut 400 (r := .val (.bool true)) (by kernel_rfl) rfl)

/-- The call of the examples. -/
inductive TE : FuncId → List V → V → Prop
  | ex : TE 24 [] (.val (.bool true))
theorem TE_good : Good Try.prog (TabP TE) := by
  refine TabP_good fun f vs v h => ?_
  cases h with
  | ex => exact ⟨ex24, rfl, rfl, Try.call24⟩


end Go.Proofs.YtbkjiglbkckhmaaV
