/- The examples of the chapter on files. -/
import Derived.Test.YtiefcnghjcafbaaDoorTab
namespace Go.Proofs.YtiefcnghjcafbaaDoorV
open Go Go.RowKit Go.Proofs.YtiefcnghjcafbaaDoor
set_option maxRecDepth 20000
set_option maxHeartbeats 4000000

/-- The examples of the chapter on files. -/
theorem awake9 : FnOk Tryd.prog 9 [] [] (fun r bs' => fr bs' r = .val (.bool true)) :=
  FnOk.fast (Q := fun r => r = .val (.bool true)) layOk Tryd.func9 rfl (goOut 1000 (r := .val (.bool true)) (by kernel_rfl) rfl)


end Go.Proofs.YtiefcnghjcafbaaDoorV
