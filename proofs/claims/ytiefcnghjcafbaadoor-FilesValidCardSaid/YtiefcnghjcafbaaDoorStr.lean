/- Strings cut at slashes: what the library's functions come to. -/
import Derived.Test.YtiefcnghjcafbaaDoorTab
import Derived.Test.YtiefcnghjcafbaaDoorV26
namespace Go.Proofs.YtiefcnghjcafbaaDoorV
open Go Go.RowKit Go.Proofs.YtiefcnghjcafbaaDoor
set_option maxRecDepth 20000
set_option maxHeartbeats 4000000

abbrev i64 (n : Int) : Value := .int .i64 n
abbrev sV (s : ByteArray) : V := .val (.string s)
abbrev slash : ByteArray := ⟨#[47]⟩

theorem index95 (s : ByteArray) : FnOk Tryd.prog 95 [sV s, sV slash] [] (fun r bs' => fr bs' r = .val (i64 (firstIdx s 47))) := by
  refine FnOk.fast (Q := fun r => r = .val (i64 (firstIdx s 47))) layOk Tryd.func95 rfl ?_
  refine Ok.seq (go 10 rfl ?_)
  refine Ok.seq (go 10 rfl ?_)
  refine Ok.seq (Ok.block (Ok.seq (Ok.regionW (G := fun _ => false) (C := fun _ _ _ => none) mixed layOk noCalls (fun _ _ h => by cases h) (.inl rfl) ?_)))
  generalize h : decide (slash = s) = e
  refine wstepN rfl rfl (by dsimp only [putV, List.set]) ?_
  refine wstepN rfl rfl (by dsimp only [putV, List.set]) ?_
  refine wstepN rfl rfl (by dsimp only [putV, List.set]) ?_
  refine wstepN rfl rfl (by dsimp only [putV, List.set]) ?_
  refine wstepN rfl rfl (by dsimp only [putV, List.set]) ?_
  refine wstepN rfl (eqlS h rfl rfl) (by dsimp only [putV, List.set]) ?_
  refine wstepN rfl rfl (by dsimp only [putV, List.set]) ?_
  refine wstepN rfl rfl (by dsimp only [putV, List.set]) ?_
  refine wnil (Ok.cond (b := e) rfl (fun he => ?_) (fun he => ?_))
  · subst he
    obtain rfl : slash = s := by simpa using h
    exact go 10 rfl ⟨fun _ h => (by cases h), _, rfl, (show V.val (i64 0) = V.val (i64 (firstIdx slash 47)) by kernel_rfl)⟩
  · subst he
    exact go 20 rfl ⟨fun _ h => (by cases h), _, rfl, rfl⟩
theorem index76 (s : ByteArray) : FnOk Tryd.prog 76 [sV s, sV slash] [] (fun r bs' => fr bs' r = .val (i64 (firstIdx s 47))) := by
  refine FnOk.fast (Q := fun r => r = .val (i64 (firstIdx s 47))) layOk Tryd.func76 rfl ?_
  have hT : ∀ e ∈ [((95 : FuncId), [sV s, sV slash], V.val (i64 (firstIdx s 47)))], (∀ bs, FnOk Tryd.prog e.1 e.2.1 bs (fun r b => r = e.2.2 ∧ b = bs)) ∧ Enters Tryd.prog e.1 := by
    intro e he
    obtain rfl := List.mem_singleton.1 he
    exact fact (index95 s) rfl rfl Tryd.call95
  refine Ok.seq (go 10 rfl ?_)
  unfold thn
  dsimp only
  refine Ok.seq (Ok.regionW (G := fun _ => true) (C := Tab _) mixed layOk (Tab_good hT) Tab_calm (.inl rfl) ?_)
  refine wstepN rfl rfl (by dsimp only [putV, List.set]) ?_
  refine wstepN rfl rfl (by dsimp only [putV, List.set]) ?_
  refine wstepN rfl Tab_hit (by dsimp only [putV, List.set]) ?_
  refine wstepN rfl rfl (by dsimp only [putV, List.set]) ?_
  refine wnil ?_
  exact Ok.ret ⟨fun _ h => (by cases h), _, rfl, rfl⟩
theorem count75 (s : ByteArray) : FnOk Tryd.prog 75 [sV s, sV slash] [] (fun r bs' => fr bs' r = .val (i64 (Lib.countByte s.data.toList 47))) :=
  FnOk.fast (Q := fun r => r = .val (i64 (Lib.countByte s.data.toList 47))) layOk Tryd.func75 rfl (goOut 100 (r := .val (i64 (Lib.countByte s.data.toList 47))) (by kernel_rfl) rfl)


end Go.Proofs.YtiefcnghjcafbaaDoorV
