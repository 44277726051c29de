/- The row of the law RedirectOnce. -/
import Derived.Test.YtbkjiglbkckhmaaOnce
import Derived.Test.YtbkjiglbkckhmaaV25
import Derived.WalkKit
import Derived.ProofKit
import Derived.OpenShut
import Derived.ShutString
import Derived.ChangeOld
import Derived.SizedLaws
namespace Go.Proofs.Ytbkjiglbkckhmaa.redirectOnce
open Go.ChangeShapes Go.WideShapes Go.ChangeAt Go.RowKit Go.Proofs.YtbkjiglbkckhmaaV
theorem own : ownKnob Try.prog.godebug = none := by kernel_rfl
theorem sh62 : IsSh Try.prog 62 [.int .i64, .int .i64, .int .i64, .int .i64, .str, .str] := by
  refine IsSh.struct (rs := [[.int .i64], [.int .i64], [.int .i64], [.int .i64], [.str], [.str]]) Try.underlying62 rfl ?_ ?_ ?_ (by kernel_rfl)
  · intro i f r h1 h2
    rcases i with _ | _ | _ | _ | _ | _ | i <;> cases h1 <;> cases h2
    · exact .int Try.underlying3
    · exact .int Try.underlying3
    · exact .int Try.underlying3
    · exact .int Try.underlying3
    · exact .str Try.underlying9
    · exact .str Try.underlying9
  · intro i f h1
    rcases i with _ | _ | _ | _ | _ | _ | i <;> cases h1 <;> rfl
  · intro i f r h1 h2
    rcases i with _ | _ | _ | _ | _ | _ | i <;> cases h1 <;> cases h2 <;> kernel_rfl
theorem mvs_of {xs : List (List S)} (h : TyS (.sl [.int .i64, .int .i64, .int .i64, .int .i64, .str, .str]) (.sl xs)) : ∃ ms : List MV, xs = ms.map mvRow := by
  cases h with
  | sl r xs hl h =>
    induction xs with
    | nil => exact ⟨[], rfl⟩
    | cons x xs ih =>
      obtain ⟨ms, rfl⟩ := ih (fun y hy => hl y (List.mem_cons_of_mem _ hy)) (fun y hy => h y (List.mem_cons_of_mem _ hy))
      have h1 := hl x List.mem_cons_self
      match x, h1 with
      | [a, b, c, d, e, f], _ =>
        have ha := h _ List.mem_cons_self 0 _ _ rfl rfl
        have hb := h _ List.mem_cons_self 1 _ _ rfl rfl
        have hc := h _ List.mem_cons_self 2 _ _ rfl rfl
        have hd := h _ List.mem_cons_self 3 _ _ rfl rfl
        have he := h _ List.mem_cons_self 4 _ _ rfl rfl
        have hf := h _ List.mem_cons_self 5 _ _ rfl rfl
        cases ha
        cases hb
        cases hc
        cases hd
        cases he
        cases hf
        exact ⟨⟨_, _, _, _, _, _⟩ :: ms, rfl⟩
set_option maxRecDepth 100000 in
theorem lifted (os : Os) (started : os.Started) (H : Type) (enc : TypeId × Value → H) :
    ReturnsInHanded {} Try.checked os 9 .any (Rows.redirectOnceSpec.pre6 enc Try.prog Try.f9 Rows.redirectOnceRow.domain false) (Rows.redirectOnceSpec.post enc Try.prog Try.f9 false true false false) := by
  refine returnsInHanded_of_change_sized (C := Try.checked) own started (by kernel_rfl) Try.func9
    (ChangeSpec.witness6 (enc := enc) (C := Try.checked) false ⟨#[], #[.slice none 0 0], []⟩ 8 (by kernel_rfl) (by kernel_rfl) (by kernel_rfl) (by kernel_rfl)) ?_
  intro W base args ds gs before hval0 hW hcnd hsz0 _
  have hval : ∀ (j : Nat) t v, Try.f9.params[j]? = some t → args[j]? = some v → Value.okWide Try.prog W .any base t v := hval0
  have hW' := hW
  obtain ⟨p, q, hA0, hV, rfl, hfz, hnd⟩ := hW
  have hA : DataW.TrodAll enc Try.prog W 0 (fun _ => true) true Try.f9.params.toList args.toList ds p := hA0
  rw [Try.params9] at hA hval
  have hA1 := hA
  obtain ⟨v0, vs0, d0, ds0, p0, q0, hargs, rfl, rfl, h0, r0⟩ := trodAll_cons hA
  obtain ⟨rfl, rfl, rfl⟩ := trodAll_nil r0
  obtain rfl : args = #[v0] := by cases args; simp_all
  obtain ⟨rfl, rfl⟩ := trodVars_none hV
  obtain ⟨A0, n0, c0, e0⟩ := Go.WideShapes.okWide_slice Try.underlying50 (hval 0 50 v0 rfl rfl)
  obtain ⟨xs, hr0, ht0⟩ := arg_slice (e := 62) (.sl Try.underlying50 sh62 (by kernel_rfl) (by decide)) (by rw [e0]; rfl) h0
  obtain ⟨ms, rfl⟩ := mvs_of ht0
  clear hA0 hval0 hsz0
  refine (law_call (law9 ms) (w := W) (vargs := #[v0]) ⟨rfl, fun i c hi => ?_⟩).mono fun e W' ⟨he, bel⟩ => ?_
  · match i, hi with
    | 0, hi => obtain rfl := Option.some.inj hi; exact hr0
    | i + 1, hi => simp at hi
  subst he
  exact ⟨_, rfl, _, _, _, [], _, [], hW', trodAll_mk1 (shut_bool Try.underlying4 _), stays (by kernel_rfl) bel (of_decide_eq_true (by kernel_rfl)) hA1, rfl, bel.frame _, fun h => by cases h⟩
theorem over : Rows.redirectOnceRow.holds Try.pinned (OpenSpec.ofChange Rows.redirectOnceSpec) :=
  OpenClaim.holds_of_wide 9 Try.f9 rfl rfl rfl rfl rfl rfl rfl ⟨rfl, rfl, rfl, rfl, rfl⟩ rfl rfl rfl rfl rfl (by kernel_rfl) Try.func9 (by kernel_rfl)
    (of_decide_eq_true (by kernel_rfl)) (by unfold Func.isWrapper; first | (rw [if_pos (by decide +kernel)]; kernel_rfl) | (rw [if_neg (by decide +kernel)]; exact ⟨rfl, rfl⟩))
    (fun os started H enc _ => lifted os started H enc)
end Go.Proofs.Ytbkjiglbkckhmaa.redirectOnce
namespace Go.Proofs.Ytbkjiglbkckhmaa
/-- The law holds. -/
theorem redirectOnce_holds : Rows.RedirectOnceSaid := redirectOnce.over
end Go.Proofs.Ytbkjiglbkckhmaa
