/- The row of the law RedirectPlans. -/
import Derived.Test.YtbkjiglbkckhmaaPlans
import Derived.Test.YtbkjiglbkckhmaaV25
import Derived.WalkKit
import Derived.ProofKit
import Derived.OpenShut
import Derived.ShutString
import Derived.ChangeOld
import Derived.SizedLaws
namespace Go.Proofs.Ytbkjiglbkckhmaa.redirectPlans
open Go.ChangeShapes Go.WideShapes Go.ChangeAt Go.RowKit Go.Proofs.YtbkjiglbkckhmaaV
theorem own : ownKnob Try.prog.godebug = none := by kernel_rfl
theorem sh79 : IsSh Try.prog 79 [.int .i64, .raw] := by
  refine IsSh.struct (rs := [[.int .i64], [.raw]]) Try.underlying79 rfl ?_ ?_ ?_ (by kernel_rfl)
  · intro i f r h1 h2
    rcases i with _ | _ | i <;> cases h1 <;> cases h2
    · exact .int Try.underlying3
    · exact .raw Try.underlying77
  · intro i f h1
    rcases i with _ | _ | i <;> cases h1 <;> rfl
  · intro i f r h1 h2
    rcases i with _ | _ | i <;> cases h1 <;> cases h2 <;> kernel_rfl
theorem sh81 : IsSh Try.prog 81 [.int .i64, .int .i64, .int .i64, .int .i64, .raw] := by
  refine IsSh.struct (rs := [[.int .i64], [.int .i64], [.int .i64], [.int .i64, .raw]]) Try.underlying81 rfl ?_ ?_ ?_ (by kernel_rfl)
  · intro i f r h1 h2
    rcases i with _ | _ | _ | _ | i <;> cases h1 <;> cases h2
    · exact .int Try.underlying3
    · exact .int Try.underlying3
    · exact .int Try.underlying3
    · exact sh79
  · intro i f h1
    rcases i with _ | _ | _ | _ | i <;> cases h1 <;> rfl
  · intro i f r h1 h2
    rcases i with _ | _ | _ | _ | i <;> cases h1 <;> cases h2 <;> kernel_rfl
theorem rds_of {xs : List (List S)} (h : TyS (.sl [.int .i64, .int .i64, .int .i64, .int .i64, .raw]) (.sl xs)) : ∃ rs : List RD, xs = rs.map rdS := by
  cases h with
  | sl r xs hl h =>
    induction xs with
    | nil => exact ⟨[], rfl⟩
    | cons x xs ih =>
      obtain ⟨rs, rfl⟩ := ih (fun y hy => hl y (List.mem_cons_of_mem _ hy)) (fun y hy => h y (List.mem_cons_of_mem _ hy))
      have h1 := hl x List.mem_cons_self
      match x, h1 with
      | [a, b, c, d, e], _ =>
        have ha := h _ List.mem_cons_self 0 _ _ rfl rfl
        have hb := h _ List.mem_cons_self 1 _ _ rfl rfl
        have hc := h _ List.mem_cons_self 2 _ _ rfl rfl
        have hd := h _ List.mem_cons_self 3 _ _ rfl rfl
        have he := h _ List.mem_cons_self 4 _ _ rfl rfl
        cases ha
        cases hb
        cases hc
        cases hd
        cases he
        exact ⟨⟨_, _, _, _, _⟩ :: rs, rfl⟩
theorem txs_of {xs : List (List S)} (h : TyS (.sl [.str]) (.sl xs)) : ∃ ss : List ByteArray, xs = ss.map txS := by
  cases h with
  | sl r xs hl h =>
    induction xs with
    | nil => exact ⟨[], rfl⟩
    | cons x xs ih =>
      obtain ⟨ss, rfl⟩ := ih (fun y hy => hl y (List.mem_cons_of_mem _ hy)) (fun y hy => h y (List.mem_cons_of_mem _ hy))
      have h1 := hl x List.mem_cons_self
      match x, h1 with
      | [a], _ =>
        have ha := h _ List.mem_cons_self 0 _ _ rfl rfl
        cases ha
        exact ⟨_ :: ss, rfl⟩
set_option maxRecDepth 100000 in
theorem lifted (os : Os) (started : os.Started) (H : Type) (enc : TypeId × Value → H) :
    ReturnsInHanded {} Try.checked os 6 .any (Rows.redirectPlansSpec.pre6 enc Try.prog Try.f6 Rows.redirectPlansRow.domain false) (Rows.redirectPlansSpec.post enc Try.prog Try.f6 false true false false) := by
  refine returnsInHanded_of_change_sized (C := Try.checked) own started (by kernel_rfl) Try.func6
    (ChangeSpec.witness6 (enc := enc) (C := Try.checked) false ⟨#[], #[.slice none 0 0, .slice none 0 0, .int .i64 0], []⟩ 8 (by kernel_rfl) (by kernel_rfl) (by kernel_rfl) (by kernel_rfl)) ?_
  intro W base args ds gs before hval0 hW hcnd hsz0 _
  have hval : ∀ (j : Nat) t v, Try.f6.params[j]? = some t → args[j]? = some v → Value.okWide Try.prog W .any base t v := hval0
  have hW' := hW
  obtain ⟨p, q, hA0, hV, rfl, hfz, hnd⟩ := hW
  have hA : DataW.TrodAll enc Try.prog W 0 (fun _ => true) true Try.f6.params.toList args.toList ds p := hA0
  rw [Try.params6] at hA hval
  have hA1 := hA
  obtain ⟨v0, vs0, d0, ds0, p0, q0, hargs, rfl, rfl, h0, r0⟩ := trodAll_cons hA
  obtain ⟨v1, vs1, d1, ds1, p1, q1, rfl, rfl, rfl, h1, r1⟩ := trodAll_cons r0
  obtain ⟨v2, vs2, d2, ds2, p2, q2, rfl, rfl, rfl, h2, r2⟩ := trodAll_cons r1
  obtain ⟨rfl, rfl, rfl⟩ := trodAll_nil r2
  obtain rfl : args = #[v0, v1, v2] := by cases args; simp_all
  obtain ⟨rfl, rfl⟩ := trodVars_none hV
  obtain ⟨A0, n0, c0, e0⟩ := Go.WideShapes.okWide_slice Try.underlying49 (hval 0 49 v0 rfl rfl)
  obtain ⟨A1, n1, c1, e1⟩ := Go.WideShapes.okWide_slice Try.underlying23 (hval 1 23 v1 rfl rfl)
  obtain ⟨xs, hr0, ht0⟩ := arg_slice (e := 81) (.sl Try.underlying49 sh81 (by kernel_rfl) (by decide)) (by rw [e0]; rfl) h0
  obtain ⟨ys, hr1, ht1⟩ := arg_slice (e := 9) (.sl Try.underlying23 (.str Try.underlying9) (by kernel_rfl) (by decide)) (by rw [e1]; rfl) h1
  obtain ⟨rs, rfl⟩ := rds_of ht0
  obtain ⟨ss, rfl⟩ := txs_of ht1
  obtain ⟨a2, rfl, rfl, rfl, w2⟩ := open_int Try.underlying3 (hval 2 3 v2 rfl rfl) h2
  clear hA0 hval0 hsz0
  refine (law_call (law6 rs ss a2) (w := W) (vargs := #[v0, v1, .int .i64 a2]) ⟨rfl, fun i c hi => ?_⟩).mono fun e W' ⟨he, bel⟩ => ?_
  · match i, hi with
    | 0, hi => obtain rfl := Option.some.inj hi; exact hr0
    | 1, hi => obtain rfl := Option.some.inj hi; exact hr1
    | 2, hi => obtain rfl := Option.some.inj hi; exact .val _ rfl
    | i + 3, hi => simp at hi
  subst he
  exact ⟨_, rfl, _, _, _, [], _, [], hW', trodAll_mk1 (shut_bool Try.underlying4 _), stays (by kernel_rfl) bel (of_decide_eq_true (by kernel_rfl)) hA1, rfl, bel.frame _, fun h => by cases h⟩
theorem over : Rows.redirectPlansRow.holds Try.pinned (OpenSpec.ofChange Rows.redirectPlansSpec) :=
  OpenClaim.holds_of_wide 6 Try.f6 rfl rfl rfl rfl rfl rfl rfl ⟨rfl, rfl, rfl, rfl, rfl⟩ rfl rfl rfl rfl rfl (by kernel_rfl) Try.func6 (by kernel_rfl)
    (of_decide_eq_true (by kernel_rfl)) (by unfold Func.isWrapper; first | (rw [if_pos (by decide +kernel)]; kernel_rfl) | (rw [if_neg (by decide +kernel)]; exact ⟨rfl, rfl⟩))
    (fun os started H enc _ => lifted os started H enc)
end Go.Proofs.Ytbkjiglbkckhmaa.redirectPlans
namespace Go.Proofs.Ytbkjiglbkckhmaa
/-- The law holds. -/
theorem redirectPlans_holds : Rows.RedirectPlansSaid := redirectPlans.over
end Go.Proofs.Ytbkjiglbkckhmaa
