/- The row of the law ControlChildren. -/
import Derived.Test.YtbkjiglbkckhmaaChildren
import Derived.Test.YtbkjiglbkckhmaaV25
import Derived.WalkKit
import Derived.ProofKit
import Derived.OpenShut
import Derived.ShutString
import Derived.ChangeOld
import Derived.SizedLaws
namespace Go.Proofs.Ytbkjiglbkckhmaa.controlChildren
open Go.ChangeShapes Go.WideShapes Go.ChangeAt Go.RowKit Go.Proofs.YtbkjiglbkckhmaaV
theorem own : ownKnob Try.prog.godebug = none := by kernel_rfl
theorem sh34 : IsSh Try.prog 34 [.bool, .bool, .sl [.int .i64], .sl [.int .i64], .bool] := by
  refine IsSh.struct (rs := [[.bool], [.bool], [.sl [.int .i64]], [.sl [.int .i64]], [.bool]]) Try.underlying34 rfl ?_ ?_ ?_ (by kernel_rfl)
  · intro i f r h1 h2
    rcases i with _ | _ | _ | _ | _ | i <;> cases h1 <;> cases h2
    · exact .bool Try.underlying4
    · exact .bool Try.underlying4
    · exact .sl Try.underlying32 (.int Try.underlying3) (by kernel_rfl) (by decide)
    · exact .sl Try.underlying32 (.int Try.underlying3) (by kernel_rfl) (by decide)
    · exact .bool Try.underlying4
  · intro i f h1
    rcases i with _ | _ | _ | _ | _ | i <;> cases h1 <;> rfl
  · intro i f r h1 h2
    rcases i with _ | _ | _ | _ | _ | i <;> cases h1 <;> cases h2 <;> kernel_rfl
set_option maxRecDepth 100000 in
theorem lifted (os : Os) (started : os.Started) (H : Type) (enc : TypeId × Value → H) :
    ReturnsInHanded {} Try.checked os 4 .any (Rows.controlChildrenSpec.pre6 enc Try.prog Try.f4 Rows.controlChildrenRow.domain false) (Rows.controlChildrenSpec.post enc Try.prog Try.f4 false true false false) := by
  refine returnsInHanded_of_change_sized (C := Try.checked) own started (by kernel_rfl) Try.func4
    (ChangeSpec.witness6 (enc := enc) (C := Try.checked) false ⟨#[], #[.agg #[.bool false, .bool false, .slice none 0 0, .slice none 0 0, .bool false], .int .i64 0, .int .i64 0], []⟩ 8 (by kernel_rfl) (by kernel_rfl) (by kernel_rfl) (by kernel_rfl)) ?_
  intro W base args ds gs before hval0 hW hcnd hsz0 _
  have hval : ∀ (j : Nat) t v, Try.f4.params[j]? = some t → args[j]? = some v → Value.okWide Try.prog W .any base t v := hval0
  have hW' := hW
  obtain ⟨p, q, hA0, hV, rfl, hfz, hnd⟩ := hW
  have hA : DataW.TrodAll enc Try.prog W 0 (fun _ => true) true Try.f4.params.toList args.toList ds p := hA0
  rw [Try.params4] at hA hval
  have hA1 := hA
  obtain ⟨v0, vs0, d0, ds0, p0, q0, hargs, rfl, rfl, h0, r0⟩ := trodAll_cons hA
  obtain ⟨v1, vs1, d1, ds1, p1, q1, rfl, rfl, rfl, h1, r1⟩ := trodAll_cons r0
  obtain ⟨v2, vs2, d2, ds2, p2, q2, rfl, rfl, rfl, h2, r2⟩ := trodAll_cons r1
  obtain ⟨rfl, rfl, rfl⟩ := trodAll_nil r2
  obtain rfl : args = #[v0, v1, v2] := by cases args; simp_all
  obtain ⟨rfl, rfl⟩ := trodVars_none hV
  obtain ⟨ss, hl, hr, ht⟩ := arg_struct sh34 Try.underlying34 (hval 0 34 v0 rfl rfl) h0
  obtain ⟨a1, rfl, rfl, rfl, w1⟩ := open_int Try.underlying3 (hval 1 3 v1 rfl rfl) h1
  obtain ⟨a2, rfl, rfl, rfl, w2⟩ := open_int Try.underlying3 (hval 2 3 v2 rfl rfl) h2
  match ss, hl with
  | [s0, s1, s2, s3, s4], _ =>
    have t0 := ht 0 _ _ rfl rfl
    have t1 := ht 1 _ _ rfl rfl
    have t2 := ht 2 _ _ rfl rfl
    have t3 := ht 3 _ _ rfl rfl
    have t4 := ht 4 _ _ rfl rfl
    clear ht
    obtain ⟨g, rfl⟩ : ∃ g, s0 = .val (.bool g) := by cases t0; exact ⟨_, rfl⟩
    obtain ⟨f, rfl⟩ : ∃ g, s1 = .val (.bool g) := by cases t1; exact ⟨_, rfl⟩
    obtain ⟨is, rfl⟩ : ∃ is : List Int, s2 = .sl (is.map num) := by
      cases t2 with
      | sl r xs hl h =>
        obtain ⟨is, rfl⟩ := ints_of (.sl _ xs hl h)
        exact ⟨is, rfl⟩
    obtain ⟨rs, rfl⟩ : ∃ is : List Int, s3 = .sl (is.map num) := by
      cases t3 with
      | sl r xs hl h =>
        obtain ⟨is, rfl⟩ := ints_of (.sl _ xs hl h)
        exact ⟨is, rfl⟩
    obtain ⟨n, rfl⟩ : ∃ g, s4 = .val (.bool g) := by cases t4; exact ⟨_, rfl⟩
    clear hA0 hval0 hsz0
    refine (law_call (law4 g f n is rs a1 a2) (w := W) (vargs := #[v0, .int .i64 a1, .int .i64 a2]) ⟨rfl, fun i c hi => ?_⟩).mono fun e W' ⟨he, bel⟩ => ?_
    · match i, hi with
      | 0, hi => obtain rfl := Option.some.inj hi; exact hr
      | 1, hi => obtain rfl := Option.some.inj hi; exact .val _ rfl
      | 2, hi => obtain rfl := Option.some.inj hi; exact .val _ rfl
      | i + 3, hi => simp at hi
    subst he
    exact ⟨_, rfl, _, _, _, [], _, [], hW', trodAll_mk1 (shut_bool Try.underlying4 _), stays (by kernel_rfl) bel (of_decide_eq_true (by kernel_rfl)) hA1, rfl, bel.frame _, fun h => by cases h⟩
theorem over : Rows.controlChildrenRow.holds Try.pinned (OpenSpec.ofChange Rows.controlChildrenSpec) :=
  OpenClaim.holds_of_wide 4 Try.f4 rfl rfl rfl rfl rfl rfl rfl ⟨rfl, rfl, rfl, rfl, rfl⟩ rfl rfl rfl rfl rfl (by kernel_rfl) Try.func4 (by kernel_rfl)
    (of_decide_eq_true (by kernel_rfl)) (by unfold Func.isWrapper; first | (rw [if_pos (by decide +kernel)]; kernel_rfl) | (rw [if_neg (by decide +kernel)]; exact ⟨rfl, rfl⟩))
    (fun os started H enc _ => lifted os started H enc)
end Go.Proofs.Ytbkjiglbkckhmaa.controlChildren
namespace Go.Proofs.Ytbkjiglbkckhmaa
/-- The law holds. -/
theorem controlChildren_holds : Rows.ControlChildrenSaid := controlChildren.over
end Go.Proofs.Ytbkjiglbkckhmaa
