/- The row of the law ControlContinues. -/
import Derived.Test.YtbkjiglbkckhmaaContinues
import Derived.Test.YtbkjiglbkckhmaaV25
import Derived.WalkKit
import Derived.ProofKit
import Derived.OpenShut
import Derived.ShutString
import Derived.ChangeOld
import Derived.SizedLaws
namespace Go.Proofs.Ytbkjiglbkckhmaa.controlContinues
open Go.ChangeShapes Go.WideShapes Go.ChangeAt Go.RowKit Go.Proofs.YtbkjiglbkckhmaaV
theorem own : ownKnob Try.prog.godebug = none := by kernel_rfl
theorem sh40 : IsSh Try.prog 40 [.int .i64, .int .i64, .int .i64, .sl [.int .i64], .sl [.int .i64], .str, .bool] := by
  refine IsSh.struct (rs := [[.int .i64], [.int .i64], [.int .i64], [.sl [.int .i64]], [.sl [.int .i64]], [.str], [.bool]]) Try.underlying40 rfl ?_ ?_ ?_ (by kernel_rfl)
  · intro i f r h1 h2
    rcases i with _ | _ | _ | _ | _ | _ | _ | i <;> cases h1 <;> cases h2
    · exact .int Try.underlying3
    · exact .int Try.underlying3
    · exact .int Try.underlying3
    · exact .sl Try.underlying32 (.int Try.underlying3) (by kernel_rfl) (by decide)
    · exact .sl Try.underlying32 (.int Try.underlying3) (by kernel_rfl) (by decide)
    · exact .str Try.underlying9
    · exact .bool Try.underlying4
  · intro i f h1
    rcases i with _ | _ | _ | _ | _ | _ | _ | i <;> cases h1 <;> rfl
  · intro i f r h1 h2
    rcases i with _ | _ | _ | _ | _ | _ | _ | i <;> cases h1 <;> cases h2 <;> kernel_rfl
set_option maxRecDepth 100000 in
theorem lifted (os : Os) (started : os.Started) (H : Type) (enc : TypeId × Value → H) :
    ReturnsInHanded {} Try.checked os 5 .any (Rows.controlContinuesSpec.pre6 enc Try.prog Try.f5 Rows.controlContinuesRow.domain false) (Rows.controlContinuesSpec.post enc Try.prog Try.f5 false true false false) := by
  refine returnsInHanded_of_change_sized (C := Try.checked) own started (by kernel_rfl) Try.func5
    (ChangeSpec.witness6 (enc := enc) (C := Try.checked) false ⟨#[], #[.agg #[.int .i64 0, .int .i64 0, .int .i64 0, .slice none 0 0, .slice none 0 0, .string ⟨#[]⟩, .bool false], .int .i64 0], []⟩ 8 (by kernel_rfl) (by kernel_rfl) (by kernel_rfl) (by kernel_rfl)) ?_
  intro W base args ds gs before hval0 hW hcnd hsz0 _
  have hval : ∀ (j : Nat) t v, Try.f5.params[j]? = some t → args[j]? = some v → Value.okWide Try.prog W .any base t v := hval0
  have hW' := hW
  obtain ⟨p, q, hA0, hV, rfl, hfz, hnd⟩ := hW
  have hA : DataW.TrodAll enc Try.prog W 0 (fun _ => true) true Try.f5.params.toList args.toList ds p := hA0
  rw [Try.params5] at hA hval
  have hA1 := hA
  obtain ⟨v0, vs0, d0, ds0, p0, q0, hargs, rfl, rfl, h0, r0⟩ := trodAll_cons hA
  obtain ⟨v1, vs1, d1, ds1, p1, q1, rfl, rfl, rfl, h1, r1⟩ := trodAll_cons r0
  obtain ⟨rfl, rfl, rfl⟩ := trodAll_nil r1
  obtain rfl : args = #[v0, v1] := by cases args; simp_all
  obtain ⟨rfl, rfl⟩ := trodVars_none hV
  obtain ⟨ss, hl, hr, ht⟩ := arg_struct sh40 Try.underlying40 (hval 0 40 v0 rfl rfl) h0
  obtain ⟨a1, rfl, rfl, rfl, w1⟩ := open_int Try.underlying3 (hval 1 3 v1 rfl rfl) h1
  match ss, hl with
  | [s0, s1, s2, s3, s4, s5, s6], _ =>
    have t0 := ht 0 _ _ rfl rfl
    have t1 := ht 1 _ _ rfl rfl
    have t2 := ht 2 _ _ rfl rfl
    have t3 := ht 3 _ _ rfl rfl
    have t4 := ht 4 _ _ rfl rfl
    have t5 := ht 5 _ _ rfl rfl
    have t6 := ht 6 _ _ rfl rfl
    clear ht
    obtain ⟨k0, rfl⟩ : ∃ g, s0 = .val (.int .i64 g) := by cases t0; exact ⟨_, rfl⟩
    obtain ⟨k1, rfl⟩ : ∃ g, s1 = .val (.int .i64 g) := by cases t1; exact ⟨_, rfl⟩
    obtain ⟨k2, rfl⟩ : ∃ g, s2 = .val (.int .i64 g) := by cases t2; exact ⟨_, rfl⟩
    obtain ⟨ps, rfl⟩ : ∃ is : List Int, s3 = .sl (is.map num) := by
      cases t3 with
      | sl r xs hl h =>
        obtain ⟨is, rfl⟩ := ints_of (.sl _ xs hl h)
        exact ⟨is, rfl⟩
    obtain ⟨ss, rfl⟩ : ∃ is : List Int, s4 = .sl (is.map num) := by
      cases t4 with
      | sl r xs hl h =>
        obtain ⟨is, rfl⟩ := ints_of (.sl _ xs hl h)
        exact ⟨is, rfl⟩
    obtain ⟨tx, rfl⟩ : ∃ g, s5 = .val (.string g) := by cases t5; exact ⟨_, rfl⟩
    obtain ⟨nb, rfl⟩ : ∃ g, s6 = .val (.bool g) := by cases t6; exact ⟨_, rfl⟩
    clear hA0 hval0 hsz0
    refine (law_call (law5 k0 k1 k2 ps ss tx nb a1) (w := W) (vargs := #[v0, .int .i64 a1]) ⟨rfl, fun i c hi => ?_⟩).mono fun e W' ⟨he, bel⟩ => ?_
    · match i, hi with
      | 0, hi => obtain rfl := Option.some.inj hi; exact hr
      | 1, hi => obtain rfl := Option.some.inj hi; exact .val _ rfl
      | i + 2, hi => simp at hi
    subst he
    exact ⟨_, rfl, _, _, _, [], _, [], hW', trodAll_mk1 (shut_bool Try.underlying4 _), stays (by kernel_rfl) bel (of_decide_eq_true (by kernel_rfl)) hA1, rfl, bel.frame _, fun h => by cases h⟩
theorem over : Rows.controlContinuesRow.holds Try.pinned (OpenSpec.ofChange Rows.controlContinuesSpec) :=
  OpenClaim.holds_of_wide 5 Try.f5 rfl rfl rfl rfl rfl rfl rfl ⟨rfl, rfl, rfl, rfl, rfl⟩ rfl rfl rfl rfl rfl (by kernel_rfl) Try.func5 (by kernel_rfl)
    (of_decide_eq_true (by kernel_rfl)) (by unfold Func.isWrapper; first | (rw [if_pos (by decide +kernel)]; kernel_rfl) | (rw [if_neg (by decide +kernel)]; exact ⟨rfl, rfl⟩))
    (fun os started H enc _ => lifted os started H enc)
end Go.Proofs.Ytbkjiglbkckhmaa.controlContinues
namespace Go.Proofs.Ytbkjiglbkckhmaa
/-- The law holds. -/
theorem controlContinues_holds : Rows.ControlContinuesSaid := controlContinues.over
end Go.Proofs.Ytbkjiglbkckhmaa
