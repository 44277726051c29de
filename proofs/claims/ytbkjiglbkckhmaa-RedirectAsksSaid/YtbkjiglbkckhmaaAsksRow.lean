/- The row of the law RedirectAsks. -/
import Derived.Test.YtbkjiglbkckhmaaAsks
import Derived.Test.YtbkjiglbkckhmaaV25
import Derived.WalkKit
import Derived.ProofKit
import Derived.OpenShut
import Derived.ShutString
import Derived.ChangeOld
import Derived.SizedLaws
namespace Go.Proofs.Ytbkjiglbkckhmaa.redirectAsks
open Go.ChangeShapes Go.WideShapes Go.ChangeAt Go.RowKit Go.Proofs.YtbkjiglbkckhmaaV
theorem own : ownKnob Try.prog.godebug = none := by kernel_rfl
theorem sh62 : IsSh Try.prog 62 [.int .i64, .int .i64, .int .i64, .int .i64, .str, .str] := by
  refine IsSh.struct (rs := [[.int .i64], [.int .i64], [.int .i64], [.int .i64], [.str], [.str]]) Try.underlying62 rfl ?_ ?_ ?_ (by kernel_rfl)
  · intro i f r h1 h2
    rcases i with _ | _ | _ | _ | _ | _ | i <;> cases h1 <;> cases h2
    · exact .int Try.underlying3
    · exact .int Try.underlying3
    · exact .int Try.underlying3
    · exact .int Try.underlying3
    · exact .str Try.underlying9
    · exact .str Try.underlying9
  · intro i f h1
    rcases i with _ | _ | _ | _ | _ | _ | i <;> cases h1 <;> rfl
  · intro i f r h1 h2
    rcases i with _ | _ | _ | _ | _ | _ | i <;> cases h1 <;> cases h2 <;> kernel_rfl
set_option maxRecDepth 100000 in
theorem lifted (os : Os) (started : os.Started) (H : Type) (enc : TypeId × Value → H) :
    ReturnsInHanded {} Try.checked os 8 .any (Rows.redirectAsksSpec.pre6 enc Try.prog Try.f8 Rows.redirectAsksRow.domain false) (Rows.redirectAsksSpec.post enc Try.prog Try.f8 false true false false) := by
  refine returnsInHanded_of_change_sized (C := Try.checked) own started (by kernel_rfl) Try.func8
    (ChangeSpec.witness6 (enc := enc) (C := Try.checked) false ⟨#[], #[.agg #[.int .i64 0, .int .i64 0, .int .i64 0, .int .i64 0, .string ⟨#[]⟩, .string ⟨#[]⟩]], []⟩ 8 (by kernel_rfl) (by kernel_rfl) (by kernel_rfl) (by kernel_rfl)) ?_
  intro W base args ds gs before hval0 hW hcnd hsz0 _
  have hval : ∀ (j : Nat) t v, Try.f8.params[j]? = some t → args[j]? = some v → Value.okWide Try.prog W .any base t v := hval0
  have hW' := hW
  obtain ⟨p, q, hA0, hV, rfl, hfz, hnd⟩ := hW
  have hA : DataW.TrodAll enc Try.prog W 0 (fun _ => true) true Try.f8.params.toList args.toList ds p := hA0
  rw [Try.params8] at hA hval
  have hA1 := hA
  obtain ⟨v0, vs0, d0, ds0, p0, q0, hargs, rfl, rfl, h0, r0⟩ := trodAll_cons hA
  obtain ⟨rfl, rfl, rfl⟩ := trodAll_nil r0
  obtain rfl : args = #[v0] := by cases args; simp_all
  obtain ⟨rfl, rfl⟩ := trodVars_none hV
  obtain ⟨ss, hl, hr, ht⟩ := arg_struct sh62 Try.underlying62 (hval 0 62 v0 rfl rfl) h0
  match ss, hl with
  | [s0, s1, s2, s3, s4, s5], _ =>
    have t0 := ht 0 _ _ rfl rfl
    have t1 := ht 1 _ _ rfl rfl
    have t2 := ht 2 _ _ rfl rfl
    have t3 := ht 3 _ _ rfl rfl
    have t4 := ht 4 _ _ rfl rfl
    have t5 := ht 5 _ _ rfl rfl
    clear ht
    obtain ⟨k0, rfl⟩ : ∃ g, s0 = .val (.int .i64 g) := by cases t0; exact ⟨_, rfl⟩
    obtain ⟨k1, rfl⟩ : ∃ g, s1 = .val (.int .i64 g) := by cases t1; exact ⟨_, rfl⟩
    obtain ⟨k2, rfl⟩ : ∃ g, s2 = .val (.int .i64 g) := by cases t2; exact ⟨_, rfl⟩
    obtain ⟨k3, rfl⟩ : ∃ g, s3 = .val (.int .i64 g) := by cases t3; exact ⟨_, rfl⟩
    obtain ⟨tp, rfl⟩ : ∃ g, s4 = .val (.string g) := by cases t4; exact ⟨_, rfl⟩
    obtain ⟨tx, rfl⟩ : ∃ g, s5 = .val (.string g) := by cases t5; exact ⟨_, rfl⟩
    clear hA0 hval0 hsz0
    refine (law_call (law8 k0 k1 k2 k3 tp tx) (w := W) (vargs := #[v0]) ⟨rfl, fun i c hi => ?_⟩).mono fun e W' ⟨he, bel⟩ => ?_
    · match i, hi with
      | 0, hi => obtain rfl := Option.some.inj hi; exact hr
      | i + 1, hi => simp at hi
    subst he
    exact ⟨_, rfl, _, _, _, [], _, [], hW', trodAll_mk1 (shut_bool Try.underlying4 _), stays (by kernel_rfl) bel (of_decide_eq_true (by kernel_rfl)) hA1, rfl, bel.frame _, fun h => by cases h⟩
theorem over : Rows.redirectAsksRow.holds Try.pinned (OpenSpec.ofChange Rows.redirectAsksSpec) :=
  OpenClaim.holds_of_wide 8 Try.f8 rfl rfl rfl rfl rfl rfl rfl ⟨rfl, rfl, rfl, rfl, rfl⟩ rfl rfl rfl rfl rfl (by kernel_rfl) Try.func8 (by kernel_rfl)
    (of_decide_eq_true (by kernel_rfl)) (by unfold Func.isWrapper; first | (rw [if_pos (by decide +kernel)]; kernel_rfl) | (rw [if_neg (by decide +kernel)]; exact ⟨rfl, rfl⟩))
    (fun os started H enc _ => lifted os started H enc)
end Go.Proofs.Ytbkjiglbkckhmaa.redirectAsks
namespace Go.Proofs.Ytbkjiglbkckhmaa
/-- The law holds. -/
theorem redirectAsks_holds : Rows.RedirectAsksSaid := redirectAsks.over
end Go.Proofs.Ytbkjiglbkckhmaa
