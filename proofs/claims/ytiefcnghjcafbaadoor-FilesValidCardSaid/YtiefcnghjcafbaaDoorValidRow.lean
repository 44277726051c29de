/- The tied card of the law FilesValid: for every input the law returns true, and each argument reads as before; the two listed tables are tied to the text. -/
import Derived.Test.YtiefcnghjcafbaaDoorFiles4
import Derived.Test.YtiefcnghjcafbaaDoorV25
import Derived.Test.YtiefcnghjcafbaaDoorCards
import Derived.Test.YtiefcnghjcafbaaDoorTie
import Derived.WalkKit
import Derived.ProofKit
import Derived.OpenShut
import Derived.ShutString
import Derived.ChangeOld
import Derived.SizedLaws
import Derived.Stop.Joined
import Derived.LaidMore
import Derived.Lay
import Derived.SevenTiedAt
import Derived.ChangeMaps5
namespace Go.Proofs.YtiefcnghjcafbaaDoor.filesValid
open Go Go.ChangeShapes Go.WideShapes Go.ChangeMaps Go.ChangeAt Go.RowKit Go.Proofs.YtiefcnghjcafbaaDoorV Go.Proofs.YtiefcnghjcafbaaDoor
theorem own : ownKnob Tryd.prog.godebug = none := by kernel_rfl
noncomputable def laid : List (String × DataW Unit) := [("unicode/utf8.acceptRanges", Rows.laid_unicode_utf8_acceptRanges), ("unicode/utf8.first", Rows.laid_unicode_utf8_first)]
theorem sh45 : IsSh Tryd.prog 45 [.str, .bool, .str] := by
  refine IsSh.struct (rs := [[.str], [.bool], [.str]]) Tryd.underlying45 rfl ?_ ?_ ?_ (by kernel_rfl)
  · intro i f r h1 h2
    rcases i with _ | _ | _ | i <;> cases h1 <;> cases h2
    · exact .str Tryd.underlying9
    · exact .bool Tryd.underlying4
    · exact .str Tryd.underlying9
  · intro i f h1
    rcases i with _ | _ | _ | i <;> cases h1 <;> rfl
  · intro i f r h1 h2
    rcases i with _ | _ | _ | i <;> cases h1 <;> cases h2 <;> kernel_rfl
theorem sh22 : IsSh Tryd.prog 22 [.sl [.str, .bool, .str]] := .sl Tryd.underlying22 sh45 (by kernel_rfl) (by decide)
theorem files_of {xs : List (List S)} (h : TyS (.sl [.str, .bool, .str]) (.sl xs)) : ∃ l : List Fl, xs = rowsF l := by
  cases h with
  | sl r xs hl h =>
    induction xs with
    | nil => exact ⟨[], rfl⟩
    | cons x xs ih =>
      obtain ⟨l, rfl⟩ := ih (fun y hy => hl y (List.mem_cons_of_mem _ hy)) (fun y hy => h y (List.mem_cons_of_mem _ hy))
      have h1 := hl x List.mem_cons_self
      match x, h1 with
      | [s0, s1, s2], _ =>
        have t0 := h [s0, s1, s2] List.mem_cons_self 0 s0 _ rfl rfl
        have t1 := h [s0, s1, s2] List.mem_cons_self 1 s1 _ rfl rfl
        have t2 := h [s0, s1, s2] List.mem_cons_self 2 s2 _ rfl rfl
        obtain ⟨a, rfl⟩ : ∃ a, s0 = .val (.string (B a)) := by cases t0 with | str s h => exact ⟨_, by rw [← B_data]⟩
        obtain ⟨d, rfl⟩ : ∃ d, s1 = .val (.bool d) := by cases t1; exact ⟨_, rfl⟩
        obtain ⟨e, rfl⟩ : ∃ a, s2 = .val (.string (B a)) := by cases t2 with | str s h => exact ⟨_, by rw [← B_data]⟩
        exact ⟨⟨a, d, e⟩ :: l, rfl⟩
set_option maxRecDepth 100000 in
theorem lifted (os : Os) (started : os.Started) (H : Type) (enc : TypeId × Value → H) :
    ReturnsInHanded {} Tryd.checked os 3 .any (fun w args => (Rows.filesValidSpec.pre enc Tryd.prog Tryd.f3 [] false w args ∧ laidMetH Tryd.prog laid w) ∧ sizedMet enc Tryd.prog Tryd.f3 (OpenSpec.ofChange Rows.filesValidSpec) false w args)
      (Rows.filesValidSpec.post enc Tryd.prog Tryd.f3 false true false false) := by
  refine returnsInHanded_of_change_and (C := Tryd.checked) (X := fun w _ => laidMetH Tryd.prog laid w) (fun _ _ _ hh h => h.of_heap hh) own started (by kernel_rfl) Tryd.func3
    (ChangeSpec.witness_shaped (enc := enc) (C := Tryd.checked) (os := os) (X := fun w _ => laidMetH Tryd.prog laid w) false (World.laidAll Tryd.prog os laid) #[.slice none 0 0] 8 (World.laidAll_os _ _ _)
      (World.shaped_of_ZipB (by kernel_rfl) (by kernel_rfl)) (by kernel_rfl) (by kernel_rfl) (by kernel_rfl)
      (by rw [MakeChecks.laidMetH_plain _ _ _ (by kernel_rfl)]; exact laidMet_laidAll _ (by kernel_rfl) (by kernel_rfl))) ?_
  intro W base args ds gs before hval0 hW _ hsz0 _ _
  have hval : ∀ (j : Nat) t v, Tryd.f3.params[j]? = some t → args[j]? = some v → Value.okWide Tryd.prog W .any base t v := hval0
  have hW' := hW
  obtain ⟨p, q, hA0, hV, rfl, hfz, hnd⟩ := hW
  have hA : DataW.TrodAll enc Tryd.prog W 0 (fun _ => true) true Tryd.f3.params.toList args.toList ds p := hA0
  rw [Tryd.params3] at hA hval
  have hA1 := hA
  obtain ⟨v0, vs0, d0, ds0, p0, q0, hargs, rfl, rfl, h0, r0⟩ := trodAll_cons hA
  obtain ⟨rfl, rfl, rfl⟩ := trodAll_nil r0
  obtain rfl : args = #[v0] := by cases args; simp_all
  obtain ⟨rfl, rfl⟩ := trodVars_none hV
  obtain ⟨A0, n0, c0, e0⟩ := Go.WideShapes.okWide_slice Tryd.underlying22 (hval 0 22 v0 rfl rfl)
  obtain ⟨xs0, hr0, ht0⟩ := arg_slice (e := 45) sh22 (by rw [e0]; rfl) h0
  obtain ⟨l0, rfl⟩ := files_of ht0
  clear hA0 hval0 hsz0
  refine (law_call (law3 l0) (w := W) (vargs := #[v0]) ⟨rfl, fun i c hi => ?_⟩).mono fun e W' ⟨he, bel⟩ => ?_
  · match i, hi with
    | 0, hi => obtain rfl := Option.some.inj hi; exact hr0
    | i + 1, hi => simp at hi
  subst he
  exact ⟨_, rfl, _, _, _, [], _, [], hW', trodAll_mk1 (shut_bool Tryd.underlying4 _), stays (by kernel_rfl) bel (of_decide_eq_true (by kernel_rfl)) hA1, rfl, bel.frame _, fun h => by cases h⟩
theorem over : Rows.filesValidRow.holds Tryd.pinned (OpenSpec.ofChange Rows.filesValidSpec) :=
  OpenClaim.holds_of_wide 3 Tryd.f3 rfl rfl rfl rfl rfl rfl rfl ⟨rfl, rfl, rfl, rfl, rfl⟩ rfl rfl rfl rfl rfl (by kernel_rfl) Tryd.func3 (by kernel_rfl)
    (of_decide_eq_true (by kernel_rfl)) (by unfold Func.isWrapper; first | (rw [if_pos (by decide +kernel)]; kernel_rfl) | (rw [if_neg (by decide +kernel)]; exact ⟨rfl, rfl⟩))
    (fun os started H enc _ => lifted os started H enc)
end Go.Proofs.YtiefcnghjcafbaaDoor.filesValid
namespace Go.Proofs.YtiefcnghjcafbaaDoor
/-- The tied card holds. -/
theorem filesValid_card_holds : Rows.FilesValidCardSaid :=
  Claim7.holds_tied_plain_at .later [] [.data, .pinned] true (true, "aca7594db9ff0d93d77f1e814c5b7da2aff19731a7df622b2ac5446e91a458f9") false
    filesValid.over (fun _ h => by cases h) (by kernel_rfl) (fun _ h => by cases h) filesValid_row_tie rfl ⟨rfl, rfl⟩ (by kernel_rfl) rfl
    (fun f fn hf hfn => by
      obtain rfl : f = 3 := Option.some.inj ((show Tryd.prog.funcNamed "jobshell/jobshelllaw19.FilesValid" = some 3 by kernel_rfl).symm.trans hf) |>.symm
      obtain rfl : fn = Tryd.f3 := (Option.some.inj (Tryd.func3.symm.trans hfn)).symm
      exact ⟨by kernel_rfl, fun j t ht => by
        rw [Tryd.params3] at ht
        have hm : t ∈ [22] := by simpa using Array.mem_of_getElem? ht
        have hall : ([22].all fun u => !Tryd.prog.wantsStandIn u) = true := by kernel_rfl
        exact (show Tryd.prog.wantsStandIn t = false by simpa using List.all_eq_true.1 hall t hm)⟩)
    (by kernel_rfl)
end Go.Proofs.YtiefcnghjcafbaaDoor
