/- The law ControlStarts: both starts of a pipeline come to one launch, and the examples of the chapter hold. -/
import Derived.Test.YtbkjiglbkckhmaaTab
namespace Go.Proofs.YtbkjiglbkckhmaaV
open Go Go.RowKit Go.Proofs.Ytbkjiglbkckhmaa

def envV (o : Int) (talks : Bool) : V := .agg [.val (.string ⟨#[]⟩), .nils, .nils, .nils, .nils, .nils, .val (.int .i64 o), .val (.int .i64 0), .val (.int .i64 0), .val (.int .i64 0), .val (.string ⟨#[]⟩), .val (.int .i64 0), .val (.int .i64 0), .val (.int .i64 0), .val (.bool talks)]
/-- Is job control on? -/
def mon (o : Int) : Bool := IntKind.i64.wrap ↑(BitVec.ofInt IntKind.i64.bits o &&& BitVec.ofInt IntKind.i64.bits 64).toNat != 0
def num (n : Int) : List S := [.val (.int .i64 n)]
/-- The launch. -/
def startV (m talks back : Bool) : V := .agg [.val (.bool m), .val (.bool (m && !back)), if back && !m then .sl [num 2, num 3] else .nils,
  if talks then (if back && !m then .sl [num 4, num 5, num 15, num 20] else .sl [num 2, num 3, num 4, num 5, num 15, num 20]) else .nils, .val (.bool (back && !m))]
theorem clean_start (m talks back : Bool) : clean (startV m talks back) = true := by cases m <;> cases talks <;> cases back <;> rfl

set_option maxRecDepth 20000 in
theorem start11 (o : Int) (talks back : Bool) : FnOk Try.prog 11 [envV o talks, .val (.bool back)] [] (fun r bs' => fr bs' r = startV (mon o) talks back) := by
  refine FnOk.fast (Q := fun r => r = startV (mon o) talks back) layOk Try.func11 rfl ?_
  refine Ok.seq (go 10 rfl ?_)
  refine Ok.seq (go 10 rfl ?_)
  unfold thn
  dsimp only
  generalize (bitsV IntKind.i64 (fun x1 x2 => x1 &&& x2) o 64) = u
  change Ok _ _ _ [_, _, _, _, _, .val (.bool (mon o)), _, _, _, _, _, _, .val (.bool (mon o)), _, _, _, _, _, _, _, _, _, _, _, _, _, _, _, _, _, _, _, _, _, _, _, _, _, _, _, _, _, _, _, _, _, _, _, _, _, _, _, _, _, _, _, _, _] _
  generalize mon o = m
  refine goOut 200 (r := startV m talks back) ?_ rfl
  cases m <;> cases talks <;> cases back <;> kernel_rfl

set_option maxRecDepth 20000 in
theorem start12 (o : Int) (talks back : Bool) : FnOk Try.prog 12 [envV o talks, .val (.bool back)] [] (fun r bs' => fr bs' r = startV (mon o) talks back) := by
  refine FnOk.fast (Q := fun r => r = startV (mon o) talks back) layOk Try.func12 rfl ?_
  refine Ok.seq (go 10 rfl ?_)
  refine Ok.seq (go 10 rfl ?_)
  unfold thn
  dsimp only
  generalize (bitsV IntKind.i64 (fun x1 x2 => x1 &&& x2) o 64) = u
  change Ok _ _ _ [_, _, _, _, _, .val (.bool (mon o)), _, _, _, _, _, _, .val (.bool (mon o)), _, _, _, _, _, _, _, _, _, _, _, _, _, _, _, _, _, _, _, _, _, _, _, _, _, _, _, _, _, _, _, _, _, _, _, _, _, _, _, _, _, _, _] _
  generalize mon o = m
  refine goOut 200 (r := startV m talks back) ?_ rfl
  cases m <;> cases talks <;> cases back <;> kernel_rfl

theorem same10 (m talks back : Bool) : FnOk Try.prog 10 [startV m talks back, startV m talks back] [] (fun r bs' => fr bs' r = .val (.bool true)) := by
  refine FnOk.fast (Q := fun r => r = .val (.bool true)) layOk Try.func10 rfl ?_
  refine goOut 300 (r := .val (.bool true)) ?_ rfl
  cases m <;> cases talks <;> cases back <;> kernel_rfl

/-- The examples of the chapter on control. -/
theorem ex13 : FnOk Try.prog 13 [] [] (fun r bs' => fr bs' r = .val (.bool true)) :=
  FnOk.fast (Q := fun r => r = .val (.bool true)) layOk Try.func13 rfl (goOut 300 (r := .val (.bool true)) (by kernel_rfl) rfl)

noncomputable def tabS (o : Int) (talks back : Bool) : List (FuncId × List V × V) := [(11, [envV o talks, .val (.bool back)], startV (mon o) talks back), (12, [envV o talks, .val (.bool back)], startV (mon o) talks back),
  (10, [startV (mon o) talks back, startV (mon o) talks back], .val (.bool true)), (13, [], .val (.bool true))]
theorem tabS_good (o : Int) (talks back : Bool) : Good Try.prog (Tab (tabS o talks back)) := by
  refine Tab_good ?_
  simp only [tabS, List.mem_cons, List.not_mem_nil, or_false, forall_eq_or_imp, forall_eq]
  exact ⟨fact (start11 o talks back) rfl (clean_start _ _ _) Try.call11, fact (start12 o talks back) rfl (clean_start _ _ _) Try.call12,
    fact (same10 _ _ _) (by simp [clean_start]) rfl Try.call10, fact ex13 rfl rfl Try.call13⟩

set_option maxRecDepth 20000 in
theorem law3 (o : Int) (talks back : Bool) : FnOk Try.prog 3 [.val (.int .i64 o), .val (.bool talks), .val (.bool back)] [] (fun r _ => r = .val (.bool true)) := by
  refine FnOk.of layOk Try.func3 rfl ?_
  refine Ok.seq (go 10 rfl ?_)
  refine Ok.seq (go 10 rfl ?_)
  unfold thn
  dsimp only
  refine Ok.seq (Ok.regionW (G := fun _ => true) (C := Tab (tabS o talks back)) mixed layOk (tabS_good o talks back) Tab_calm (.inr ⟨by kernel_rfl, by kernel_rfl⟩) ?_)
  refine wstep rfl rfl ?_
  refine wstep rfl rfl ?_
  refine wstep rfl (Tab_hit) ?_
  refine wstep rfl rfl ?_
  refine wstep rfl rfl ?_
  refine wstep rfl ((Tab_skip (by decide)).trans Tab_hit) ?_
  refine wstep rfl ((Tab_skip (by decide)).trans ((Tab_skip (by decide)).trans Tab_hit)) ?_
  refine wstep rfl rfl ?_
  refine wstep rfl ((Tab_skip (by decide)).trans ((Tab_skip (by decide)).trans ((Tab_skip (by decide)).trans Tab_hit))) ?_
  refine wstep rfl rfl ?_
  refine wstep rfl rfl ?_
  refine wnil ?_
  refine Ok.ret ?_
  exact ⟨fun _ h => (by cases h), _, rfl, rfl⟩

end Go.Proofs.YtbkjiglbkckhmaaV
