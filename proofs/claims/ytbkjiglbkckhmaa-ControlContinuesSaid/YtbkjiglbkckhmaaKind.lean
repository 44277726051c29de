/- The kind and value of a wait status, of the program and of the reference; comparisons that are known. -/
import Derived.Test.YtbkjiglbkckhmaaReq
namespace Go.Proofs.YtbkjiglbkckhmaaV
open Go Go.RowKit Go.Proofs.Ytbkjiglbkckhmaa
set_option maxRecDepth 20000
set_option maxHeartbeats 1000000

section
variable {L : Lay} {C : CallT} {ts : List V} {bs : List Bx} {t t' : TypeId} {x y : Operand} {a b : Int} {v : Bool}
theorem lss_is (h : decide (a < b) = v) (hx : evO ts x = some (.val (.int .i64 a))) (hy : evO ts y = some (.val (.int .i64 b))) : evX L C (.binOp .lss t x y t') ts bs = some (.val (.bool v), bs) := by
  simp [evX, ev, hx, hy, evB, h]
theorem gtr_is (h : decide (a > b) = v) (hx : evO ts x = some (.val (.int .i64 a))) (hy : evO ts y = some (.val (.int .i64 b))) : evX L C (.binOp .gtr t x y t') ts bs = some (.val (.bool v), bs) := by
  simp only [evX, ev, hx, hy, evB, ne_eq, not_true_eq_false, if_false, h, Option.map_some]
theorem geq_is (h : decide (a ≥ b) = v) (hx : evO ts x = some (.val (.int .i64 a))) (hy : evO ts y = some (.val (.int .i64 b))) : evX L C (.binOp .geq t x y t') ts bs = some (.val (.bool v), bs) := by
  simp only [evX, ev, hx, hy, evB, ne_eq, not_true_eq_false, if_false, h, Option.map_some]
theorem eql_is (h : (a == b) = v) (hx : evO ts x = some (.val (.int .i64 a))) (hy : evO ts y = some (.val (.int .i64 b))) : evX L C (.binOp .eql t x y t') ts bs = some (.val (.bool v), bs) := by
  simp only [evX, ev, hx, hy, evB, ne_eq, not_true_eq_false, if_false, h, Option.map_some]
theorem neq_is (h : (a != b) = v) (hx : evO ts x = some (.val (.int .i64 a))) (hy : evO ts y = some (.val (.int .i64 b))) : evX L C (.binOp .neq t x y t') ts bs = some (.val (.bool v), bs) := by
  simp only [evX, ev, hx, hy, evB, ne_eq, not_true_eq_false, if_false, h, Option.map_some]
theorem quo_is (h : b ≠ 0) (hx : evO ts x = some (.val (.int .i64 a))) (hy : evO ts y = some (.val (.int .i64 b))) : evX L C (.binOp .quo t x y t') ts bs = some (.val (.int .i64 (IntKind.i64.wrap (a.tdiv b))), bs) := by
  simp [evX, ev, hx, hy, evB, h]
theorem rem_is (h : b ≠ 0) (hx : evO ts x = some (.val (.int .i64 a))) (hy : evO ts y = some (.val (.int .i64 b))) : evX L C (.binOp .rem t x y t') ts bs = some (.val (.int .i64 (a.tmod b)), bs) := by
  simp [evX, ev, hx, hy, evB, h]
end

def kindB (b1 b2 c1 c2 d1 d2 : Bool) (q r : Int) : Int × Int := if b1 || b2 then (-1, 0) else if (c1 || c2) && (d1 || d2) then (-1, 0) else (q, r)
def kindQ (s q r : Int) : Int × Int := kindB (decide (s < 0)) (decide (s > 768)) (q == 1) (q == 2) (decide (r < 1)) (decide (r > 20)) q r
/-- The kind and value of a status. -/
def kindI (s : Int) : Int × Int := kindQ s (IntKind.i64.wrap (s.tdiv 256)) (s.tmod 256)

theorem kind37 (s : Int) : FnOk Try.prog 37 [.val (i64 s)] [] (fun r bs' => fr bs' r = .tup [.val (i64 (kindI s).1), .val (i64 (kindI s).2)]) := by
  refine FnOk.fast (Q := fun r => r = .tup [.val (i64 (kindI s).1), .val (i64 (kindI s).2)]) layOk Try.func37 rfl ?_
  refine Ok.seq (go 10 rfl ?_)
  unfold thn
  dsimp only
  refine Ok.seq (Ok.seq (Ok.regionW (G := fun _ => false) (C := fun _ _ _ => none) mixed layOk noCalls (fun _ _ h => by cases h) (.inl rfl) ?_))
  unfold kindI
  generalize hq : IntKind.i64.wrap (s.tdiv 256) = q
  generalize hr : s.tmod 256 = r
  unfold kindQ
  generalize h1 : decide (s < 0) = b1
  generalize h2 : decide (s > 768) = b2
  cases b1
  · cases b2
    · repeat (first | refine wskipN rfl (by dsimp only [putV, List.set]) ?_ | refine wstepN rfl (lss_is h1 rfl rfl) (by dsimp only [putV, List.set]) ?_ | refine wstepN rfl (gtr_is h2 rfl rfl) (by dsimp only [putV, List.set]) ?_ | refine wstepN rfl rfl (by dsimp only [putV, List.set]) ?_)
      refine wnil (Ok.cond (b := false) rfl (fun h => by cases h) (fun _ => Ok.skip ?_))
      unfold thn
      dsimp only
      refine Ok.seq (Ok.regionW (G := fun _ => false) (C := fun _ _ _ => none) mixed layOk noCalls (fun _ _ h => by cases h) (.inl rfl) ?_)
      refine wstepN rfl rfl (by dsimp only [putV, List.set]) ?_
      refine wstepN rfl (quo_is (a := s) (by decide) rfl rfl) (by dsimp only [putV, List.set]) ?_
      refine wstepN rfl rfl (by dsimp only [putV, List.set]) ?_
      refine wstepN rfl (rem_is (a := s) (by decide) rfl rfl) (by dsimp only [putV, List.set]) ?_
      refine wstepN rfl rfl (by dsimp only [putV, List.set]) ?_
      refine wstepN rfl rfl (by dsimp only [putV, List.set]) ?_
      refine wnil ?_
      rw [hq, hr]
      refine Ok.seq (Ok.seq (Ok.regionW (G := fun _ => false) (C := fun _ _ _ => none) mixed layOk noCalls (fun _ _ h => by cases h) (.inl rfl) ?_))
      generalize h3 : (q == 1) = c1
      generalize h4 : (q == 2) = c2
      generalize h5 : decide (r < 1) = d1
      generalize h6 : decide (r > 20) = d2
      cases c1 <;> cases c2 <;> cases d1 <;> cases d2 <;>
      · repeat (first | refine wskipN rfl (by dsimp only [putV, List.set]) ?_ | refine wstepN rfl (eql_is h3 rfl rfl) (by dsimp only [putV, List.set]) ?_ | refine wstepN rfl (eql_is h4 rfl rfl) (by dsimp only [putV, List.set]) ?_ | refine wstepN rfl (lss_is h5 rfl rfl) (by dsimp only [putV, List.set]) ?_ | refine wstepN rfl (gtr_is h6 rfl rfl) (by dsimp only [putV, List.set]) ?_ | refine wstepN rfl rfl (by dsimp only [putV, List.set]) ?_)
        refine wnil (Ok.cond rfl (fun h => ?_) (fun h => ?_))
        · first | exact Bool.noConfusion h | exact go 10 rfl ⟨fun _ h => (by cases h), _, rfl, rfl⟩
        · first | exact Bool.noConfusion h | exact Ok.skip (goOut 10 rfl rfl)
    · repeat (first | refine wskipN rfl (by dsimp only [putV, List.set]) ?_ | refine wstepN rfl (lss_is h1 rfl rfl) (by dsimp only [putV, List.set]) ?_ | refine wstepN rfl (gtr_is h2 rfl rfl) (by dsimp only [putV, List.set]) ?_ | refine wstepN rfl rfl (by dsimp only [putV, List.set]) ?_)
      refine wnil (Ok.cond (b := true) rfl (fun _ => ?_) (fun h => by cases h))
      exact go 10 rfl ⟨fun _ h => (by cases h), _, rfl, rfl⟩
  · repeat (first | refine wskipN rfl (by dsimp only [putV, List.set]) ?_ | refine wstepN rfl (lss_is h1 rfl rfl) (by dsimp only [putV, List.set]) ?_ | refine wstepN rfl rfl (by dsimp only [putV, List.set]) ?_)
    refine wnil (Ok.cond (b := true) rfl (fun _ => ?_) (fun h => by cases h))
    exact go 10 rfl ⟨fun _ h => (by cases h), _, rfl, rfl⟩

theorem kind46 (s : Int) : FnOk Try.prog 46 [.val (i64 s)] [] (fun r bs' => fr bs' r = .tup [.val (i64 (kindI s).1), .val (i64 (kindI s).2)]) := by
  refine FnOk.fast (Q := fun r => r = .tup [.val (i64 (kindI s).1), .val (i64 (kindI s).2)]) layOk Try.func46 rfl ?_
  refine Ok.seq (go 10 rfl ?_)
  unfold thn
  dsimp only
  refine Ok.seq (Ok.seq (Ok.regionW (G := fun _ => false) (C := fun _ _ _ => none) mixed layOk noCalls (fun _ _ h => by cases h) (.inl rfl) ?_))
  unfold kindI
  generalize hq : IntKind.i64.wrap (s.tdiv 256) = q
  generalize hr : s.tmod 256 = r
  unfold kindQ
  generalize h1 : decide (s < 0) = b1
  generalize h2 : decide (s > 768) = b2
  cases b1
  · cases b2
    · repeat (first | refine wskipN rfl (by dsimp only [putV, List.set]) ?_ | refine wstepN rfl (lss_is h1 rfl rfl) (by dsimp only [putV, List.set]) ?_ | refine wstepN rfl (gtr_is h2 rfl rfl) (by dsimp only [putV, List.set]) ?_ | refine wstepN rfl rfl (by dsimp only [putV, List.set]) ?_)
      refine wnil (Ok.cond (b := false) rfl (fun h => by cases h) (fun _ => Ok.skip ?_))
      unfold thn
      dsimp only
      refine Ok.seq (Ok.regionW (G := fun _ => false) (C := fun _ _ _ => none) mixed layOk noCalls (fun _ _ h => by cases h) (.inl rfl) ?_)
      refine wstepN rfl rfl (by dsimp only [putV, List.set]) ?_
      refine wstepN rfl (quo_is (a := s) (by decide) rfl rfl) (by dsimp only [putV, List.set]) ?_
      refine wstepN rfl rfl (by dsimp only [putV, List.set]) ?_
      refine wstepN rfl (rem_is (a := s) (by decide) rfl rfl) (by dsimp only [putV, List.set]) ?_
      refine wstepN rfl rfl (by dsimp only [putV, List.set]) ?_
      refine wstepN rfl rfl (by dsimp only [putV, List.set]) ?_
      refine wnil ?_
      rw [hq, hr]
      refine Ok.seq (Ok.seq (Ok.regionW (G := fun _ => false) (C := fun _ _ _ => none) mixed layOk noCalls (fun _ _ h => by cases h) (.inl rfl) ?_))
      generalize h3 : (q == 1) = c1
      generalize h4 : (q == 2) = c2
      generalize h5 : decide (r < 1) = d1
      generalize h6 : decide (r > 20) = d2
      cases c1 <;> cases c2 <;> cases d1 <;> cases d2 <;>
      · repeat (first | refine wskipN rfl (by dsimp only [putV, List.set]) ?_ | refine wstepN rfl (eql_is h3 rfl rfl) (by dsimp only [putV, List.set]) ?_ | refine wstepN rfl (eql_is h4 rfl rfl) (by dsimp only [putV, List.set]) ?_ | refine wstepN rfl (lss_is h5 rfl rfl) (by dsimp only [putV, List.set]) ?_ | refine wstepN rfl (gtr_is h6 rfl rfl) (by dsimp only [putV, List.set]) ?_ | refine wstepN rfl rfl (by dsimp only [putV, List.set]) ?_)
        refine wnil (Ok.cond rfl (fun h => ?_) (fun h => ?_))
        · first | exact Bool.noConfusion h | exact go 10 rfl ⟨fun _ h => (by cases h), _, rfl, rfl⟩
        · first | exact Bool.noConfusion h | exact Ok.skip (goOut 10 rfl rfl)
    · repeat (first | refine wskipN rfl (by dsimp only [putV, List.set]) ?_ | refine wstepN rfl (lss_is h1 rfl rfl) (by dsimp only [putV, List.set]) ?_ | refine wstepN rfl (gtr_is h2 rfl rfl) (by dsimp only [putV, List.set]) ?_ | refine wstepN rfl rfl (by dsimp only [putV, List.set]) ?_)
      refine wnil (Ok.cond (b := true) rfl (fun _ => ?_) (fun h => by cases h))
      exact go 10 rfl ⟨fun _ h => (by cases h), _, rfl, rfl⟩
  · repeat (first | refine wskipN rfl (by dsimp only [putV, List.set]) ?_ | refine wstepN rfl (lss_is h1 rfl rfl) (by dsimp only [putV, List.set]) ?_ | refine wstepN rfl rfl (by dsimp only [putV, List.set]) ?_)
    refine wnil (Ok.cond (b := true) rfl (fun _ => ?_) (fun h => by cases h))
    exact go 10 rfl ⟨fun _ h => (by cases h), _, rfl, rfl⟩


end Go.Proofs.YtbkjiglbkckhmaaV
