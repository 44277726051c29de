/- The law RedirectPlans over plain values. -/
import Derived.Test.YtbkjiglbkckhmaaPlan
import Derived.Test.YtbkjiglbkckhmaaEx35
namespace Go.Proofs.YtbkjiglbkckhmaaV
open Go Go.RowKit Go.Proofs.Ytbkjiglbkckhmaa
set_option maxRecDepth 20000
set_option maxHeartbeats 1000000

theorem plan_is (rs : List RD) (ss : List ByteArray) (nb : Bool) (hl : rs.length ≤ 60) : ∃ ms e, planR rs ss nb = .tup [.sl ms, .val (i64 e)] ∧ (∀ x ∈ ms, IsMv x) ∧ ms.length ≤ 1000 := by
  unfold planR planZ
  split
  · exact ⟨_, _, rfl, fun x h => by (cases h), Nat.zero_le _⟩
  · split
    · exact ⟨_, _, rfl, fun x h => by (cases h), Nat.zero_le _⟩
    · refine ⟨_, _, rfl, fun x hx => ?_, ?_⟩
      · obtain ⟨z, hz, rfl⟩ := List.mem_map.1 hx
        unfold mvZ at hz
        obtain ⟨p, _, rfl⟩ := List.mem_map.1 hz
        obtain ⟨k, a, b, c, u, t, e, hv⟩ := mv_is p.1.fd p.1.op p.2 nb
        rw [hv]
        exact ⟨k, a, b, c, u, t, rfl⟩
      · simp [mvZ]
        omega

inductive T6 (rs : List RD) (ss : List ByteArray) (o : Int) (ms : List (List S)) (e : Int) : FuncId → List V → V → Prop
  | a25 : T6 rs ss o ms e 25 [.sl (rs.map rdS), .sl (ss.map txS), .val (i64 o)] (.tup [.sl ms, .val (i64 e)])
  | a26 : T6 rs ss o ms e 26 [.sl (rs.map rdS), .sl (ss.map txS), .val (i64 o)] (.tup [.sl ms, .val (i64 e)])
  | same : T6 rs ss o ms e 27 [.sl ms, .sl ms] (.val (.bool true))
  | ex : T6 rs ss o ms e 24 [] (.val (.bool true))
theorem T6_good (rs : List RD) (ss : List ByteArray) (o : Int) (ms : List (List S)) (e : Int) (hl : rs.length ≤ 60) (hp : planR rs ss (nbO o) = .tup [.sl ms, .val (i64 e)]) (hm : ∀ x ∈ ms, IsMv x) (hn : ms.length ≤ 1000) : Good Try.prog (TabP (T6 rs ss o ms e)) := by
  refine TabP_good fun f vs v h => ?_
  cases h with
  | a25 => exact ⟨hp ▸ plan25 rs ss o hl, rfl, rfl, Try.call25⟩
  | a26 => exact ⟨hp ▸ plan26 rs ss o hl, rfl, rfl, Try.call26⟩
  | same => exact ⟨same27 ms hm hn, rfl, rfl, Try.call27⟩
  | ex => exact ⟨ex24, rfl, rfl, Try.call24⟩

theorem law6 (rs : List RD) (ss : List ByteArray) (o : Int) : FnOk Try.prog 6 [.sl (rs.map rdS), .sl (ss.map txS), .val (i64 o)] [] (fun r _ => r = .val (.bool true)) := by
  refine FnOk.of layOk Try.func6 rfl ?_
  refine Ok.seq (go 10 rfl ?_)
  unfold thn
  dsimp only
  refine Ok.seq (Ok.seq (Ok.regionW (G := fun _ => false) (C := fun _ _ _ => none) mixed layOk noCalls (fun _ _ h => by cases h) (.inl rfl) ?_))
  generalize h1 : decide (((rs.map rdS).length : Int) > 60) = u1
  generalize h2 : decide (((ss.map txS).length : Int) > 60) = u2
  cases u1
  · cases u2
    · have hl : rs.length ≤ 60 := by
        simp only [List.length_map, decide_eq_false_iff_not] at h1
        omega
      obtain ⟨ms, e, hp, hm, hn⟩ := plan_is rs ss (nbO o) hl
      have hT := T6_good rs ss o ms e hl hp hm hn
      repeat (first | refine wskipN rfl (by dsimp only [putV, List.set]) ?_ | refine wstepN rfl (gtrK h1 rfl rfl) (by dsimp only [putV, List.set]) ?_ | refine wstepN rfl (gtrK h2 rfl rfl) (by dsimp only [putV, List.set]) ?_ | refine wstepN rfl rfl (by dsimp only [putV, List.set]) ?_)
      refine wnil (Ok.cond (b := false) rfl (fun h => by cases h) (fun _ => Ok.skip ?_))
      unfold thn
      dsimp only
      refine Ok.seq (Ok.regionW (G := fun _ => true) (C := TabP _) mixed layOk hT TabP_calm (.inl rfl) ?_)
      refine wstepN rfl rfl (by dsimp only [putV, List.set]) ?_
      refine wstepN rfl rfl (by dsimp only [putV, List.set]) ?_
      refine wstepN rfl rfl (by dsimp only [putV, List.set]) ?_
      refine wstepN rfl (TabP_hit (fun v' h => by cases h; rfl) .a25) (by dsimp only [putV, List.set]) ?_
      repeat refine wstepN rfl rfl (by dsimp only [putV, List.set]) ?_
      refine wnil ?_
      refine Ok.seq (Ok.regionW (G := fun _ => true) (C := TabP _) mixed layOk hT TabP_calm (.inl rfl) ?_)
      refine wstepN rfl rfl (by dsimp only [putV, List.set]) ?_
      refine wstepN rfl rfl (by dsimp only [putV, List.set]) ?_
      refine wstepN rfl rfl (by dsimp only [putV, List.set]) ?_
      refine wstepN rfl (TabP_hit (fun v' h => by cases h; rfl) .a26) (by dsimp only [putV, List.set]) ?_
      repeat refine wstepN rfl rfl (by dsimp only [putV, List.set]) ?_
      refine wnil ?_
      refine Ok.seq (Ok.regionW (G := fun _ => true) (C := TabP _) mixed layOk hT TabP_calm (.inl rfl) ?_)
      refine wstepN rfl rfl (by dsimp only [putV, List.set]) ?_
      refine wstepN rfl rfl (by dsimp only [putV, List.set]) ?_
      refine wstepN rfl (TabP_hit (fun v' h => by cases h; rfl) .same) (by dsimp only [putV, List.set]) ?_
      refine wstepN rfl rfl (by dsimp only [putV, List.set]) ?_
      refine wstepN rfl rfl (by dsimp only [putV, List.set]) ?_
      refine wstepN rfl rfl (by dsimp only [putV, List.set]) ?_
      refine wstepN rfl (eq_int rfl rfl rfl) (by dsimp only [putV, List.set]) ?_
      refine wstepN rfl rfl (by dsimp only [putV, List.set]) ?_
      refine wstepN rfl rfl (by dsimp only [putV, List.set]) ?_
      refine wstepN rfl (TabP_hit (fun v' h => by cases h; rfl) .ex) (by dsimp only [putV, List.set]) ?_
      refine wstepN rfl rfl (by dsimp only [putV, List.set]) ?_
      refine wstepN rfl rfl (by dsimp only [putV, List.set]) ?_
      refine wnil ?_
      exact Ok.ret ⟨fun _ h => (by cases h), _, rfl, rfl⟩
    · repeat (first | refine wskipN rfl (by dsimp only [putV, List.set]) ?_ | refine wstepN rfl (gtrK h1 rfl rfl) (by dsimp only [putV, List.set]) ?_ | refine wstepN rfl (gtrK h2 rfl rfl) (by dsimp only [putV, List.set]) ?_ | refine wstepN rfl rfl (by dsimp only [putV, List.set]) ?_)
      refine wnil (Ok.cond (b := true) rfl (fun _ => ?_) (fun h => by cases h))
      refine Ok.seq (Ok.regionW (G := fun _ => true) (C := TabP _) mixed layOk TE_good TabP_calm (.inl rfl) ?_)
      refine wstepN rfl (TabP_hit (fun v' h => by cases h; rfl) .ex) (by dsimp only [putV, List.set]) ?_
      refine wstepN rfl rfl (by dsimp only [putV, List.set]) ?_
      refine wnil ?_
      exact Ok.ret ⟨fun _ h => (by cases h), _, rfl, rfl⟩
  · repeat (first | refine wskipN rfl (by dsimp only [putV, List.set]) ?_ | refine wstepN rfl (gtrK h1 rfl rfl) (by dsimp only [putV, List.set]) ?_ | refine wstepN rfl (gtrK h2 rfl rfl) (by dsimp only [putV, List.set]) ?_ | refine wstepN rfl rfl (by dsimp only [putV, List.set]) ?_)
    refine wnil (Ok.cond (b := true) rfl (fun _ => ?_) (fun h => by cases h))
    refine Ok.seq (Ok.regionW (G := fun _ => true) (C := TabP _) mixed layOk TE_good TabP_calm (.inl rfl) ?_)
    refine wstepN rfl (TabP_hit (fun v' h => by cases h; rfl) .ex) (by dsimp only [putV, List.set]) ?_
    refine wstepN rfl rfl (by dsimp only [putV, List.set]) ?_
    refine wnil ?_
    exact Ok.ret ⟨fun _ h => (by cases h), _, rfl, rfl⟩


end Go.Proofs.YtbkjiglbkckhmaaV
