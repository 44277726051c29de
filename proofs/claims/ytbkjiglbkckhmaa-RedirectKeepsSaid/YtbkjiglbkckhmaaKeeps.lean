/- The law RedirectKeeps over plain values. -/
import Derived.Test.YtbkjiglbkckhmaaKeep29
import Derived.Test.YtbkjiglbkckhmaaEx35
namespace Go.Proofs.YtbkjiglbkckhmaaV
open Go Go.RowKit Go.Proofs.Ytbkjiglbkckhmaa
set_option maxRecDepth 20000
set_option maxHeartbeats 1000000

theorem rows_mv (ms : List MV) : ∀ x ∈ ms.map mvRow, IsMv x := by
  intro x hx
  obtain ⟨m, _, rfl⟩ := List.mem_map.1 hx
  exact ⟨_, _, _, _, _, _, rfl⟩

inductive T7 (ms : List MV) : FuncId → List V → V → Prop
  | k28 : T7 ms 28 [.sl (ms.map mvRow)] (keepV ms)
  | k29 : T7 ms 29 [.sl (ms.map mvRow)] (keepV ms)
  | same (xs : List (List S)) (h : ∀ x ∈ xs, IsMv x) (hl : xs.length ≤ 1000) : T7 ms 27 [.sl xs, .sl xs] (.val (.bool true))
  | ex : T7 ms 24 [] (.val (.bool true))
theorem T7_good (ms : List MV) (hl : ms.length ≤ 60) : Good Try.prog (TabP (T7 ms)) := by
  refine TabP_good fun f vs v h => ?_
  cases h with
  | k28 => exact ⟨keep28 ms hl, rfl, rfl, Try.call28⟩
  | k29 => exact ⟨keep29 ms hl, rfl, rfl, Try.call29⟩
  | same xs h hl => exact ⟨same27 xs h hl, rfl, rfl, Try.call27⟩
  | ex => exact ⟨ex24, rfl, rfl, Try.call24⟩

theorem law7 (ms : List MV) : FnOk Try.prog 7 [.sl (ms.map mvRow)] [] (fun r _ => r = .val (.bool true)) := by
  refine FnOk.of layOk Try.func7 rfl ?_
  refine Ok.seq (go 10 rfl ?_)
  unfold thn
  dsimp only
  refine Ok.seq (Ok.seq (Ok.regionW (G := fun _ => false) (C := fun _ _ _ => none) mixed layOk noCalls (fun _ _ h => by cases h) (.inl rfl) ?_))
  generalize h1 : decide (((ms.map mvRow).length : Int) > 60) = u1
  refine wstepN rfl rfl (by dsimp only [putV, List.set]) ?_
  refine wstepN rfl rfl (by dsimp only [putV, List.set]) ?_
  refine wstepN rfl (gtrK h1 rfl rfl) (by dsimp only [putV, List.set]) ?_
  refine wnil (Ok.cond (b := u1) rfl (fun h => ?_) (fun h => Ok.skip ?_))
  · refine Ok.seq (Ok.regionW (G := fun _ => true) (C := TabP _) mixed layOk TE_good TabP_calm (.inl rfl) ?_)
    refine wstepN rfl (TabP_hit (fun v' h => by cases h; rfl) .ex) (by dsimp only [putV, List.set]) ?_
    refine wstepN rfl rfl (by dsimp only [putV, List.set]) ?_
    refine wnil ?_
    exact Ok.ret ⟨fun _ h => (by cases h), _, rfl, rfl⟩
  · subst h
    have hl : ms.length ≤ 60 := by
      simp only [List.length_map, decide_eq_false_iff_not] at h1
      omega
    have hT := T7_good ms hl
    have hA : (((fdsOf ms).map svM).map mvRow).length ≤ 1000 := by
      have := fds_len ms
      simp
      omega
    have hB : ((((fdsOf ms).map bkM).reverse).map mvRow).length ≤ 1000 := by
      have := fds_len ms
      simp
      omega
    unfold thn
    dsimp only
    refine Ok.seq (Ok.regionW (G := fun _ => true) (C := TabP _) mixed layOk hT TabP_calm (.inl rfl) ?_)
    refine wstepN rfl rfl (by dsimp only [putV, List.set]) ?_
    refine wstepN rfl (TabP_hit (fun v' h => by cases h; rfl) .k28) (by dsimp only [putV, List.set]) ?_
    repeat refine wstepN rfl rfl (by dsimp only [putV, List.set]) ?_
    refine wnil ?_
    refine Ok.seq (Ok.regionW (G := fun _ => true) (C := TabP _) mixed layOk hT TabP_calm (.inl rfl) ?_)
    refine wstepN rfl rfl (by dsimp only [putV, List.set]) ?_
    refine wstepN rfl (TabP_hit (fun v' h => by cases h; rfl) .k29) (by dsimp only [putV, List.set]) ?_
    repeat refine wstepN rfl rfl (by dsimp only [putV, List.set]) ?_
    refine wnil ?_
    refine Ok.seq (Ok.regionW (G := fun _ => true) (C := TabP _) mixed layOk hT TabP_calm (.inl rfl) ?_)
    refine wstepN rfl rfl (by dsimp only [putV, List.set]) ?_
    refine wstepN rfl rfl (by dsimp only [putV, List.set]) ?_
    refine wstepN rfl (TabP_hit (fun v' h => by cases h; rfl) (.same _ (rows_mv _) hA)) (by dsimp only [putV, List.set]) ?_
    refine wstepN rfl rfl (by dsimp only [putV, List.set]) ?_
    refine wstepN rfl rfl (by dsimp only [putV, List.set]) ?_
    refine wstepN rfl rfl (by dsimp only [putV, List.set]) ?_
    refine wstepN rfl (TabP_hit (fun v' h => by cases h; rfl) (.same _ (rows_mv _) hB)) (by dsimp only [putV, List.set]) ?_
    refine wstepN rfl rfl (by dsimp only [putV, List.set]) ?_
    refine wstepN rfl rfl (by dsimp only [putV, List.set]) ?_
    refine wstepN rfl (TabP_hit (fun v' h => by cases h; rfl) .ex) (by dsimp only [putV, List.set]) ?_
    refine wstepN rfl rfl (by dsimp only [putV, List.set]) ?_
    refine wstepN rfl rfl (by dsimp only [putV, List.set]) ?_
    refine wnil ?_
    exact Ok.ret ⟨fun _ h => (by cases h), _, rfl, rfl⟩


end Go.Proofs.YtbkjiglbkckhmaaV
