/- Equal lists of plain requests are found equal. -/
import Derived.Test.YtbkjiglbkckhmaaReq
namespace Go.Proofs.YtbkjiglbkckhmaaV
open Go Go.RowKit Go.Proofs.Ytbkjiglbkckhmaa
set_option maxRecDepth 20000
set_option maxHeartbeats 1000000

theorem texts45 : FnOk Try.prog 45 [.sl [], .sl []] [] (fun r bs' => fr bs' r = .val (.bool true)) :=
  FnOk.fast (Q := fun r => r = .val (.bool true)) layOk Try.func45 rfl (goOut 300 (r := .val (.bool true)) (by kernel_rfl) rfl)
noncomputable def tabT : List (FuncId × List V × V) := [(45, [.sl [], .sl []], .val (.bool true))]
theorem tabT_good : Good Try.prog (Tab tabT) := by
  refine Tab_good ?_
  simp only [tabT, List.mem_cons, List.not_mem_nil, or_false, forall_eq]
  exact fact texts45 rfl rfl Try.call45

theorem same32 (b0 b1 b2 b3 b4 b5 b6 b7 : Int) (s8 s9 : ByteArray) : FnOk Try.prog 32 [.agg [.val (i64 b0), .val (i64 b1), .val (i64 b2), .val (i64 b3), .val (i64 b4), .val (i64 b5), .val (i64 b6), .val (i64 b7), .val (.string s8), .val (.string s9), .sl [], .sl []], .agg [.val (i64 b0), .val (i64 b1), .val (i64 b2), .val (i64 b3), .val (i64 b4), .val (i64 b5), .val (i64 b6), .val (i64 b7), .val (.string s8), .val (.string s9), .sl [], .sl []]] [] (fun r bs' => fr bs' r = .val (.bool true)) := by
  refine FnOk.fast (Q := fun r => r = .val (.bool true)) layOk Try.func32 rfl ?_
  refine Ok.seq (go 10 rfl ?_)
  unfold thn
  dsimp only
  refine Ok.seq (Ok.regionW (G := fun _ => true) (C := Tab tabT) mixed layOk tabT_good Tab_calm (.inl rfl) ?_)
  refine wstepN rfl rfl (by dsimp only [putV, List.set]) ?_
  refine wstepN rfl rfl (by dsimp only [putV, List.set]) ?_
  refine wstepN rfl rfl (by dsimp only [putV, List.set]) ?_
  refine wstepN rfl rfl (by dsimp only [putV, List.set]) ?_
  refine wstepN rfl (eq_int rfl rfl rfl) (by dsimp only [putV, List.set]) ?_
  refine wstepN rfl rfl (by dsimp only [putV, List.set]) ?_
  refine wstepN rfl rfl (by dsimp only [putV, List.set]) ?_
  refine wstepN rfl rfl (by dsimp only [putV, List.set]) ?_
  refine wstepN rfl rfl (by dsimp only [putV, List.set]) ?_
  refine wstepN rfl rfl (by dsimp only [putV, List.set]) ?_
  refine wstepN rfl (eq_int rfl rfl rfl) (by dsimp only [putV, List.set]) ?_
  refine wstepN rfl rfl (by dsimp only [putV, List.set]) ?_
  refine wstepN rfl rfl (by dsimp only [putV, List.set]) ?_
  refine wstepN rfl rfl (by dsimp only [putV, List.set]) ?_
  refine wstepN rfl rfl (by dsimp only [putV, List.set]) ?_
  refine wstepN rfl rfl (by dsimp only [putV, List.set]) ?_
  refine wstepN rfl rfl (by dsimp only [putV, List.set]) ?_
  refine wstepN rfl (eq_int rfl rfl rfl) (by dsimp only [putV, List.set]) ?_
  refine wstepN rfl rfl (by dsimp only [putV, List.set]) ?_
  refine wstepN rfl rfl (by dsimp only [putV, List.set]) ?_
  refine wstepN rfl rfl (by dsimp only [putV, List.set]) ?_
  refine wstepN rfl rfl (by dsimp only [putV, List.set]) ?_
  refine wstepN rfl rfl (by dsimp only [putV, List.set]) ?_
  refine wstepN rfl rfl (by dsimp only [putV, List.set]) ?_
  refine wstepN rfl (eq_int rfl rfl rfl) (by dsimp only [putV, List.set]) ?_
  refine wstepN rfl rfl (by dsimp only [putV, List.set]) ?_
  refine wstepN rfl rfl (by dsimp only [putV, List.set]) ?_
  refine wstepN rfl rfl (by dsimp only [putV, List.set]) ?_
  refine wstepN rfl rfl (by dsimp only [putV, List.set]) ?_
  refine wstepN rfl rfl (by dsimp only [putV, List.set]) ?_
  refine wstepN rfl rfl (by dsimp only [putV, List.set]) ?_
  refine wstepN rfl (eq_int rfl rfl rfl) (by dsimp only [putV, List.set]) ?_
  refine wstepN rfl rfl (by dsimp only [putV, List.set]) ?_
  refine wstepN rfl rfl (by dsimp only [putV, List.set]) ?_
  refine wstepN rfl rfl (by dsimp only [putV, List.set]) ?_
  refine wstepN rfl rfl (by dsimp only [putV, List.set]) ?_
  refine wstepN rfl rfl (by dsimp only [putV, List.set]) ?_
  refine wstepN rfl rfl (by dsimp only [putV, List.set]) ?_
  refine wstepN rfl (eq_int rfl rfl rfl) (by dsimp only [putV, List.set]) ?_
  refine wstepN rfl rfl (by dsimp only [putV, List.set]) ?_
  refine wstepN rfl rfl (by dsimp only [putV, List.set]) ?_
  refine wstepN rfl rfl (by dsimp only [putV, List.set]) ?_
  refine wstepN rfl rfl (by dsimp only [putV, List.set]) ?_
  refine wstepN rfl rfl (by dsimp only [putV, List.set]) ?_
  refine wstepN rfl rfl (by dsimp only [putV, List.set]) ?_
  refine wstepN rfl (eq_int rfl rfl rfl) (by dsimp only [putV, List.set]) ?_
  refine wstepN rfl rfl (by dsimp only [putV, List.set]) ?_
  refine wstepN rfl rfl (by dsimp only [putV, List.set]) ?_
  refine wstepN rfl rfl (by dsimp only [putV, List.set]) ?_
  refine wstepN rfl rfl (by dsimp only [putV, List.set]) ?_
  refine wstepN rfl rfl (by dsimp only [putV, List.set]) ?_
  refine wstepN rfl rfl (by dsimp only [putV, List.set]) ?_
  refine wstepN rfl (eq_int rfl rfl rfl) (by dsimp only [putV, List.set]) ?_
  refine wstepN rfl rfl (by dsimp only [putV, List.set]) ?_
  refine wstepN rfl rfl (by dsimp only [putV, List.set]) ?_
  refine wstepN rfl rfl (by dsimp only [putV, List.set]) ?_
  refine wstepN rfl rfl (by dsimp only [putV, List.set]) ?_
  refine wstepN rfl rfl (by dsimp only [putV, List.set]) ?_
  refine wstepN rfl rfl (by dsimp only [putV, List.set]) ?_
  refine wstepN rfl (eq_str rfl rfl rfl) (by dsimp only [putV, List.set]) ?_
  refine wstepN rfl rfl (by dsimp only [putV, List.set]) ?_
  refine wstepN rfl rfl (by dsimp only [putV, List.set]) ?_
  refine wstepN rfl rfl (by dsimp only [putV, List.set]) ?_
  refine wstepN rfl rfl (by dsimp only [putV, List.set]) ?_
  refine wstepN rfl rfl (by dsimp only [putV, List.set]) ?_
  refine wstepN rfl rfl (by dsimp only [putV, List.set]) ?_
  refine wstepN rfl (eq_str rfl rfl rfl) (by dsimp only [putV, List.set]) ?_
  refine wstepN rfl rfl (by dsimp only [putV, List.set]) ?_
  refine wstepN rfl rfl (by dsimp only [putV, List.set]) ?_
  refine wstepN rfl rfl (by dsimp only [putV, List.set]) ?_
  refine wstepN rfl rfl (by dsimp only [putV, List.set]) ?_
  refine wstepN rfl rfl (by dsimp only [putV, List.set]) ?_
  refine wstepN rfl rfl (by dsimp only [putV, List.set]) ?_
  refine wstepN rfl Tab_hit (by dsimp only [putV, List.set]) ?_
  refine wstepN rfl rfl (by dsimp only [putV, List.set]) ?_
  refine wstepN rfl rfl (by dsimp only [putV, List.set]) ?_
  refine wstepN rfl rfl (by dsimp only [putV, List.set]) ?_
  refine wstepN rfl rfl (by dsimp only [putV, List.set]) ?_
  refine wstepN rfl rfl (by dsimp only [putV, List.set]) ?_
  refine wstepN rfl rfl (by dsimp only [putV, List.set]) ?_
  refine wstepN rfl Tab_hit (by dsimp only [putV, List.set]) ?_
  refine wstepN rfl rfl (by dsimp only [putV, List.set]) ?_
  refine wstepN rfl rfl (by dsimp only [putV, List.set]) ?_
  refine wnil ?_
  exact Ok.ret ⟨fun _ h => (by cases h), _, rfl, rfl⟩


open Classical in
noncomputable def sameC : CallT := fun f vs bs => if f = 32 ∧ ∃ (b0 b1 b2 b3 b4 b5 b6 b7 : Int) (s8 s9 : ByteArray), vs = [.agg [.val (i64 b0), .val (i64 b1), .val (i64 b2), .val (i64 b3), .val (i64 b4), .val (i64 b5), .val (i64 b6), .val (i64 b7), .val (.string s8), .val (.string s9), .sl [], .sl []], .agg [.val (i64 b0), .val (i64 b1), .val (i64 b2), .val (i64 b3), .val (i64 b4), .val (i64 b5), .val (i64 b6), .val (i64 b7), .val (.string s8), .val (.string s9), .sl [], .sl []]] then some (.val (.bool true), bs) else none
theorem sameC_good : Good Try.prog sameC := by
  intro f vs bs v bs' h
  unfold sameC at h
  split at h
  · rename_i hc
    obtain ⟨rfl, b0, b1, b2, b3, b4, b5, b6, b7, s8, s9, rfl⟩ := hc
    cases h
    exact fact (same32 b0 b1 b2 b3 b4 b5 b6 b7 s8 s9) rfl rfl Try.call32 |>.1 bs |> fun h => ⟨h, Try.call32⟩
  · cases h
theorem sameC_calm (G : FuncId → Bool) : Calm G sameC := by
  intro f vs _
  unfold sameC
  split
  · exact .inr ⟨_, fun _ => rfl⟩
  · exact .inl fun _ => rfl
theorem sameC_hit {b0 b1 b2 b3 b4 b5 b6 b7 : Int} {s8 s9 : ByteArray} {bs : List Bx} : sameC 32 [.agg [.val (i64 b0), .val (i64 b1), .val (i64 b2), .val (i64 b3), .val (i64 b4), .val (i64 b5), .val (i64 b6), .val (i64 b7), .val (.string s8), .val (.string s9), .sl [], .sl []], .agg [.val (i64 b0), .val (i64 b1), .val (i64 b2), .val (i64 b3), .val (i64 b4), .val (i64 b5), .val (i64 b6), .val (i64 b7), .val (.string s8), .val (.string s9), .sl [], .sl []]] bs = some (.val (.bool true), bs) := by
  unfold sameC
  rw [if_pos ⟨rfl, b0, b1, b2, b3, b4, b5, b6, b7, s8, s9, rfl⟩]

theorem same15 (xs : List (List S)) (hq : ∀ x ∈ xs, IsReq x) (hl : xs.length ≤ 1000) : FnOk Try.prog 15 [.sl xs, .sl xs] [] (fun r bs' => fr bs' r = .val (.bool true)) := by
  refine FnOk.fast (Q := fun r => r = .val (.bool true)) layOk Try.func15 rfl ?_
  refine Ok.seq (go 10 rfl ?_)
  unfold thn
  dsimp only
  refine Ok.seq (Ok.seq (go 10 rfl ?_))
  refine Ok.cond (b := ((xs.length : Int) != xs.length)) rfl (fun h => by simp at h) (fun _ => Ok.skip ?_)
  unfold thn
  dsimp only
  refine Ok.seq (Ok.mono (Q := fun e ts bs => e = .normal ∧ bs = [] ∧ ts = (((List.replicate 27 V.gone).set 0 (.sl xs)).set 1 (.sl xs)).set 4 (.val (.bool false))) ?_ ?_)
  · refine Ok.after (Ok.seq (go 10 rfl ?_))
    refine Ok.gc [] [0, 1, 4, 12, 13] rfl (by decide) (floor_ok rfl) ?_
    refine Ok.range layOk xs.length (fun k ts bs => k ≤ xs.length ∧ bs = [] ∧ ∃ u, ts = ((((((List.replicate 27 V.gone).set 0 (.sl xs)).set 1 (.sl xs)).set 4 (.val (.bool false))).set 12 (.val (i64 xs.length))).set 26 u).set 13 (.val (i64 k))) rfl rfl rfl rfl rfl rfl rfl rfl rfl (by omega) ?_ ?_ ?_ ?_
    · exact ⟨Nat.zero_le _, rfl, .gone, by kernel_rfl⟩
    · rintro k _ _ ⟨h, rfl, u, rfl⟩
      exact ⟨rfl, rfl, by simp, h⟩
    · rintro k _ _ hk ⟨_, rfl, u, rfl⟩
      have hget : xs[k]? = some xs[k] := List.getElem?_eq_getElem hk
      obtain ⟨b0, b1, b2, b3, b4, b5, b6, b7, s8, s9, hx⟩ := hq xs[k] (List.getElem_mem hk)
      rw [hx] at hget
      simp only [List.replicate, List.set]
      refine Ok.block (Ok.after (Ok.seq (go 10 rfl ?_)))
      unfold thn
      dsimp only
      refine Ok.seq (Ok.regionW (G := fun _ => true) (C := sameC) mixed layOk sameC_good (sameC_calm _) (.inr ⟨by kernel_rfl, by kernel_rfl⟩) ?_)
      refine wstepN rfl rfl (by dsimp only [putV, List.set]) ?_
      refine wstepN rfl rfl (by dsimp only [putV, List.set]) ?_
      refine wstepN rfl (ev_ix (xs := xs) (e := [S.val (i64 b0), S.val (i64 b1), S.val (i64 b2), S.val (i64 b3), S.val (i64 b4), S.val (i64 b5), S.val (i64 b6), S.val (i64 b7), S.val (Value.string s8), S.val (Value.string s9), S.sl [], S.sl []]) rfl rfl rfl hget rfl) (by dsimp only [putV, List.set]) ?_
      refine wstepN rfl rfl (by dsimp only [putV, List.set]) ?_
      refine wstepN rfl rfl (by dsimp only [putV, List.set]) ?_
      refine wstepN rfl rfl (by dsimp only [putV, List.set]) ?_
      refine wstepN rfl (ev_ix (xs := xs) (e := [S.val (i64 b0), S.val (i64 b1), S.val (i64 b2), S.val (i64 b3), S.val (i64 b4), S.val (i64 b5), S.val (i64 b6), S.val (i64 b7), S.val (Value.string s8), S.val (Value.string s9), S.sl [], S.sl []]) rfl rfl rfl hget rfl) (by dsimp only [putV, List.set]) ?_
      refine wstepN rfl rfl (by dsimp only [putV, List.set]) ?_
      refine wstepN rfl sameC_hit (by dsimp only [putV, List.set]) ?_
      refine wstepN rfl rfl (by dsimp only [putV, List.set]) ?_
      refine wnil ?_
      refine Ok.cond (b := false) rfl (fun h => by cases h) (fun _ => Ok.skip ?_)
      refine ⟨[], [0, 1, 4, 12, 13], _, rfl, by decide, floor_ok rfl, ?_⟩
      exact ⟨by kernel_rfl, Nat.lt_of_lt_of_eq (by decide : 26 < 27) (by kernel_rfl), hk, rfl, .val (i64 ((k + 1 : Nat) : Int)), by kernel_rfl⟩
    · rintro _ _ ⟨_, rfl, u, rfl⟩
      exact ⟨[], [0, 1, 4], _, rfl, by decide, floor_ok rfl, rfl, rfl, by kernel_rfl⟩
  rintro _ _ _ ⟨rfl, rfl, rfl⟩
  exact goOut 10 (r := .val (.bool true)) (by kernel_rfl) rfl


end Go.Proofs.YtbkjiglbkckhmaaV
