/- What Child of the program returns. -/
import Derived.Test.YtbkjiglbkckhmaaReq
namespace Go.Proofs.YtbkjiglbkckhmaaV
open Go Go.RowKit Go.Proofs.Ytbkjiglbkckhmaa
set_option maxRecDepth 20000
set_option maxHeartbeats 1000000

theorem ask36 (g f n : Value) (I R : List (List S)) (xs : List (List S)) (a0 a1 a2 a3 a4 a5 a6 a7 a8 a9 : Value) (hx : xs.length ≤ 1000) :
    FnOk Try.prog 36 [.ptr 0 0, reqV a0 a1 a2 a3 a4 a5 a6 a7 a8 a9] [.cells [.val g, .val f, .sl I, .sl R, .val n, .row 1], .row 64 12 xs]
      (fun r bs' => r = .tup [] ∧ bs' = [.cells [.val g, .val f, .sl I, .sl R, .val n, .row 2], .dead, .row 64 12 (xs ++ [reqS a0 a1 a2 a3 a4 a5 a6 a7 a8 a9])]) := by
  refine FnOk.of layOk Try.func36 rfl ?_
  refine Ok.seq (go 10 rfl ?_)
  unfold thn
  dsimp only
  refine Ok.after ?_
  refine Ok.regionW (G := fun _ => false) (C := fun _ _ _ => none) mixed layOk noCalls (fun _ _ h => by cases h) (.inr ⟨by kernel_rfl, by kernel_rfl⟩) ?_
  refine wstep rfl rfl ?_
  refine wstep rfl rfl ?_
  refine wstep rfl rfl ?_
  refine wstep rfl rfl ?_
  refine wstep rfl rfl ?_
  refine wstep rfl rfl ?_
  refine wstep rfl rfl ?_
  refine wstep rfl (ev_app (xs := xs) (ys := [reqS a0 a1 a2 a3 a4 a5 a6 a7 a8 a9]) rfl rfl rfl rfl rfl rfl rfl (by simp; omega) (by simp; omega)) ?_
  refine wstep rfl rfl ?_
  refine wstep rfl rfl ?_
  refine wstep rfl rfl ?_
  refine wnil ?_
  refine ⟨[0, 1, 4], [], _, rfl, by decide, floor_ok rfl, ?_⟩
  exact ⟨fun _ h => (by cases h), _, rfl, rfl, rfl⟩

/-- The call of ask. -/
def askC : CallT := fun f vs bs => match f, vs, bs with
  | 36, [.ptr 0 0, .agg [.val a0, .val a1, .val a2, .val a3, .val a4, .val a5, .val a6, .val a7, .val a8, .val a9, .nils, .nils]], [.cells [.val g, .val f, .sl I, .sl R, .val n, .row 1], .row 64 12 xs] =>
    if xs.length ≤ 1000 then some (.tup [], [.cells [.val g, .val f, .sl I, .sl R, .val n, .row 2], .dead, .row 64 12 (xs ++ [reqS a0 a1 a2 a3 a4 a5 a6 a7 a8 a9])]) else none
  | _, _, _ => none
theorem askC_hit {g f n : Value} {I R : List (List S)} {xs : List (List S)} {a0 a1 a2 a3 a4 a5 a6 a7 a8 a9 : Value} (h : xs.length ≤ 1000) :
    askC 36 [.ptr 0 0, reqV a0 a1 a2 a3 a4 a5 a6 a7 a8 a9] [.cells [.val g, .val f, .sl I, .sl R, .val n, .row 1], .row 64 12 xs] = some (.tup [], [.cells [.val g, .val f, .sl I, .sl R, .val n, .row 2], .dead, .row 64 12 (xs ++ [reqS a0 a1 a2 a3 a4 a5 a6 a7 a8 a9])]) := if_pos h
theorem askC_good : Good Try.prog askC := by
  intro f vs bs v bs' h
  unfold askC at h
  split at h
  · split at h
    · rename_i hx
      cases h
      exact ⟨ask36 _ _ _ _ _ _ _ _ _ _ _ _ _ _ _ _ hx, Try.call36⟩
    · cases h
  · cases h

def bs16 (g f n : Bool) (I R : List (List S)) (xs : List (List S)) : List Bx := [.cells [.val (.bool g), .val (.bool f), .sl I, .sl R, .val (.bool n), .row 1], .row 64 12 xs]
theorem c16 (g f n : Bool) (is rs : List Int) (group : Int) (hi : is.length ≤ 60) (hr : rs.length ≤ 60) :
    FnOk Try.prog 16 [.agg [.val (.bool g), .val (.bool f), .sl (is.map num), .sl (rs.map num), .val (.bool n)], .val (.int .i64 group)] [] (fun r bs' => fr bs' r = .sl ((if g then [qGroup 0 group] else []) ++ (if f && group == 0 then [qFront 0] else []) ++ (if n then [qNull] else []) ++ is.map (fun s => qSig s 1) ++ rs.map fun s => qSig s 0)) := by
  refine FnOk.fast (Q := fun r => r = _) layOk Try.func16 rfl ?_
  refine Ok.seq (go 10 rfl ?_)
  refine Ok.seq (go 10 rfl ?_)
  unfold thn
  dsimp only
  refine Ok.nilC 1 5 64 12 rfl rfl ?_
  refine Ok.gc [1, 2] [1, 4, 5] rfl (by decide) (floor_ok rfl) ?_
  refine Ok.seq (Ok.mono (Q := fun e ts bs => e = .normal ∧ ts = ((((List.replicate 58 V.gone).set 1 (.val (.int .i64 group))).set 4 .nils).set 5 (.ptr 0 0)) ∧ bs = bs16 g f n (is.map num) (rs.map num) (if g then [qGroup 0 group] else [])) ?_ ?_)
  · refine Ok.after ?_
    cases g
    · exact (go 10 rfl ⟨[0, 1], [1, 4, 5], _, rfl, by decide, floor_ok rfl, rfl, rfl, rfl⟩)
    · refine Ok.seq (go 10 rfl ?_)
      refine Ok.cond (b := true) rfl (fun h => ?_) (fun h => by cases h)
      refine Ok.regionW (G := fun _ => false) (C := askC) mixed layOk askC_good (fun _ _ h => by cases h) (.inl rfl) ?_
      refine wstep rfl rfl ?_
      refine wstep rfl rfl ?_
      refine wstep rfl (askC_hit (xs := []) (by simp)) ?_
      refine wnil ?_
      exact ⟨[0, 2], [1, 4, 5], _, rfl, by decide, floor_ok rfl, rfl, rfl, rfl⟩
  rintro _ _ _ ⟨rfl, rfl, rfl⟩
  generalize hx : (if g = true then [qGroup 0 group] else []) = xs
  have hx1 : xs.length ≤ 1 := by rw [← hx]; split <;> simp
  unfold thn
  dsimp only
  refine Ok.seq (Ok.mono (Q := fun e ts bs => e = .normal ∧ ts = ((((List.replicate 58 V.gone).set 1 (.val (.int .i64 group))).set 4 .nils).set 5 (.ptr 0 0)) ∧ bs = bs16 g f n (is.map num) (rs.map num) (xs ++ if f && group == 0 then [qFront 0] else [])) ?_ ?_)
  · refine Ok.after ?_
    cases f
    · simp only [Bool.false_and, Bool.false_eq_true, if_false, List.append_nil]
      exact (go 10 rfl ⟨[0, 1], [1, 4, 5], _, rfl, by decide, floor_ok rfl, rfl, rfl, rfl⟩)
    · refine Ok.seq (go 10 rfl ?_)
      refine Ok.cond (b := group == 0) rfl (fun h => ?_) (fun h => ?_)
      · rw [h]
        refine Ok.regionW (G := fun _ => false) (C := askC) mixed layOk askC_good (fun _ _ h => by cases h) (.inl rfl) ?_
        refine wstep rfl rfl ?_
        refine wstep rfl (askC_hit (xs := xs) (by omega)) ?_
        refine wnil ?_
        exact ⟨[0, 2], [1, 4, 5], _, rfl, by decide, floor_ok rfl, rfl, rfl, rfl⟩
      · rw [h]
        simp only [Bool.and_false, Bool.false_eq_true, if_false, List.append_nil]
        exact Ok.skip ⟨[0, 1], [1, 4, 5], _, rfl, by decide, floor_ok rfl, rfl, rfl, rfl⟩
  rintro _ _ _ ⟨rfl, rfl, rfl⟩
  generalize hy : (xs ++ if (f && group == 0) = true then [qFront 0] else []) = ys
  have hy1 : ys.length ≤ 2 := by rw [← hy]; split <;> simp <;> omega
  unfold thn
  dsimp only
  refine Ok.seq (Ok.mono (Q := fun e ts bs => e = .normal ∧ ts = ((((List.replicate 58 V.gone).set 1 (.val (.int .i64 group))).set 4 .nils).set 5 (.ptr 0 0)) ∧ bs = bs16 g f n (is.map num) (rs.map num) (ys ++ if n then [qNull] else [])) ?_ ?_)
  · refine Ok.after ?_
    cases n
    · simp only [Bool.false_eq_true, if_false, List.append_nil]
      exact (go 10 rfl ⟨[0, 1], [1, 4, 5], _, rfl, by decide, floor_ok rfl, rfl, rfl, rfl⟩)
    · refine Ok.seq (go 10 rfl ?_)
      refine Ok.cond (b := true) rfl (fun h => ?_) (fun h => by cases h)
      refine Ok.regionW (G := fun _ => false) (C := askC) mixed layOk askC_good (fun _ _ h => by cases h) (.inl rfl) ?_
      refine wstep rfl rfl ?_
      refine wstep rfl (askC_hit (xs := ys) (by omega)) ?_
      refine wnil ?_
      exact ⟨[0, 2], [1, 4, 5], _, rfl, by decide, floor_ok rfl, rfl, rfl, rfl⟩
  rintro _ _ _ ⟨rfl, rfl, rfl⟩
  generalize hz : (ys ++ if n = true then [qNull] else []) = zs
  have hz1 : zs.length ≤ 3 := by rw [← hz]; split <;> simp <;> omega
  unfold thn
  dsimp only
  refine Ok.seq (Ok.mono (Q := fun e ts bs => e = .normal ∧ ts = ((((List.replicate 58 V.gone).set 1 (.val (.int .i64 group))).set 4 .nils).set 5 (.ptr 0 0)) ∧ bs = bs16 g f n (is.map num) (rs.map num) (zs ++ is.map fun s => qSig s 1)) ?_ ?_)
  · refine Ok.after (Ok.seq (go 10 rfl ?_))
    refine Ok.gc [0, 1] [1, 4, 5, 34, 35, 36] rfl (by decide) (floor_ok rfl) ?_
    refine Ok.range layOk (is.map num).length (fun k ts bs => k ≤ (is.map num).length ∧ (∃ u, ts = ((((((((List.replicate 58 V.gone).set 1 (.val (.int .i64 group))).set 4 .nils).set 5 (.ptr 0 0)).set 34 (.sl (is.map num))).set 35 (.val (i64 (is.map num).length))).set 43 u).set 36 (.val (i64 k)))) ∧ bs = bs16 g f n (is.map num) (rs.map num) (zs ++ (is.take k).map fun s => qSig s 1)) rfl rfl rfl rfl rfl rfl rfl rfl rfl (by simp; omega) ?_ ?_ ?_ ?_
    · exact ⟨Nat.zero_le _, ⟨.gone, by kernel_rfl⟩, by simp; rfl⟩
    · rintro k _ _ ⟨h, ⟨u, rfl⟩, rfl⟩
      exact ⟨rfl, rfl, by simp, h⟩
    · rintro k _ _ hk ⟨_, ⟨u, rfl⟩, rfl⟩
      have hk2 : k < is.length := by simpa using hk
      have hget : is[k]? = some is[k] := List.getElem?_eq_getElem hk2
      generalize is[k] = x at hget
      simp only [List.replicate, List.set]
      refine Ok.block (Ok.after (Ok.seq (Ok.regionW (G := fun _ => false) (C := fun _ _ _ => none) mixed layOk noCalls (fun _ _ h => by cases h) (.inl rfl) ?_)))
      refine wstep rfl (ev_ix (xs := is.map num) (e := num x) rfl rfl rfl (by rw [List.getElem?_map, hget]; rfl) rfl) ?_
      refine wstep rfl rfl ?_
      refine wstep rfl rfl ?_
      refine wnil ?_
      refine Ok.regionW (G := fun _ => false) (C := askC) mixed layOk askC_good (fun _ _ h => by cases h) (.inl rfl) ?_
      refine wstep rfl rfl ?_
      refine wstep rfl rfl ?_
      refine wstep rfl (askC_hit (xs := zs ++ (is.take k).map fun s => qSig s 1) (by simp; omega)) ?_
      refine wnil ?_
      refine ⟨[0, 2], [1, 4, 5, 34, 35, 36], _, rfl, by decide, floor_ok rfl, ?_⟩
      refine ⟨by kernel_rfl, Nat.lt_of_lt_of_eq (by decide : 43 < 58) (by kernel_rfl), hk, ⟨.val (i64 ((k + 1 : Nat) : Int)), by kernel_rfl⟩, ?_⟩
      rw [List.take_add_one, hget]
      simp [bs16, qSig]
    · rintro _ _ ⟨_, ⟨u, rfl⟩, rfl⟩
      exact ⟨[0, 1], [1, 4, 5], _, rfl, by decide, floor_ok rfl, rfl, by kernel_rfl, by simp; kernel_rfl⟩
  rintro _ _ _ ⟨rfl, rfl, rfl⟩
  generalize hv : (zs ++ is.map fun s => qSig s 1) = vs
  have hv1 : vs.length ≤ 63 := by rw [← hv]; simp; omega
  unfold thn
  dsimp only
  refine Ok.seq (Ok.mono (Q := fun e ts bs => e = .normal ∧ ts = ((((List.replicate 58 V.gone).set 1 (.val (.int .i64 group))).set 4 .nils).set 5 (.ptr 0 0)) ∧ bs = bs16 g f n (is.map num) (rs.map num) (vs ++ rs.map fun s => qSig s 0)) ?_ ?_)
  · refine Ok.after (Ok.seq (go 10 rfl ?_))
    refine Ok.gc [0, 1] [1, 4, 5, 46, 47, 48] rfl (by decide) (floor_ok rfl) ?_
    refine Ok.range layOk (rs.map num).length (fun k ts bs => k ≤ (rs.map num).length ∧ (∃ u, ts = ((((((((List.replicate 58 V.gone).set 1 (.val (.int .i64 group))).set 4 .nils).set 5 (.ptr 0 0)).set 46 (.sl (rs.map num))).set 47 (.val (i64 (rs.map num).length))).set 55 u).set 48 (.val (i64 k)))) ∧ bs = bs16 g f n (is.map num) (rs.map num) (vs ++ (rs.take k).map fun s => qSig s 0)) rfl rfl rfl rfl rfl rfl rfl rfl rfl (by simp; omega) ?_ ?_ ?_ ?_
    · exact ⟨Nat.zero_le _, ⟨.gone, by kernel_rfl⟩, by simp; rfl⟩
    · rintro k _ _ ⟨h, ⟨u, rfl⟩, rfl⟩
      exact ⟨rfl, rfl, by simp, h⟩
    · rintro k _ _ hk ⟨_, ⟨u, rfl⟩, rfl⟩
      have hk2 : k < rs.length := by simpa using hk
      have hget : rs[k]? = some rs[k] := List.getElem?_eq_getElem hk2
      generalize rs[k] = x at hget
      simp only [List.replicate, List.set]
      refine Ok.block (Ok.after (Ok.seq (Ok.regionW (G := fun _ => false) (C := fun _ _ _ => none) mixed layOk noCalls (fun _ _ h => by cases h) (.inl rfl) ?_)))
      refine wstep rfl (ev_ix (xs := rs.map num) (e := num x) rfl rfl rfl (by rw [List.getElem?_map, hget]; rfl) rfl) ?_
      refine wstep rfl rfl ?_
      refine wstep rfl rfl ?_
      refine wnil ?_
      refine Ok.regionW (G := fun _ => false) (C := askC) mixed layOk askC_good (fun _ _ h => by cases h) (.inl rfl) ?_
      refine wstep rfl rfl ?_
      refine wstep rfl rfl ?_
      refine wstep rfl (askC_hit (xs := vs ++ (rs.take k).map fun s => qSig s 0) (by simp; omega)) ?_
      refine wnil ?_
      refine ⟨[0, 2], [1, 4, 5, 46, 47, 48], _, rfl, by decide, floor_ok rfl, ?_⟩
      refine ⟨by kernel_rfl, Nat.lt_of_lt_of_eq (by decide : 55 < 58) (by kernel_rfl), hk, ⟨.val (i64 ((k + 1 : Nat) : Int)), by kernel_rfl⟩, ?_⟩
      rw [List.take_add_one, hget]
      simp [bs16, qSig]
    · rintro _ _ ⟨_, ⟨u, rfl⟩, rfl⟩
      exact ⟨[0, 1], [1, 4, 5], _, rfl, by decide, floor_ok rfl, rfl, by kernel_rfl, by simp; kernel_rfl⟩
  rintro _ _ _ ⟨rfl, rfl, rfl⟩
  refine goOut 10 (r := .sl (vs ++ rs.map fun s => qSig s 0)) (by kernel_rfl) ?_
  rw [← hv, ← hz, ← hy, ← hx]


end Go.Proofs.YtbkjiglbkckhmaaV
