/- What Child of the reference returns. -/
import Derived.Test.YtbkjiglbkckhmaaReq
namespace Go.Proofs.YtbkjiglbkckhmaaV
open Go Go.RowKit Go.Proofs.Ytbkjiglbkckhmaa
set_option maxRecDepth 20000
set_option maxHeartbeats 1000000

def bs17 (g f n : Bool) (I R : List (List S)) (xs : List (List S)) : List Bx := [.cells [.val (.bool g), .val (.bool f), .sl I, .sl R, .val (.bool n)], .row 64 12 xs]
theorem c17 (g f n : Bool) (is rs : List Int) (group : Int) (hi : is.length ≤ 60) (hr : rs.length ≤ 60) :
    FnOk Try.prog 17 [.agg [.val (.bool g), .val (.bool f), .sl (is.map num), .sl (rs.map num), .val (.bool n)], .val (.int .i64 group)] [] (fun r bs' => fr bs' r = .sl ((if g then [qGroup 0 group] else []) ++ (if f && group == 0 then [qFront 0] else []) ++ (if n then [qNull] else []) ++ is.map (fun s => qSig s 1) ++ rs.map fun s => qSig s 0)) := by
  refine FnOk.fast (Q := fun r => r = _) layOk Try.func17 rfl ?_
  refine Ok.seq (go 10 rfl ?_)
  refine Ok.seq (go 10 rfl ?_)
  unfold thn
  dsimp only
  refine Ok.nilT 5 64 12 rfl ?_
  refine Ok.seq (Ok.mono (Q := fun e ts bs => e = .normal ∧ ts = (((((List.replicate 60 V.gone).set 1 (.val (.int .i64 group))).set 2 (.ptr 0 0)).set 4 .nils).set 5 (.row 1)) ∧ bs = bs17 g f n (is.map num) (rs.map num) (if g then [qGroup 0 group] else [])) ?_ ?_)
  · cases g
    · exact Ok.after (go 10 rfl ⟨[0, 1], [1, 2, 4, 5], _, rfl, by decide, floor_ok rfl, rfl, rfl, rfl⟩)
    · exact Ok.after (go 10 rfl ⟨[0, 3], [1, 2, 4, 5], _, rfl, by decide, floor_ok rfl, rfl, rfl, rfl⟩)
  rintro _ _ _ ⟨rfl, rfl, rfl⟩
  generalize hx : (if g = true then [qGroup 0 group] else []) = xs
  have hx1 : xs.length ≤ 1 := by rw [← hx]; split <;> simp
  unfold thn
  dsimp only
  refine Ok.seq (Ok.mono (Q := fun e ts bs => e = .normal ∧ ts = (((((List.replicate 60 V.gone).set 1 (.val (.int .i64 group))).set 2 (.ptr 0 0)).set 4 .nils).set 5 (.row 1)) ∧ bs = bs17 g f n (is.map num) (rs.map num) (xs ++ if f && group == 0 then [qFront 0] else [])) ?_ ?_)
  · refine Ok.after ?_
    cases f
    · simp only [Bool.false_and, Bool.false_eq_true, if_false, List.append_nil]
      exact (go 10 rfl ⟨[0, 1], [1, 2, 4, 5], _, rfl, by decide, floor_ok rfl, rfl, rfl, rfl⟩)
    · refine Ok.seq (go 10 rfl ?_)
      refine Ok.cond (b := group == 0) rfl (fun h => ?_) (fun h => ?_)
      · rw [h]
        refine Ok.regionW (G := fun _ => false) (C := fun _ _ _ => none) mixed layOk noCalls (fun _ _ h => by cases h) (.inl rfl) ?_
        refine wstep rfl rfl ?_
        refine wstep rfl rfl ?_
        refine wstep rfl rfl ?_
        refine wstep rfl (ev_app (xs := xs) (ys := [qFront 0]) rfl rfl rfl rfl rfl rfl rfl (by simp; omega) (by simp; omega)) ?_
        refine wstep rfl rfl ?_
        refine wnil ?_
        exact ⟨[0, 3], [1, 2, 4, 5], _, rfl, by decide, floor_ok rfl, rfl, rfl, rfl⟩
      · rw [h]
        simp only [Bool.and_false, Bool.false_eq_true, if_false, List.append_nil]
        exact Ok.skip ⟨[0, 1], [1, 2, 4, 5], _, rfl, by decide, floor_ok rfl, rfl, rfl, rfl⟩
  rintro _ _ _ ⟨rfl, rfl, rfl⟩
  generalize hy : (xs ++ if (f && group == 0) = true then [qFront 0] else []) = ys
  have hy1 : ys.length ≤ 2 := by rw [← hy]; split <;> simp <;> omega
  unfold thn
  dsimp only
  refine Ok.seq (Ok.mono (Q := fun e ts bs => e = .normal ∧ ts = (((((List.replicate 60 V.gone).set 1 (.val (.int .i64 group))).set 2 (.ptr 0 0)).set 4 .nils).set 5 (.row 1)) ∧ bs = bs17 g f n (is.map num) (rs.map num) (ys ++ if n then [qNull] else [])) ?_ ?_)
  · refine Ok.after ?_
    cases n
    · simp only [Bool.false_eq_true, if_false, List.append_nil]
      exact (go 10 rfl ⟨[0, 1], [1, 2, 4, 5], _, rfl, by decide, floor_ok rfl, rfl, rfl, rfl⟩)
    · refine Ok.seq (go 10 rfl ?_)
      refine Ok.cond (b := true) rfl (fun h => ?_) (fun h => by cases h)
      refine Ok.regionW (G := fun _ => false) (C := fun _ _ _ => none) mixed layOk noCalls (fun _ _ h => by cases h) (.inl rfl) ?_
      refine wstep rfl rfl ?_
      refine wstep rfl rfl ?_
      refine wstep rfl rfl ?_
      refine wstep rfl (ev_app (xs := ys) (ys := [qNull]) rfl rfl rfl rfl rfl rfl rfl (by simp; omega) (by simp; omega)) ?_
      refine wstep rfl rfl ?_
      refine wnil ?_
      exact ⟨[0, 3], [1, 2, 4, 5], _, rfl, by decide, floor_ok rfl, rfl, rfl, rfl⟩
  rintro _ _ _ ⟨rfl, rfl, rfl⟩
  generalize hz : (ys ++ if n = true then [qNull] else []) = zs
  have hz1 : zs.length ≤ 3 := by rw [← hz]; split <;> simp <;> omega
  unfold thn
  dsimp only
  refine Ok.seq (Ok.mono (Q := fun e ts bs => e = .normal ∧ ts = (((((List.replicate 60 V.gone).set 1 (.val (.int .i64 group))).set 2 (.ptr 0 0)).set 4 .nils).set 5 (.row 1)) ∧ bs = bs17 g f n (is.map num) (rs.map num) (zs ++ is.map fun s => qSig s 1)) ?_ ?_)
  · refine Ok.after (Ok.seq (go 10 rfl ?_))
    refine Ok.gc [0, 1] [1, 2, 4, 5, 34, 35, 36] rfl (by decide) (floor_ok rfl) ?_
    refine Ok.range layOk (is.map num).length (fun k ts bs => k ≤ (is.map num).length ∧ (∃ u, ts = ((((((((List.replicate 60 V.gone).set 1 (.val (.int .i64 group))).set 2 (.ptr 0 0)).set 4 .nils).set 5 (.row 1)).set 34 (.sl (is.map num))).set 35 (.val (i64 (is.map num).length))).set 45 u).set 36 (.val (i64 k))) ∧ bs = bs17 g f n (is.map num) (rs.map num) (zs ++ (is.take k).map fun s => qSig s 1)) rfl rfl rfl rfl rfl rfl rfl rfl rfl (by simp; omega) ?_ ?_ ?_ ?_
    · exact ⟨Nat.zero_le _, ⟨.gone, by kernel_rfl⟩, by simp; rfl⟩
    · rintro k _ _ ⟨h, ⟨u, rfl⟩, rfl⟩
      exact ⟨rfl, rfl, by simp, h⟩
    · rintro k _ _ hk ⟨_, ⟨u, rfl⟩, rfl⟩
      have hk2 : k < is.length := by simpa using hk
      have hget : is[k]? = some is[k] := List.getElem?_eq_getElem hk2
      generalize is[k] = x at hget
      simp only [List.replicate, List.set]
      refine Ok.block (Ok.after (Ok.seq (Ok.regionW (G := fun _ => false) (C := fun _ _ _ => none) mixed layOk noCalls (fun _ _ h => by cases h) (.inl rfl) ?_)))
      refine wstep rfl (ev_ix (xs := is.map num) (e := num x) rfl rfl rfl (by rw [List.getElem?_map, hget]; rfl) rfl) ?_
      refine wstep rfl rfl ?_
      refine wstep rfl rfl ?_
      refine wnil ?_
      refine Ok.regionW (G := fun _ => false) (C := fun _ _ _ => none) mixed layOk noCalls (fun _ _ h => by cases h) (.inl rfl) ?_
      refine wstep rfl rfl ?_
      refine wstep rfl rfl ?_
      refine wstep rfl rfl ?_
      refine wstep rfl rfl ?_
      refine wstep rfl (ev_app (xs := zs ++ (is.take k).map fun s => qSig s 1) (ys := [qSig x 1]) rfl rfl rfl rfl rfl rfl rfl (by simp; omega) (by simp; omega)) ?_
      refine wstep rfl rfl ?_
      refine wnil ?_
      refine ⟨[0, 3], [1, 2, 4, 5, 34, 35, 36], _, rfl, by decide, floor_ok rfl, ?_⟩
      refine ⟨by kernel_rfl, Nat.lt_of_lt_of_eq (by decide : 45 < 60) (by kernel_rfl), hk, ⟨.val (i64 ((k + 1 : Nat) : Int)), by kernel_rfl⟩, ?_⟩
      rw [List.take_add_one, hget]
      simp [bs17]
    · rintro _ _ ⟨_, ⟨u, rfl⟩, rfl⟩
      exact ⟨[0, 1], [1, 2, 4, 5], _, rfl, by decide, floor_ok rfl, rfl, by kernel_rfl, by simp; kernel_rfl⟩
  rintro _ _ _ ⟨rfl, rfl, rfl⟩
  generalize hv : (zs ++ is.map fun s => qSig s 1) = vs
  have hv1 : vs.length ≤ 63 := by rw [← hv]; simp; omega
  unfold thn
  dsimp only
  refine Ok.seq (Ok.mono (Q := fun e ts bs => e = .normal ∧ ts = (((((List.replicate 60 V.gone).set 1 (.val (.int .i64 group))).set 2 (.ptr 0 0)).set 4 .nils).set 5 (.row 1)) ∧ bs = bs17 g f n (is.map num) (rs.map num) (vs ++ rs.map fun s => qSig s 0)) ?_ ?_)
  · refine Ok.after (Ok.seq (go 10 rfl ?_))
    refine Ok.gc [0, 1] [1, 2, 4, 5, 47, 48, 49] rfl (by decide) (floor_ok rfl) ?_
    refine Ok.range layOk (rs.map num).length (fun k ts bs => k ≤ (rs.map num).length ∧ (∃ u, ts = ((((((((List.replicate 60 V.gone).set 1 (.val (.int .i64 group))).set 2 (.ptr 0 0)).set 4 .nils).set 5 (.row 1)).set 47 (.sl (rs.map num))).set 48 (.val (i64 (rs.map num).length))).set 58 u).set 49 (.val (i64 k))) ∧ bs = bs17 g f n (is.map num) (rs.map num) (vs ++ (rs.take k).map fun s => qSig s 0)) rfl rfl rfl rfl rfl rfl rfl rfl rfl (by simp; omega) ?_ ?_ ?_ ?_
    · exact ⟨Nat.zero_le _, ⟨.gone, by kernel_rfl⟩, by simp; rfl⟩
    · rintro k _ _ ⟨h, ⟨u, rfl⟩, rfl⟩
      exact ⟨rfl, rfl, by simp, h⟩
    · rintro k _ _ hk ⟨_, ⟨u, rfl⟩, rfl⟩
      have hk2 : k < rs.length := by simpa using hk
      have hget : rs[k]? = some rs[k] := List.getElem?_eq_getElem hk2
      generalize rs[k] = x at hget
      simp only [List.replicate, List.set]
      refine Ok.block (Ok.after (Ok.seq (Ok.regionW (G := fun _ => false) (C := fun _ _ _ => none) mixed layOk noCalls (fun _ _ h => by cases h) (.inl rfl) ?_)))
      refine wstep rfl (ev_ix (xs := rs.map num) (e := num x) rfl rfl rfl (by rw [List.getElem?_map, hget]; rfl) rfl) ?_
      refine wstep rfl rfl ?_
      refine wstep rfl rfl ?_
      refine wnil ?_
      refine Ok.regionW (G := fun _ => false) (C := fun _ _ _ => none) mixed layOk noCalls (fun _ _ h => by cases h) (.inl rfl) ?_
      refine wstep rfl rfl ?_
      refine wstep rfl rfl ?_
      refine wstep rfl rfl ?_
      refine wstep rfl rfl ?_
      refine wstep rfl (ev_app (xs := vs ++ (rs.take k).map fun s => qSig s 0) (ys := [qSig x 0]) rfl rfl rfl rfl rfl rfl rfl (by simp; omega) (by simp; omega)) ?_
      refine wstep rfl rfl ?_
      refine wnil ?_
      refine ⟨[0, 3], [1, 2, 4, 5, 47, 48, 49], _, rfl, by decide, floor_ok rfl, ?_⟩
      refine ⟨by kernel_rfl, Nat.lt_of_lt_of_eq (by decide : 58 < 60) (by kernel_rfl), hk, ⟨.val (i64 ((k + 1 : Nat) : Int)), by kernel_rfl⟩, ?_⟩
      rw [List.take_add_one, hget]
      simp [bs17]
    · rintro _ _ ⟨_, ⟨u, rfl⟩, rfl⟩
      exact ⟨[0, 1], [1, 2, 4, 5], _, rfl, by decide, floor_ok rfl, rfl, by kernel_rfl, by simp; kernel_rfl⟩
  rintro _ _ _ ⟨rfl, rfl, rfl⟩
  refine goOut 10 (r := .sl (vs ++ rs.map fun s => qSig s 0)) (by kernel_rfl) ?_
  rw [← hv, ← hz, ← hy, ← hx]


end Go.Proofs.YtbkjiglbkckhmaaV
