/- Part 5 of 6 of the proof: Chg2, Chg3, Chg4, Chg5, Chg6, Chg7, Chg8, Laws. -/
import Derived.Test.YtiefcnghjcafbaaDoorS4
/- Lists of files: slices.Insert where there is room; what is put in its place. -/
namespace Go.Proofs.YtiefcnghjcafbaaDoorV
open Go Go.RowKit Go.Proofs.YtiefcnghjcafbaaDoor
set_option maxRecDepth 20000
set_option maxHeartbeats 1000000

theorem insert66 (l : List Fl) (f : Fl) (k : Nat) (hl : l.length ≤ 100000) (hk : k ≤ l.length) : FnOk Tryd.prog 66 [.win 1 3 0 l.length (l.length + 1), iV (k : Int), .sl (rowsF [f])] [.cells (cellsF f), .cells (flatF (l ++ [zeroF]))] (fun r bs' => r = .win 1 3 0 (l.length + 1) (l.length + 1) ∧ bs' = [.cells (cellsF f), .cells (flatF (l.take k ++ f :: l.drop k))]) := by
  refine FnOk.of layOk Tryd.func66 rfl ?_
  obtain ⟨N, hN⟩ : ∃ N, l.length = N := ⟨_, rfl⟩
  rw [hN]
  have hkN : k ≤ N := by omega
  have hq0 : (((1 : Nat) : Int) == 0) = false := rfl
  refine Ok.seq (Ok.regionW (G := fun _ => true) (C := TabP _) mixed layOk noT TabP_calm (.inl rfl) ?_)
  refine wstepN rfl rfl (by dsimp only [putV, List.set]) ?_
  refine wnil ?_
  refine Ok.gcE (bs2 := [.cells (cellsF f), .cells (flatF (l ++ [zeroF]))]) (ts2 := (((List.replicate 95 V.gone).set 0 (.win 1 3 0 N (N + 1))).set 1 (iV (k : Int))).set 2 (.sl (rowsF [f]))) [0, 1] [0, 1, 2] (gc2 _ _ _) (by decide) (floor_ok rfl) rfl ?_
  simp only [List.replicate, List.set]
  refine Ok.seq (Ok.regionW (G := fun _ => true) (C := TabP _) mixed layOk noT TabP_calm (.inl rfl) ?_)
  refine wstepN rfl rfl (by dsimp only [putV, List.set]) ?_
  refine wstepN rfl rfl (by dsimp only [putV, List.set]) ?_
  refine wstepN rfl (fromW (i := k) hkN (by omega) (by omega) rfl rfl rfl) (by dsimp only [putV, List.set]) ?_
  refine wnil ?_
  refine Ok.seq (Ok.regionW (G := fun _ => true) (C := TabP _) mixed layOk noT TabP_calm (.inl rfl) ?_)
  refine wstepN rfl rfl (by dsimp only [putV, List.set]) ?_
  refine wstepN rfl (lenF (l := [f]) (n := 1) rfl rfl rfl) (by dsimp only [putV, List.set]) ?_
  refine wstepN rfl rfl (by dsimp only [putV, List.set]) ?_
  refine wnil ?_
  refine Ok.seq ?_
  refine Ok.seq (Ok.regionW (G := fun _ => true) (C := TabP _) mixed layOk noT TabP_calm (.inl rfl) ?_)
  refine wstepN rfl rfl (by dsimp only [putV, List.set]) ?_
  first
    | refine wstepN rfl (eqlK (by assumption) rfl rfl) (by dsimp only [putV, List.set]) ?_
    | refine wstepN rfl rfl (by dsimp only [putV, List.set]) ?_
  refine wnil (Ok.cond (b := false) rfl (fun h => by cases h) (fun _ => ?_))
  refine Ok.skip ?_
  refine Ok.seq (Ok.regionW (G := fun _ => true) (C := TabP _) mixed layOk noT TabP_calm (.inl rfl) ?_)
  refine wstepN rfl rfl (by dsimp only [putV, List.set]) ?_
  refine wstepN rfl (show evX lay _ _ _ _ = some (iV (N : Int), _) from rfl) (by dsimp only [putV, List.set]) ?_
  refine wstepN rfl rfl (by dsimp only [putV, List.set]) ?_
  refine wnil ?_
  refine Ok.seq ?_
  by_cases hkn : k = N
  · have hq1 : ((k : Int) == (N : Int)) = true := by rw [hkn]; simp
    refine Ok.seq (Ok.regionW (G := fun _ => true) (C := TabP _) mixed layOk noT TabP_calm (.inl rfl) ?_)
    refine wstepN rfl rfl (by dsimp only [putV, List.set]) ?_
    refine wstepN rfl rfl (by dsimp only [putV, List.set]) ?_
    first
      | refine wstepN rfl (eqlK (by assumption) rfl rfl) (by dsimp only [putV, List.set]) ?_
      | refine wstepN rfl rfl (by dsimp only [putV, List.set]) ?_
    refine wnil (Ok.cond (b := true) rfl (fun _ => ?_) (fun h => by cases h))
    refine Ok.seq (Ok.regionW (G := fun _ => true) (C := TabP _) mixed layOk noT TabP_calm (.inl rfl) ?_)
    refine wstepN rfl rfl (by dsimp only [putV, List.set]) ?_
    refine wstepN rfl rfl (by dsimp only [putV, List.set]) ?_
    refine wstepN rfl (apW (r := [f]) (m := 1) (a := l ++ [zeroF]) (a' := l.take k ++ f :: l.drop k) rfl (by omega) (by simp; omega) (by rw [hkn, ← hN]; simp) (srcs_sl (l := [f]) (m := 1) (by simp)) rfl rfl rfl rfl rfl rfl) (by dsimp only [putV, List.set]) ?_
    refine wstepN rfl rfl (by dsimp only [putV, List.set]) ?_
    refine wnil (Ok.ret ⟨fun _ h => (by cases h), _, rfl, rfl, rfl⟩)
  · have hq1 : ((k : Int) == (N : Int)) = false := by simp; omega
    have hq2 : decide (((N + 1 : Nat) : Int) > ((N + 1 : Nat) : Int)) = false := decide_eq_false (by omega)
    have hadd1 : IntKind.i64.wrap ((N : Int) + ((1 : Nat) : Int)) = ((N + 1 : Nat) : Int) := by rw [wrap64 (by omega) (by omega)]; omega
    have hadd2 : IntKind.i64.wrap ((k : Int) + ((1 : Nat) : Int)) = ((k + 1 : Nat) : Int) := by rw [wrap64 (by omega) (by omega)]; omega
    have hlen1 : (l ++ [zeroF]).length = N + 1 := by simp [hN]
    have hcp1 : (l ++ [zeroF]).take (0 + (k + 1)) ++ l.drop k ++ (l ++ [zeroF]).drop (0 + (k + 1) + (N + 1 - (k + 1))) = l.take (k + 1) ++ l.drop k := by
      have e : (l ++ [zeroF]).drop (0 + (k + 1) + (N + 1 - (k + 1))) = [] := List.drop_of_length_le (by rw [hlen1]; omega)
      rw [e, Nat.zero_add, List.take_append_of_le_length (by omega), List.append_nil]
    have hcp2 : ∀ bs : List Bx, bs[1]? = some (.cells (flatF (l ++ [zeroF]))) → srcs bs 3 (N + 1 - (k + 1)) (.win 1 3 (0 + k) (N + 1 - k) (N + 1 - k)) = some (flatF (l.drop k)) := fun bs hb => by
      refine (srcs_win (a := l ++ [zeroF]) hb (by omega) (by rw [hlen1]; omega)).trans ?_
      rw [Nat.zero_add, List.drop_append_of_le_length (by omega), List.take_append_of_le_length (by simp; omega), List.take_of_length_le (by simp; omega)]
    have hcp3 : (l.take (k + 1) ++ l.drop k).take (0 + k) ++ [f] ++ (l.take (k + 1) ++ l.drop k).drop (0 + k + 1) = l.take k ++ f :: l.drop k := by
      rw [Nat.zero_add, List.take_append_of_le_length (by simp; omega), List.take_take, Nat.min_eq_left (by omega), List.drop_append, List.drop_of_length_le (by simp; omega)]
      have : k + 1 - (l.take (k + 1)).length = 0 := by simp; omega
      rw [this]
      simp
    refine Ok.seq (Ok.regionW (G := fun _ => true) (C := TabP _) mixed layOk noT TabP_calm (.inl rfl) ?_)
    refine wstepN rfl rfl (by dsimp only [putV, List.set]) ?_
    refine wstepN rfl rfl (by dsimp only [putV, List.set]) ?_
    first
      | refine wstepN rfl (eqlK (by assumption) rfl rfl) (by dsimp only [putV, List.set]) ?_
      | refine wstepN rfl rfl (by dsimp only [putV, List.set]) ?_
    refine wnil (Ok.cond (b := false) rfl (fun h => by cases h) (fun _ => ?_))
    refine Ok.skip ?_
    refine Ok.seq ?_
    refine Ok.seq (Ok.regionW (G := fun _ => true) (C := TabP _) mixed layOk noT TabP_calm (.inl rfl) ?_)
    refine wstepN rfl rfl (by dsimp only [putV, List.set]) ?_
    refine wstepN rfl rfl (by dsimp only [putV, List.set]) ?_
    first
      | refine wstepN rfl (addK (by assumption) rfl rfl) (by dsimp only [putV, List.set]) ?_
      | refine wstepN rfl rfl (by dsimp only [putV, List.set]) ?_
    refine wstepN rfl rfl (by dsimp only [putV, List.set]) ?_
    refine wstepN rfl (show evX lay _ _ _ _ = some (iV ((N + 1 : Nat) : Int), _) from rfl) (by dsimp only [putV, List.set]) ?_
    first
      | refine wstepN rfl (gtrK (by assumption) rfl rfl) (by dsimp only [putV, List.set]) ?_
      | refine wstepN rfl rfl (by dsimp only [putV, List.set]) ?_
    refine wnil (Ok.cond (b := false) rfl (fun h => by cases h) (fun _ => ?_))
    refine Ok.skip ?_
    refine Ok.seq (Ok.regionW (G := fun _ => true) (C := TabP _) mixed layOk noT TabP_calm (.inl rfl) ?_)
    refine wstepN rfl rfl (by dsimp only [putV, List.set]) ?_
    refine wstepN rfl rfl (by dsimp only [putV, List.set]) ?_
    refine wstepN rfl rfl (by dsimp only [putV, List.set]) ?_
    first
      | refine wstepN rfl (addK (by assumption) rfl rfl) (by dsimp only [putV, List.set]) ?_
      | refine wstepN rfl rfl (by dsimp only [putV, List.set]) ?_
    refine wstepN rfl (toW3 (i := N + 1) (Nat.le_refl _) rfl rfl rfl) (by dsimp only [putV, List.set]) ?_
    refine wstepN rfl rfl (by dsimp only [putV, List.set]) ?_
    refine wnil ?_
    refine Ok.gcE (bs2 := [.cells (cellsF f), .cells (flatF (l ++ [zeroF]))]) (ts2 := ((((List.replicate 95 V.gone).set 0 (.win 1 3 0 (N + 1) (N + 1))).set 1 (iV (k : Int))).set 2 (.sl (rowsF [f]))).set 7 (iV ((1 : Nat) : Int))) [0, 1] [0, 1, 2, 7] (gc2 _ _ _) (by decide) (floor_ok rfl) rfl ?_
    simp only [List.replicate, List.set]
    refine Ok.seq (Ok.seq ?_)
    refine Ok.regionW (G := fun _ => false) (C := ovC) mixed layOk ovC_good (fun _ _ h => by cases h) (.inl rfl) ?_
    refine wstepN rfl rfl (by dsimp only [putV, List.set]) ?_
    refine wstepN rfl rfl (by dsimp only [putV, List.set]) ?_
    refine wstepN rfl rfl (by dsimp only [putV, List.set]) ?_
    refine wstepN rfl rfl (by dsimp only [putV, List.set]) ?_
    first
      | refine wstepN rfl (addK (by assumption) rfl rfl) (by dsimp only [putV, List.set]) ?_
      | refine wstepN rfl rfl (by dsimp only [putV, List.set]) ?_
    refine wstepN rfl (fromW (i := k + 1) (by omega) (by omega) (by omega) rfl rfl rfl) (by dsimp only [putV, List.set]) ?_
    refine wstepN rfl rfl (by dsimp only [putV, List.set]) ?_
    refine wstepN rfl rfl (by dsimp only [putV, List.set]) ?_
    refine wnil (Ok.cond (b := true) rfl (fun _ => ?_) (fun h => by cases h))
    refine Ok.gcE (bs2 := [.cells (cellsF f), .cells (flatF (l ++ [zeroF]))]) (ts2 := ((((List.replicate 95 V.gone).set 0 (.win 1 3 0 (N + 1) (N + 1))).set 1 (iV (k : Int))).set 2 (.sl (rowsF [f]))).set 7 (iV ((1 : Nat) : Int))) [0, 1] [0, 1, 2, 7] (gc2 _ _ _) (by decide) (floor_ok rfl) rfl ?_
    simp only [List.replicate, List.set]
    refine Ok.seq (Ok.regionW (G := fun _ => true) (C := TabP _) mixed layOk noT TabP_calm (.inr ⟨by kernel_rfl, by kernel_rfl⟩) ?_)
    refine wstepN rfl rfl (by dsimp only [putV, List.set]) ?_
    refine wstepN rfl rfl (by dsimp only [putV, List.set]) ?_
    refine wstepN rfl rfl (by dsimp only [putV, List.set]) ?_
    first
      | refine wstepN rfl (addK (by assumption) rfl rfl) (by dsimp only [putV, List.set]) ?_
      | refine wstepN rfl rfl (by dsimp only [putV, List.set]) ?_
    refine wstepN rfl (fromW (i := k + 1) (by omega) (by omega) (by omega) rfl rfl rfl) (by dsimp only [putV, List.set]) ?_
    refine wstepN rfl rfl (by dsimp only [putV, List.set]) ?_
    refine wstepN rfl rfl (by dsimp only [putV, List.set]) ?_
    refine wstepN rfl (fromW (i := k) (by omega) (by omega) (by omega) rfl rfl rfl) (by dsimp only [putV, List.set]) ?_
    refine wstepN rfl (cpF (j := 1) (q := 0 + (k + 1)) (n := N + 1 - (k + 1)) (r := l.drop k) (m := N + 1 - (k + 1)) (len := N + 1 - k) (a := l ++ [zeroF]) (a' := l.take (k + 1) ++ l.drop k) (by simp; omega) (Nat.min_eq_right (by omega)) (by rw [hlen1]; omega) hcp1 (hcp2 _ rfl) rfl rfl rfl rfl rfl rfl) (by dsimp only [putV, List.set]) ?_
    refine wnil ?_
    refine Ok.seq (Ok.regionW (G := fun _ => true) (C := TabP _) mixed layOk noT TabP_calm (.inl rfl) ?_)
    refine wstepN rfl rfl (by dsimp only [putV, List.set]) ?_
    refine wstepN rfl rfl (by dsimp only [putV, List.set]) ?_
    refine wstepN rfl (fromW (i := k) (by omega) (by omega) (by omega) rfl rfl rfl) (by dsimp only [putV, List.set]) ?_
    refine wstepN rfl rfl (by dsimp only [putV, List.set]) ?_
    refine wstepN rfl (cpF (j := 1) (q := 0 + k) (n := N + 1 - k) (r := [f]) (m := 1) (len := 1) (a := l.take (k + 1) ++ l.drop k) (a' := l.take k ++ f :: l.drop k) rfl (Nat.min_eq_left (by omega)) (by simp; omega) hcp3 (srcs_sl (l := [f]) (m := 1) (by simp)) rfl rfl rfl rfl rfl rfl) (by dsimp only [putV, List.set]) ?_
    refine wnil ?_
    refine Ok.seq (Ok.regionW (G := fun _ => true) (C := TabP _) mixed layOk noT TabP_calm (.inl rfl) ?_)
    refine wstepN rfl rfl (by dsimp only [putV, List.set]) ?_
    refine wstepN rfl rfl (by dsimp only [putV, List.set]) ?_
    refine wnil (Ok.ret ⟨fun _ h => (by cases h), _, rfl, rfl, rfl⟩)

end Go.Proofs.YtiefcnghjcafbaaDoorV

/- Lists of files: an element put in its place; one taken out. -/
namespace Go.Proofs.YtiefcnghjcafbaaDoorV
open Go Go.RowKit Go.Proofs.YtiefcnghjcafbaaDoor
set_option maxRecDepth 20000
set_option maxHeartbeats 1000000

inductive P67 (l : List Fl) (p : List UInt8) : FuncId → List V → V → Prop
  | k : P67 l p 67 [.sl (rowsF l), T p] (iV (placeF l p : Int))
inductive T45 (l : List Fl) (f : Fl) : FuncId → List V → List Bx → V → List Bx → Prop
  | cp : T45 l f 44 [.sl (rowsF l), iV ((1 : Nat) : Int)] [.cells (cellsF f)] (.win 1 3 0 l.length (l.length + 1)) [.cells (cellsF f), .cells (flatF (l ++ [zeroF]))]
  | ins : T45 l f 66 [.win 1 3 0 l.length (l.length + 1), iV (placeF l f.path : Int), .sl (rowsF [f])] [.cells (cellsF f), .cells (flatF (l ++ [zeroF]))] (.win 1 3 0 (l.length + 1) (l.length + 1)) [.cells (cellsF f), .cells (flatF (insP l f))]
noncomputable def insC (l : List Fl) (f : Fl) : CallT := fun g vs bs => if g = 67 then TabP (P67 l f.path) g vs bs else TabB (T45 l f) g vs bs
theorem insC_good (l : List Fl) (f : Fl) (hl : l.length ≤ 100000) : Good Tryd.prog (insC l f) := by
  have h1 : Good Tryd.prog (TabP (P67 l f.path)) := TabP_good fun g vs v h => by
    cases h with
    | k => exact ⟨place67 l f.path hl, rfl, rfl, Tryd.call67⟩
  have h2 : Good Tryd.prog (TabB (T45 l f)) := TabB_good fun g vs bs v bs' h => by
    cases h with
    | cp => exact ⟨copied44b l 1 f hl (by omega), Tryd.call44⟩
    | ins => exact ⟨insert66 l f (placeF l f.path) hl (place_le _ _), Tryd.call66⟩
  intro g vs bs v bs' h
  unfold insC at h
  split at h
  · exact h1 g vs bs v bs' h
  · exact h2 g vs bs v bs' h
theorem insC_calm (l : List Fl) (f : Fl) : Calm (fun g => g == 67) (insC l f) := fun g vs hg => by
  obtain rfl : g = 67 := by simpa using hg
  exact TabP_calm (G := fun g => g == 67) 67 vs rfl
theorem TabB_in {R : FuncId → List V → List Bx → V → List Bx → Prop} {f : FuncId} {vs : List V} {bs bs' : List Bx} {v : V} (h : TabB R f vs bs = some (v, bs')) : R f vs bs v bs' := by
  unfold TabB at h
  split at h
  · rename_i hx
    have := hx.choose_spec
    rw [Option.some.inj h] at this
    exact this
  · cases h
theorem insC_grows (l : List Fl) (f : Fl) : Grows (fun g => g == 44) (insC l f) := fun g vs bs v bs' hg h => by
  obtain rfl : g = 44 := by simpa using hg
  have h2 : TabB (T45 l f) 44 vs bs = some (v, bs') := h
  cases TabB_in h2 with
  | cp => exact ⟨[_], rfl⟩
theorem hit44b {l : List Fl} {f : Fl} : insC l f 44 [.sl (rowsF l), iV ((1 : Nat) : Int)] [.cells (cellsF f)] = some (.win 1 3 0 l.length (l.length + 1), [.cells (cellsF f), .cells (flatF (l ++ [zeroF]))]) :=
  (TabB_hit (fun v' b' h => by cases h; exact ⟨rfl, rfl⟩) .cp : TabB (T45 l f) 44 _ _ = _)
theorem hit66b {l : List Fl} {f : Fl} : insC l f 66 [.win 1 3 0 l.length (l.length + 1), iV (placeF l f.path : Int), .sl (rowsF [f])] [.cells (cellsF f), .cells (flatF (l ++ [zeroF]))] = some (.win 1 3 0 (l.length + 1) (l.length + 1), [.cells (cellsF f), .cells (flatF (insP l f))]) :=
  (TabB_hit (fun v' b' h => by cases h; exact ⟨rfl, rfl⟩) .ins : TabB (T45 l f) 66 _ _ = _)
theorem hit67b {l : List Fl} {f : Fl} {bs : List Bx} : insC l f 67 [.sl (rowsF l), T f.path] bs = some (iV (placeF l f.path : Int), bs) :=
  (TabP_hit (fun v' h => by cases h; rfl) .k : TabP (P67 l f.path) 67 _ _ = _)

theorem insP_len (l : List Fl) (f : Fl) : (insP l f).length = l.length + 1 := by
  have := place_le l f.path
  unfold insP
  simp
  omega

theorem insert45 (l : List Fl) (f : Fl) (hl : l.length ≤ 100000) : FnOk Tryd.prog 45 [.sl (rowsF l), valF f] [] (fun r bs' => fr bs' r = .sl (rowsF (insP l f))) := by
  refine FnOk.fast (Q := fun r => r = .sl (rowsF (insP l f))) layOk Tryd.func45 rfl ?_
  refine Ok.seq (go 10 rfl ?_)
  refine Ok.gcE (bs2 := [.cells (cellsF f)]) (ts2 := ((List.replicate 14 V.gone).set 0 (.sl (rowsF l))).set 3 (.ptr 0 0)) [0] [0, 3] (by kernel_rfl) (by decide) (floor_ok rfl) rfl ?_
  simp only [List.replicate, List.set]
  refine Ok.seq (Ok.regionGW (G := fun g => g == 67) (H := fun g => g == 44) (C := insC l f) mixed layOk (insC_good l f hl) (insC_calm l f) (insC_grows l f) (by kernel_rfl) (by kernel_rfl) ?_)
  refine gstep rfl rfl (by dsimp only [putV, List.set]) ?_
  refine gstep rfl hit44b (by dsimp only [putV, List.set]) ?_
  refine gstep rfl rfl (by dsimp only [putV, List.set]) ?_
  refine gstep rfl rfl (by dsimp only [putV, List.set]) ?_
  refine gstep rfl rfl (by dsimp only [putV, List.set]) ?_
  refine gstep rfl hit67b (by dsimp only [putV, List.set]) ?_
  refine gstep rfl rfl (by dsimp only [putV, List.set]) ?_
  refine gstep rfl rfl (by dsimp only [putV, List.set]) ?_
  refine gstep rfl hit66b (by dsimp only [putV, List.set]) ?_
  refine gstep rfl rfl (by dsimp only [putV, List.set]) ?_
  refine gnil (Ok.ret ⟨fun _ h => (by cases h), _, rfl, ?_⟩)
  have h1 := insP_len l f
  have := fr_winF (bs := [.cells (cellsF f), .cells (flatF (insP l f))]) (j := 1) (q := 0) (n := l.length + 1) (c := l.length + 1) (a := insP l f) rfl (by omega)
  rw [List.drop_zero, List.take_of_length_le (by omega)] at this
  exact this

end Go.Proofs.YtiefcnghjcafbaaDoorV

/- Lists of files: slices.Delete; whether a path is a parent. -/
namespace Go.Proofs.YtiefcnghjcafbaaDoorV
open Go Go.RowKit Go.Proofs.YtiefcnghjcafbaaDoor
set_option maxRecDepth 20000
set_option maxHeartbeats 1000000

section
variable {L : Lay} {C : CallT} {ts : List V} {bs : List Bx} {t t' : TypeId} {x y d s : Operand} {k k' : IntKind}
theorem fromWE {lo : Operand} {j q n c i e : Nat} (h1 : i ≤ n) (h2 : n ≤ c) (h3 : c = i) (hl : L.sl t = some (e, 3)) (hx : evO ts x = some (.win j 3 q n c)) (hi : evO ts lo = some (.val (.int k (i : Int)))) :
    evX L C (.slice t x (some lo) none none) ts bs = some (.win j 3 q (n - i) (c - i), bs) := by
  simp only [evX, ev, hx, hl, bd, hi, Int.natCast_nonneg, if_true, Int.toNat_natCast, h1, h2, and_self]
  rw [if_pos h3]
theorem cutW3 {lo hi : Operand} {j q n c i h e : Nat} (h1 : i ≤ h) (h2 : h ≤ c) (h3 : i < c) (hl : L.sl t = some (e, 3)) (hx : evO ts x = some (.win j 3 q n c)) (hlo : evO ts lo = some (.val (.int k (i : Int)))) (hh : evO ts hi = some (.val (.int k' (h : Int)))) :
    evX L C (.slice t x (some lo) (some hi) none) ts bs = some (.win j 3 (q + i) (h - i) (c - i), bs) := by
  simp only [evX, ev, hx, hl, bd, hlo, hh, Int.natCast_nonneg, if_true, Int.toNat_natCast, h1, h2, and_self]
  rw [if_neg (by omega)]
end

theorem delete50 (l : List Fl) (k : Nat) (hl : l.length ≤ 100000) (hk : k < l.length) : FnOk Tryd.prog 50 [.win 0 3 0 l.length l.length, iV (k : Int), iV ((k + 1 : Nat) : Int)] [.cells (flatF l)] (fun r bs' => r = .win 0 3 0 (k + (l.length - (k + 1))) l.length ∧ bs' = [.cells (flatF (l.eraseIdx k ++ [zeroF]))]) := by
  refine FnOk.of layOk Tryd.func50 rfl ?_
  obtain ⟨N, hN⟩ : ∃ N, l.length = N := ⟨_, rfl⟩
  rw [hN]
  have hkN : k < N := by omega
  have hq0 : ((k : Int) == ((k + 1 : Nat) : Int)) = false := by simp; omega
  refine Ok.seq (Ok.regionW (G := fun _ => true) (C := TabP _) mixed layOk noT TabP_calm (.inl rfl) ?_)
  refine wstepN rfl rfl (by dsimp only [putV, List.set]) ?_
  refine wnil ?_
  refine Ok.gcE (bs2 := [.cells (flatF l)]) (ts2 := (((List.replicate 33 V.gone).set 0 (.win 0 3 0 N N)).set 1 (iV (k : Int))).set 2 (iV ((k + 1 : Nat) : Int))) [0] [0, 1, 2] (gcB (flatF_vals l)) (by decide) (floor_ok rfl) rfl ?_
  simp only [List.replicate, List.set]
  refine Ok.seq (Ok.region ?_)
  refine ostep layOk noT rfl (rfl) (by dsimp only [putV, List.set]) ?_
  refine ostep layOk noT rfl (rfl) (by dsimp only [putV, List.set]) ?_
  refine ostep layOk noT rfl (rfl) (by dsimp only [putV, List.set]) ?_
  refine ostep layOk noT rfl (rfl) (by dsimp only [putV, List.set]) ?_
  refine ostep layOk noT rfl (rfl) (by dsimp only [putV, List.set]) ?_
  refine ostepO rfl (op_cut3 layOk (l := k) (h := k + 1) (m := N) rfl rfl rfl rfl rfl rfl (by omega) (by omega) (by omega)) (by dsimp only [putV, List.set]) ?_
  refine onil ?_
  refine Ok.gcE (bs2 := [.cells (flatF l)]) (ts2 := (((List.replicate 33 V.gone).set 0 (.win 0 3 0 N N)).set 1 (iV (k : Int))).set 2 (iV ((k + 1 : Nat) : Int))) [0] [0, 1, 2] (gcB (flatF_vals l)) (by decide) (floor_ok rfl) rfl ?_
  simp only [List.replicate, List.set]
  refine Ok.seq ?_
  refine Ok.seq (Ok.regionW (G := fun _ => true) (C := TabP _) mixed layOk noT TabP_calm (.inl rfl) ?_)
  refine wstepN rfl rfl (by dsimp only [putV, List.set]) ?_
  refine wstepN rfl rfl (by dsimp only [putV, List.set]) ?_
  first
    | refine wstepN rfl (eqlK (by assumption) rfl rfl) (by dsimp only [putV, List.set]) ?_
    | refine wstepN rfl rfl (by dsimp only [putV, List.set]) ?_
  refine wnil (Ok.cond (b := false) rfl (fun h => by cases h) (fun _ => ?_))
  refine Ok.skip ?_
  refine Ok.seq (Ok.regionW (G := fun _ => true) (C := TabP _) mixed layOk noT TabP_calm (.inl rfl) ?_)
  refine wstepN rfl rfl (by dsimp only [putV, List.set]) ?_
  refine wstepN rfl (show evX lay _ _ _ _ = some (iV (N : Int), _) from rfl) (by dsimp only [putV, List.set]) ?_
  refine wstepN rfl rfl (by dsimp only [putV, List.set]) ?_
  refine wnil ?_
  refine Ok.gcE (bs2 := [.cells (flatF l)]) (ts2 := ((((List.replicate 33 V.gone).set 0 (.win 0 3 0 N N)).set 1 (iV (k : Int))).set 2 (iV ((k + 1 : Nat) : Int))).set 7 (iV (N : Int))) [0] [0, 1, 2, 7] (gcB (flatF_vals l)) (by decide) (floor_ok rfl) rfl ?_
  simp only [List.replicate, List.set]
  obtain ⟨a', ha'⟩ : ∃ a', l.take k ++ l.drop (k + 1) ++ l.drop (k + (N - (k + 1))) = a' := ⟨_, rfl⟩
  have hcut : l.take (0 + k) ++ l.drop (k + 1) ++ l.drop (0 + k + (N - (k + 1))) = a' := by rw [← ha', Nat.zero_add]
  refine Ok.seq (Ok.mono (Q := fun e ts bs => e = .normal ∧ bs = [.cells (flatF a')] ∧ ts = ((List.replicate 33 V.gone).set 0 (.win 0 3 0 (k + (N - (k + 1))) N)).set 7 (iV (N : Int))) (Ok.after ?_) ?_)
  · by_cases hlast : N = k + 1
    · refine Ok.regionW (G := fun _ => true) (C := TabP _) mixed layOk noT TabP_calm (.inr ⟨by kernel_rfl, by kernel_rfl⟩) ?_
      refine wstepN rfl rfl (by dsimp only [putV, List.set]) ?_
      refine wstepN rfl rfl (by dsimp only [putV, List.set]) ?_
      refine wstepN rfl (toW3 (i := k) (by omega) rfl rfl rfl) (by dsimp only [putV, List.set]) ?_
      refine wstepN rfl rfl (by dsimp only [putV, List.set]) ?_
      refine wstepN rfl rfl (by dsimp only [putV, List.set]) ?_
      refine wstepN rfl (fromWE (i := k + 1) (by omega) (by omega) hlast rfl rfl rfl) (by dsimp only [putV, List.set]) ?_
      refine wstepN rfl (apW (j := 0) (q := 0) (n := k) (c := N) (r := l.drop (k + 1)) (m := N - (k + 1)) (a := l) (a' := a') (by simp; omega) (by omega) (by omega) hcut ((srcs_win (a := l) (j := 0) (q := 0) (n := N - (k + 1)) (m := N - (k + 1)) rfl (Nat.le_refl _) (by omega)).trans (by rw [List.drop_zero, show N - (k + 1) = 0 by omega, List.drop_of_length_le (by omega)]; rfl)) rfl rfl rfl rfl rfl rfl) (by dsimp only [putV, List.set]) ?_
      refine wstepN rfl rfl (by dsimp only [putV, List.set]) ?_
      exact wnil ⟨[0], [0, 7], _, gcB (flatF_vals _), by decide, floor_ok rfl, rfl, rfl, rfl⟩
    · refine Ok.regionW (G := fun _ => true) (C := TabP _) mixed layOk noT TabP_calm (.inr ⟨by kernel_rfl, by kernel_rfl⟩) ?_
      refine wstepN rfl rfl (by dsimp only [putV, List.set]) ?_
      refine wstepN rfl rfl (by dsimp only [putV, List.set]) ?_
      refine wstepN rfl (toW3 (i := k) (by omega) rfl rfl rfl) (by dsimp only [putV, List.set]) ?_
      refine wstepN rfl rfl (by dsimp only [putV, List.set]) ?_
      refine wstepN rfl rfl (by dsimp only [putV, List.set]) ?_
      refine wstepN rfl (fromW (i := k + 1) (by omega) (by omega) (by omega) rfl rfl rfl) (by dsimp only [putV, List.set]) ?_
      refine wstepN rfl (apW (j := 0) (q := 0) (n := k) (c := N) (r := l.drop (k + 1)) (m := N - (k + 1)) (a := l) (a' := a') (by simp; omega) (by omega) (by omega) hcut ((srcs_win (a := l) (j := 0) (q := 0 + (k + 1)) (n := N - (k + 1)) (m := N - (k + 1)) rfl (Nat.le_refl _) (by omega)).trans (by rw [Nat.zero_add, List.take_of_length_le (by simp; omega)])) rfl rfl rfl rfl rfl rfl) (by dsimp only [putV, List.set]) ?_
      refine wstepN rfl rfl (by dsimp only [putV, List.set]) ?_
      exact wnil ⟨[0], [0, 7], _, gcB (flatF_vals _), by decide, floor_ok rfl, rfl, rfl, rfl⟩
  rintro _ _ _ ⟨rfl, rfl, rfl⟩
  simp only [List.replicate, List.set]
  have hM : k + (N - (k + 1)) + 1 = N := by omega
  have hal : a'.length = N := by rw [← ha']; simp; omega
  have hfin : spl (flatF a') ((0 + (k + (N - (k + 1)))) * 3) (List.replicate (N - (k + (N - (k + 1)))) (cellsF zeroF)).flatten = flatF (l.eraseIdx k ++ [zeroF]) := by
    rw [← flatF_rep, flatF_spl, Nat.zero_add, show N - (k + (N - (k + 1))) = 1 by omega, ← ha']
    congr 1
    rw [List.eraseIdx_eq_take_drop_succ]
    have e1 : (l.take k ++ l.drop (k + 1)).length = k + (N - (k + 1)) := by simp; omega
    have e2 : (l.drop (k + (N - (k + 1)))).length = 1 := by simp; omega
    generalize l.take k ++ l.drop (k + 1) = e0 at e1
    generalize l.drop (k + (N - (k + 1))) = z at e2
    rw [List.take_left' e1, List.drop_of_length_le (by simp; omega)]
    simp
  refine Ok.seq (Ok.region ?_)
  refine ostep layOk noT rfl (rfl) (by dsimp only [putV, List.set]) ?_
  refine ostep layOk noT rfl (rfl) (by dsimp only [putV, List.set]) ?_
  refine ostep layOk noT rfl (show evX lay _ _ _ _ = some (iV ((k + (N - (k + 1)) : Nat) : Int), _) from rfl) (by dsimp only [putV, List.set]) ?_
  refine ostep layOk noT rfl (rfl) (by dsimp only [putV, List.set]) ?_
  refine ostep layOk noT rfl (cutW3 (i := k + (N - (k + 1))) (h := N) (by omega) (by omega) (by omega) rfl rfl rfl rfl) (by dsimp only [putV, List.set]) ?_
  refine ostepO rfl (op_clear layOk (q := 0 + (k + (N - (k + 1)))) (cs := flatF a') (n := N - (k + (N - (k + 1)))) (zs := cellsF zeroF) rfl rfl rfl rfl rfl (by omega) rfl (by rw [flatF_len]; omega)) (by dsimp only [putV, List.set]) ?_
  refine onil ?_
  refine Ok.seq (Ok.regionW (G := fun _ => true) (C := TabP _) mixed layOk noT TabP_calm (.inl rfl) ?_)
  refine wstepN rfl rfl (by dsimp only [putV, List.set]) ?_
  refine wstepN rfl rfl (by dsimp only [putV, List.set]) ?_
  refine wnil (Ok.ret ⟨fun _ h => (by cases h), _, rfl, rfl, ?_⟩)
  show [Bx.cells (spl (flatF a') ((0 + (k + (N - (k + 1)))) * 3) (List.replicate (N - (k + (N - (k + 1)))) (cellsF zeroF)).flatten)] = _
  rw [hfin]

end Go.Proofs.YtiefcnghjcafbaaDoorV

/- Lists of files: whether a path is a parent; the reference's lists with one more, and without. -/
namespace Go.Proofs.YtiefcnghjcafbaaDoorV
open Go Go.RowKit Go.Proofs.YtiefcnghjcafbaaDoor
set_option maxRecDepth 20000
set_option maxHeartbeats 1000000

def kidF (p : List UInt8) (f : Fl) : Bool := !decide (f.path = [47]) && decide (parentB f.path = p)
theorem holds_is (l : List Fl) (p : List UInt8) : holdsF l p = l.any (kidF p) := rfl

inductive P36 : FuncId → List V → V → Prop
  | par (s : List UInt8) (h : s.length ≤ 100000) : P36 36 [T s] (T (parentB s))
theorem P36_u : Uniq P36 := fun f vs v v' h h' => by cases h <;> cases h' <;> rfl
theorem P36_good : Good Tryd.prog (TabP P36) := TabP_good fun f vs v h => by
  cases h with
  | par s h => exact ⟨parent36 s h, rfl, rfl, Tryd.call36⟩

theorem kid69 (f : Fl) (p : List UInt8) (hf : f.path.length ≤ 100000) : FnOk Tryd.prog 69 [valF f, .ptr 0 0] [.cells [T p]] (fun r bs' => r = bV (kidF p f) ∧ bs' = [.cells [T p]]) := by
  refine FnOk.of layOk Tryd.func69 rfl ?_
  have hT := P36_good
  have hU := P36_u
  have hpa : P36 36 [T f.path] (T (parentB f.path)) := .par _ hf
  refine Ok.seq (go 10 rfl ?_)
  refine Ok.gcE (bs2 := [.cells [T p], .cells (cellsF f)]) (ts2 := (((List.replicate 14 V.gone).set 1 (.ptr 0 0))).set 2 (.ptr 1 0)) [0, 1] [1, 2] (by kernel_rfl) (by decide) (floor_ok rfl) rfl ?_
  simp only [List.replicate, List.set]
  cases hq : decide (f.path = [47])
  · rw [show kidF p f = decide (parentB f.path = p) by rw [kidF, hq]; rfl]
    generalize hv : decide (parentB f.path = p) = v
    refine Ok.seq (Ok.regionW (G := fun _ => true) (C := TabP _) mixed layOk hT TabP_calm (.inr ⟨by kernel_rfl, by kernel_rfl⟩) ?_)
    refine wstepN rfl rfl (by dsimp only [putV, List.set]) ?_
    first
      | refine wstepN rfl (ldT rfl rfl) (by dsimp only [putV, List.set]) ?_
      | refine wstepN rfl (ldE rfl rfl) (by dsimp only [putV, List.set]) ?_
      | refine wstepN rfl rfl (by dsimp only [putV, List.set]) ?_
    first
      | refine wstepN rfl (neqT (by assumption) rfl rfl) (by dsimp only [putV, List.set]) ?_
      | refine wstepN rfl rfl (by dsimp only [putV, List.set]) ?_
    refine wstepN rfl rfl (by dsimp only [putV, List.set]) ?_
    first
      | refine wskipN rfl (by dsimp only [putV, List.set]) ?_
      | refine wstepN rfl rfl (by dsimp only [putV, List.set]) ?_
    first
      | refine wskipN rfl (by dsimp only [putV, List.set]) ?_
      | refine wstepN rfl (ldT rfl rfl) (by dsimp only [putV, List.set]) ?_
      | refine wstepN rfl (ldE rfl rfl) (by dsimp only [putV, List.set]) ?_
      | refine wstepN rfl rfl (by dsimp only [putV, List.set]) ?_
    first
      | refine wskipN rfl (by dsimp only [putV, List.set]) ?_
      | refine wstepN rfl (hit36 (by first | assumption | omega)) (by dsimp only [putV, List.set]) ?_
      | refine wstepN rfl (T1_hit) (by dsimp only [putV, List.set]) ?_
      | refine wstepN rfl (TabP_use (by assumption) (by assumption)) (by dsimp only [putV, List.set]) ?_
      | refine wstepN rfl (TabP_hit (fun v' h => by cases h; rfl) (by assumption)) (by dsimp only [putV, List.set]) ?_
      | refine wstepN rfl (TabP_hit (fun v' h => by cases h; rfl) (by constructor)) (by dsimp only [putV, List.set]) ?_
      | refine wstepN rfl rfl (by dsimp only [putV, List.set]) ?_
    first
      | refine wskipN rfl (by dsimp only [putV, List.set]) ?_
      | refine wstepN rfl (ldT rfl rfl) (by dsimp only [putV, List.set]) ?_
      | refine wstepN rfl (ldE rfl rfl) (by dsimp only [putV, List.set]) ?_
      | refine wstepN rfl rfl (by dsimp only [putV, List.set]) ?_
    first
      | refine wskipN rfl (by dsimp only [putV, List.set]) ?_
      | refine wstepN rfl (eqT (by assumption) rfl rfl) (by dsimp only [putV, List.set]) ?_
      | refine wstepN rfl rfl (by dsimp only [putV, List.set]) ?_
    refine wstepN rfl rfl (by dsimp only [putV, List.set]) ?_
    refine wstepN rfl rfl (by dsimp only [putV, List.set]) ?_
    refine wnil ?_
    refine Ok.gc (bs2 := [.cells [T p]]) [0] [3] (by kernel_rfl) (by decide) (floor_ok rfl) ?_
    exact Ok.ret ⟨fun _ h => (by cases h), _, rfl, rfl, rfl⟩
  · rw [show kidF p f = false by rw [kidF, hq]; rfl]
    refine Ok.seq (Ok.regionW (G := fun _ => true) (C := TabP _) mixed layOk hT TabP_calm (.inr ⟨by kernel_rfl, by kernel_rfl⟩) ?_)
    refine wstepN rfl rfl (by dsimp only [putV, List.set]) ?_
    first
      | refine wstepN rfl (ldT rfl rfl) (by dsimp only [putV, List.set]) ?_
      | refine wstepN rfl (ldE rfl rfl) (by dsimp only [putV, List.set]) ?_
      | refine wstepN rfl rfl (by dsimp only [putV, List.set]) ?_
    first
      | refine wstepN rfl (neqT (by assumption) rfl rfl) (by dsimp only [putV, List.set]) ?_
      | refine wstepN rfl rfl (by dsimp only [putV, List.set]) ?_
    refine wstepN rfl rfl (by dsimp only [putV, List.set]) ?_
    first
      | refine wskipN rfl (by dsimp only [putV, List.set]) ?_
      | refine wstepN rfl rfl (by dsimp only [putV, List.set]) ?_
    first
      | refine wskipN rfl (by dsimp only [putV, List.set]) ?_
      | refine wstepN rfl (ldT rfl rfl) (by dsimp only [putV, List.set]) ?_
      | refine wstepN rfl (ldE rfl rfl) (by dsimp only [putV, List.set]) ?_
      | refine wstepN rfl rfl (by dsimp only [putV, List.set]) ?_
    first
      | refine wskipN rfl (by dsimp only [putV, List.set]) ?_
      | refine wstepN rfl (hit36 (by first | assumption | omega)) (by dsimp only [putV, List.set]) ?_
      | refine wstepN rfl (T1_hit) (by dsimp only [putV, List.set]) ?_
      | refine wstepN rfl (TabP_use (by assumption) (by assumption)) (by dsimp only [putV, List.set]) ?_
      | refine wstepN rfl (TabP_hit (fun v' h => by cases h; rfl) (by assumption)) (by dsimp only [putV, List.set]) ?_
      | refine wstepN rfl (TabP_hit (fun v' h => by cases h; rfl) (by constructor)) (by dsimp only [putV, List.set]) ?_
      | refine wstepN rfl rfl (by dsimp only [putV, List.set]) ?_
    first
      | refine wskipN rfl (by dsimp only [putV, List.set]) ?_
      | refine wstepN rfl (ldT rfl rfl) (by dsimp only [putV, List.set]) ?_
      | refine wstepN rfl (ldE rfl rfl) (by dsimp only [putV, List.set]) ?_
      | refine wstepN rfl rfl (by dsimp only [putV, List.set]) ?_
    first
      | refine wskipN rfl (by dsimp only [putV, List.set]) ?_
      | refine wstepN rfl (eqT (by assumption) rfl rfl) (by dsimp only [putV, List.set]) ?_
      | refine wstepN rfl rfl (by dsimp only [putV, List.set]) ?_
    refine wstepN rfl rfl (by dsimp only [putV, List.set]) ?_
    refine wstepN rfl rfl (by dsimp only [putV, List.set]) ?_
    refine wnil ?_
    refine Ok.gc (bs2 := [.cells [T p]]) [0] [3] (by kernel_rfl) (by decide) (floor_ok rfl) ?_
    exact Ok.ret ⟨fun _ h => (by cases h), _, rfl, rfl, rfl⟩

def idxQ (l : List Fl) (q : Fl → Bool) : Int := match l.findIdx? q with
  | some i => (i : Int)
  | none => -1
theorem idxQ_at {l : List Fl} {q : Fl → Bool} {k : Nat} {f : Fl} (h : (l.take k).any q = false) (hk : l[k]? = some f) (hc : q f = true) : idxQ l q = (k : Int) := by
  have hlt : k < l.length := (List.getElem?_eq_some_iff.1 hk).1
  have : l.findIdx? q = some k := by
    rw [List.findIdx?_eq_some_iff_getElem]
    refine ⟨hlt, ?_, fun j hj => ?_⟩
    · rw [List.getElem?_eq_getElem hlt] at hk
      obtain rfl := Option.some.inj hk
      exact hc
    · have h1 := List.any_eq_false.1 h l[j] (List.mem_iff_getElem.2 ⟨j, by simp; omega, by simp⟩)
      simpa using h1
  unfold idxQ
  rw [this]
theorem idxQ_none {l : List Fl} {q : Fl → Bool} (h : l.any q = false) : idxQ l q = -1 := by
  have : l.findIdx? q = none := by
    rw [List.findIdx?_eq_none_iff]
    intro x hx
    have := List.any_eq_false.1 h x hx
    simpa using this
  unfold idxQ
  rw [this]
theorem idxQ_pos (l : List Fl) (q : Fl → Bool) : decide (idxQ l q ≥ 0) = l.any q := by
  unfold idxQ
  cases h : l.findIdx? q with
  | none =>
    have h1 := List.findIdx?_eq_none_iff.1 h
    have : l.any q = false := List.any_eq_false.2 fun x hx => by simp [h1 x hx]
    rw [this]
    rfl
  | some i =>
    obtain ⟨h1, h2, _⟩ := List.findIdx?_eq_some_iff_getElem.1 h
    have : l.any q = true := List.any_eq_true.2 ⟨_, List.getElem_mem h1, h2⟩
    rw [this]
    simp

inductive TQ (cid : FuncId) (l : List Fl) (p : List UInt8) (q : Fl → Bool) : FuncId → List V → List Bx → V → List Bx → Prop
  | k (a : List UInt8) (d : Bool) (e : List UInt8) (h : (⟨a, d, e⟩ : Fl) ∈ l) : TQ cid l p q cid [.agg [T a, bV d, T e], .ptr 0 0] [.cells [T p]] (bV (q ⟨a, d, e⟩)) [.cells [T p]]
theorem TQ_good {cid : FuncId} {l : List Fl} {p : List UInt8} {q : Fl → Bool} (h : ∀ f ∈ l, FnOk Tryd.prog cid [valF f, .ptr 0 0] [.cells [T p]] (fun r bs' => r = bV (q f) ∧ bs' = [.cells [T p]])) (he : Enters Tryd.prog cid) : Good Tryd.prog (TabB (TQ cid l p q)) := TabB_good fun f vs bs v bs' hh => by
  cases hh with
  | k a d e hm => exact ⟨h ⟨a, d, e⟩ hm, he⟩
theorem TQ_hit {cid : FuncId} {l : List Fl} {p : List UInt8} {q : Fl → Bool} {f : Fl} (hf : f ∈ l) : TabB (TQ cid l p q) cid [valF f, .ptr 0 0] [.cells [T p]] = some (bV (q f), [.cells [T p]]) := TabB_hit (fun v' b' h => by cases h; exact ⟨rfl, rfl⟩) (.k f.path f.dir f.data hf)

theorem index64q (cid : FuncId) (l : List Fl) (p : List UInt8) (q : Fl → Bool) (hl : l.length ≤ 100000) (h : ∀ f ∈ l, FnOk Tryd.prog cid [valF f, .ptr 0 0] [.cells [T p]] (fun r bs' => r = bV (q f) ∧ bs' = [.cells [T p]])) (he : Enters Tryd.prog cid) :
    FnOk Tryd.prog 64 [.sl (rowsF l), .fn cid [.ptr 0 0]] [.cells [T p]] (fun r bs' => r = iV (idxQ l q) ∧ bs' = [.cells [T p]]) := by
  refine FnOk.of layOk Tryd.func64 rfl ?_
  obtain ⟨N, hN⟩ : ∃ N, l.length = N := ⟨_, rfl⟩
  refine Ok.seq (go 10 rfl ?_)
  refine Ok.seq ?_
  refine Ok.seq (Ok.regionW (G := fun _ => true) (C := TabP _) mixed layOk noT TabP_calm (.inl rfl) ?_)
  refine wstepN rfl rfl (by dsimp only [putV, List.set]) ?_
  first
    | refine wstepN rfl (lenF hN rfl rfl) (by dsimp only [putV, List.set]) ?_
    | refine wstepN rfl (lenF hM rfl rfl) (by dsimp only [putV, List.set]) ?_
    | refine wstepN rfl (lenF (by assumption) rfl rfl) (by dsimp only [putV, List.set]) ?_
    | refine wstepN rfl rfl (by dsimp only [putV, List.set]) ?_
  refine wstepN rfl rfl (by dsimp only [putV, List.set]) ?_
  refine wnil ?_
  refine Ok.gc (bs2 := [.cells [T p]]) [0] [0, 1, 7, 8] (by kernel_rfl) (by decide) (floor_ok rfl) ?_
  refine Ok.count N (fun k ts bs => (l.take k).any q = false ∧ k ≤ N ∧ bs = [.cells [T p]] ∧ ts = ((((List.replicate 19 V.gone).set 0 (.sl (rowsF l))).set 1 (.fn cid [.ptr 0 0])).set 7 (iV (N : Int))).set 8 (iV (k : Int))) ?_ ?_
  · exact ⟨rfl, Nat.zero_le _, rfl, rfl⟩
  rintro k _ _ ⟨hno, hk, rfl, rfl⟩
  simp only [List.replicate, List.set]
  cases hlt : decide (k < N)
  · refine Ok.seq (Ok.regionW (G := fun _ => true) (C := TabP _) mixed layOk noT TabP_calm (.inl rfl) ?_)
    first
      | refine wstepN rfl (ltT hlt rfl rfl) (by dsimp only [putV, List.set]) ?_
      | refine wstepN rfl (ltT (by assumption) rfl rfl) (by dsimp only [putV, List.set]) ?_
      | refine wstepN rfl (lssK (by assumption) rfl rfl) (by dsimp only [putV, List.set]) ?_
      | refine wstepN rfl rfl (by dsimp only [putV, List.set]) ?_
    refine wnil (Ok.seq (Ok.cond (b := false) rfl (fun h => by cases h) (fun _ => ?_)))
    refine Ok.exit ?_
    have := of_decide_eq_false hlt
    rw [List.take_of_length_le (by omega)] at hno
    rw [idxQ_none hno]
    exact go 10 rfl ⟨fun _ h => (by cases h), _, rfl, rfl, rfl⟩
  · have hlt' : k < N := of_decide_eq_true hlt
    obtain ⟨f, hf⟩ : ∃ f, l[k]? = some f := ⟨_, List.getElem?_eq_getElem (by omega)⟩
    have hget := rowsF_at hf
    have hnext := take_anyF (q := q) hf
    have hmem := List.mem_of_getElem? hf
    refine Ok.seq (Ok.regionW (G := fun _ => true) (C := TabP _) mixed layOk noT TabP_calm (.inl rfl) ?_)
    first
      | refine wstepN rfl (ltT hlt rfl rfl) (by dsimp only [putV, List.set]) ?_
      | refine wstepN rfl (ltT (by assumption) rfl rfl) (by dsimp only [putV, List.set]) ?_
      | refine wstepN rfl (lssK (by assumption) rfl rfl) (by dsimp only [putV, List.set]) ?_
      | refine wstepN rfl rfl (by dsimp only [putV, List.set]) ?_
    refine wnil (Ok.seq (Ok.cond (b := true) rfl (fun _ => ?_) (fun h => by cases h)))
    refine Ok.skip ?_
    refine Ok.after (Ok.seq (Ok.block ?_))
    refine Ok.seq (Ok.regionW (G := fun _ => true) (C := TabP _) mixed layOk noT TabP_calm (.inl rfl) ?_)
    refine wstepN rfl rfl (by dsimp only [putV, List.set]) ?_
    refine wstepN rfl rfl (by dsimp only [putV, List.set]) ?_
    refine wnil ?_
    refine Ok.seq ?_
    refine Ok.regionW (G := fun _ => false) (C := TabB (TQ cid l p q)) mixed layOk (TQ_good h he) (fun _ _ h => by cases h) (.inl rfl) ?_
    refine wstepN rfl rfl (by dsimp only [putV, List.set]) ?_
    refine wstepN rfl rfl (by dsimp only [putV, List.set]) ?_
    refine wstepN rfl rfl (by dsimp only [putV, List.set]) ?_
    first
      | refine wstepN rfl (ev_ix rfl rfl rfl (by assumption) rfl) (by dsimp only [putV, List.set]) ?_
      | refine wstepN rfl rfl (by dsimp only [putV, List.set]) ?_
    first
      | refine wstepN rfl (ldF rfl rfl) (by dsimp only [putV, List.set]) ?_
      | refine wstepN rfl rfl (by dsimp only [putV, List.set]) ?_
    refine wstepN rfl (TQ_hit hmem) (by dsimp only [putV, List.set]) ?_
    cases hq : q f
    · refine wnil (Ok.cond (b := false) rfl (fun h => by cases h) (fun _ => ?_))
      refine Ok.skip ?_
      refine Ok.regionW (G := fun _ => true) (C := TabP _) mixed layOk noT TabP_calm (.inl rfl) ?_
      first
        | refine wstepN rfl (incT (by omega) rfl rfl) (by dsimp only [putV, List.set]) ?_
        | refine wstepN rfl (addK (by assumption) rfl rfl) (by dsimp only [putV, List.set]) ?_
        | refine wstepN rfl rfl (by dsimp only [putV, List.set]) ?_
      refine wstepN rfl rfl (by dsimp only [putV, List.set]) ?_
      refine wnil ⟨[0], [0, 1, 7, 8], [.cells [T p]], by kernel_rfl, by decide, floor_ok rfl, hlt', by rw [hnext, hno, hq]; rfl, hlt', rfl, rfl⟩
    · refine wnil (Ok.cond (b := true) rfl (fun _ => ?_) (fun h => by cases h))
      rw [idxQ_at hno hf hq]
      refine Ok.seq (Ok.regionW (G := fun _ => true) (C := TabP _) mixed layOk noT TabP_calm (.inl rfl) ?_)
      refine wstepN rfl rfl (by dsimp only [putV, List.set]) ?_
      refine wstepN rfl rfl (by dsimp only [putV, List.set]) ?_
      refine wnil (Ok.ret ?_)
      exact ⟨[0], [4], [.cells [T p]], by kernel_rfl, by decide, floor_ok rfl, fun _ h => (by cases h), _, rfl, rfl, rfl⟩

/-- One call that is known, boxes and all. -/
inductive TB1 (f : FuncId) (vs : List V) (bs : List Bx) (v : V) (bs' : List Bx) : FuncId → List V → List Bx → V → List Bx → Prop
  | k : TB1 f vs bs v bs' f vs bs v bs'
theorem TB1_good {f : FuncId} {vs : List V} {bs bs' : List Bx} {v : V} (h : FnOk Tryd.prog f vs bs (fun r b => r = v ∧ b = bs')) (he : Enters Tryd.prog f) : Good Tryd.prog (TabB (TB1 f vs bs v bs')) := TabB_good fun f' vs' b1 v' b2 hh => by
  cases hh with
  | k => exact ⟨h, he⟩
theorem TB1_hit {f : FuncId} {vs : List V} {bs bs' : List Bx} {v : V} : TabB (TB1 f vs bs v bs') f vs bs = some (v, bs') := TabB_hit (fun v' b' h => by cases h; exact ⟨rfl, rfl⟩) .k

theorem contains68 (l : List Fl) (p : List UInt8) (hl : l.length ≤ 100000) (hp : ∀ f ∈ l, f.path.length ≤ 100000) : FnOk Tryd.prog 68 [.sl (rowsF l), .fn 69 [.ptr 0 0]] [.cells [T p]] (fun r bs' => r = bV (holdsF l p) ∧ bs' = [.cells [T p]]) := by
  refine FnOk.of layOk Tryd.func68 rfl ?_
  have hpos := idxQ_pos l (kidF p)
  rw [← holds_is] at hpos
  refine Ok.seq (go 10 rfl ?_)
  refine Ok.seq (Ok.regionW (G := fun _ => false) (C := TabB _) mixed layOk (TB1_good (index64q 69 l p (kidF p) hl (fun f hf => kid69 f p (hp f hf)) Tryd.call69) Tryd.call64) (fun _ _ h => by cases h) (.inl rfl) ?_)
  refine wstepN rfl rfl (by dsimp only [putV, List.set]) ?_
  refine wstepN rfl rfl (by dsimp only [putV, List.set]) ?_
  refine wstepN rfl (TB1_hit) (by dsimp only [putV, List.set]) ?_
  first
    | refine wstepN rfl (geqK h0 rfl rfl) (by dsimp only [putV, List.set]) ?_
    | refine wstepN rfl (geqK (by assumption) rfl rfl) (by dsimp only [putV, List.set]) ?_
    | refine wstepN rfl rfl (by dsimp only [putV, List.set]) ?_
  refine wstepN rfl rfl (by dsimp only [putV, List.set]) ?_
  refine wnil (Ok.ret ⟨fun _ h => (by cases h), _, rfl, rfl, rfl⟩)
theorem parents49 (l : List Fl) (p : List UInt8) (hl : l.length ≤ 100000) (hp : ∀ f ∈ l, f.path.length ≤ 100000) : FnOk Tryd.prog 49 [.sl (rowsF l), T p] [] (fun r bs' => fr bs' r = bV (holdsF l p)) := by
  refine FnOk.fast (Q := fun r => r = bV (holdsF l p)) layOk Tryd.func49 rfl ?_
  refine Ok.seq (go 10 rfl ?_)
  refine Ok.gc (bs2 := [.cells [T p]]) [0] [0, 3] (by kernel_rfl) (by decide) (floor_ok rfl) ?_
  refine Ok.seq (Ok.regionW (G := fun _ => false) (C := TabB _) mixed layOk (TB1_good (contains68 l p hl hp) Tryd.call68) (fun _ _ h => by cases h) (.inl rfl) ?_)
  refine wstepN rfl rfl (by dsimp only [putV, List.set]) ?_
  refine wstepN rfl rfl (by dsimp only [putV, List.set]) ?_
  refine wstepN rfl (TB1_hit) (by dsimp only [putV, List.set]) ?_
  refine wstepN rfl rfl (by dsimp only [putV, List.set]) ?_
  refine wnil (Ok.ret ⟨fun _ h => (by cases h), _, rfl, rfl⟩)

inductive P51 : FuncId → List V → V → Prop
  | par (s : List UInt8) (h : s.length ≤ 100000) : P51 40 [T s] (T (parentB s))
theorem P51_u : Uniq P51 := fun f vs v v' h h' => by cases h <;> cases h' <;> rfl
theorem P51_good : Good Tryd.prog (TabP P51) := TabP_good fun f vs v h => by
  cases h with
  | par s h => exact ⟨rparent40 s h, rfl, rfl, Tryd.call40⟩
theorem rholds51 (l : List Fl) (p : List UInt8) (hl : l.length ≤ 100000) (hp : ∀ f ∈ l, f.path.length ≤ 100000) : FnOk Tryd.prog 51 [.sl (rowsF l), T p] [] (fun r bs' => fr bs' r = bV (holdsF l p)) := by
  refine FnOk.fast (Q := fun r => r = bV (holdsF l p)) layOk Tryd.func51 rfl ?_
  have hT := P51_good
  have hU := P51_u
  rw [holds_is]
  obtain ⟨N, hN⟩ : ∃ N, l.length = N := ⟨_, rfl⟩
  refine Ok.seq (go 10 rfl ?_)
  refine Ok.seq (Ok.seq (go 10 rfl ?_))
  refine Ok.gc (bs2 := []) [] [0, 1, 5] (by kernel_rfl) (by decide) (floor_ok rfl) ?_
  refine Ok.count N (fun k ts bs => (l.take k).any (kidF p) = false ∧ k ≤ N ∧ bs = [] ∧ ts = (((List.replicate 28 V.gone).set 0 (.sl (rowsF l))).set 1 (T p)).set 5 (iV (k : Int))) ?_ ?_
  · exact ⟨rfl, Nat.zero_le _, rfl, rfl⟩
  rintro k _ _ ⟨hno, hk, rfl, rfl⟩
  simp only [List.replicate, List.set]
  refine Ok.seq (Ok.seq ?_)
  cases hlt : decide (k < N)
  · refine Ok.regionW (G := fun _ => true) (C := TabP _) mixed layOk noT TabP_calm (.inl rfl) ?_
    refine wstepN rfl rfl (by dsimp only [putV, List.set]) ?_
    refine wstepN rfl rfl (by dsimp only [putV, List.set]) ?_
    first
      | refine wstepN rfl (lenF hN rfl rfl) (by dsimp only [putV, List.set]) ?_
      | refine wstepN rfl (lenF hM rfl rfl) (by dsimp only [putV, List.set]) ?_
      | refine wstepN rfl (lenF (by assumption) rfl rfl) (by dsimp only [putV, List.set]) ?_
      | refine wstepN rfl rfl (by dsimp only [putV, List.set]) ?_
    first
      | refine wstepN rfl (ltT hlt rfl rfl) (by dsimp only [putV, List.set]) ?_
      | refine wstepN rfl (ltT (by assumption) rfl rfl) (by dsimp only [putV, List.set]) ?_
      | refine wstepN rfl (lssK (by assumption) rfl rfl) (by dsimp only [putV, List.set]) ?_
      | refine wstepN rfl rfl (by dsimp only [putV, List.set]) ?_
    refine wnil (Ok.cond (b := false) rfl (fun h => by cases h) (fun _ => ?_))
    refine Ok.exit ?_
    have := of_decide_eq_false hlt
    rw [List.take_of_length_le (by omega)] at hno
    rw [hno]
    exact go 10 rfl ⟨fun _ h => (by cases h), _, rfl, rfl⟩
  · have hlt' : k < N := of_decide_eq_true hlt
    obtain ⟨f, hf⟩ : ∃ f, l[k]? = some f := ⟨_, List.getElem?_eq_getElem (by omega)⟩
    have hget := rowsF_at hf
    have hnext := take_anyF (q := kidF p) hf
    have hmem := List.mem_of_getElem? hf
    have hpa : P51 40 [T f.path] (T (parentB f.path)) := .par _ (hp f hmem)
    refine Ok.regionW (G := fun _ => true) (C := TabP _) mixed layOk noT TabP_calm (.inl rfl) ?_
    refine wstepN rfl rfl (by dsimp only [putV, List.set]) ?_
    refine wstepN rfl rfl (by dsimp only [putV, List.set]) ?_
    first
      | refine wstepN rfl (lenF hN rfl rfl) (by dsimp only [putV, List.set]) ?_
      | refine wstepN rfl (lenF hM rfl rfl) (by dsimp only [putV, List.set]) ?_
      | refine wstepN rfl (lenF (by assumption) rfl rfl) (by dsimp only [putV, List.set]) ?_
      | refine wstepN rfl rfl (by dsimp only [putV, List.set]) ?_
    first
      | refine wstepN rfl (ltT hlt rfl rfl) (by dsimp only [putV, List.set]) ?_
      | refine wstepN rfl (ltT (by assumption) rfl rfl) (by dsimp only [putV, List.set]) ?_
      | refine wstepN rfl (lssK (by assumption) rfl rfl) (by dsimp only [putV, List.set]) ?_
      | refine wstepN rfl rfl (by dsimp only [putV, List.set]) ?_
    refine wnil (Ok.cond (b := true) rfl (fun _ => ?_) (fun h => by cases h))
    refine Ok.skip ?_
    refine Ok.after (Ok.seq (Ok.block (Ok.seq ?_)))
    cases hq : decide (f.path = [47])
    · cases hv : decide (parentB f.path = p)
      · refine Ok.regionW (G := fun _ => true) (C := TabP _) mixed layOk hT TabP_calm (.inl rfl) ?_
        refine wstepN rfl rfl (by dsimp only [putV, List.set]) ?_
        refine wstepN rfl rfl (by dsimp only [putV, List.set]) ?_
        first
          | refine wstepN rfl (ev_ix rfl rfl rfl (by assumption) rfl) (by dsimp only [putV, List.set]) ?_
          | refine wstepN rfl rfl (by dsimp only [putV, List.set]) ?_
        refine wstepN rfl rfl (by dsimp only [putV, List.set]) ?_
        first
          | refine wstepN rfl (ldT rfl rfl) (by dsimp only [putV, List.set]) ?_
          | refine wstepN rfl (ldE rfl rfl) (by dsimp only [putV, List.set]) ?_
          | refine wstepN rfl rfl (by dsimp only [putV, List.set]) ?_
        first
          | refine wstepN rfl (neqT (by assumption) rfl rfl) (by dsimp only [putV, List.set]) ?_
          | refine wstepN rfl rfl (by dsimp only [putV, List.set]) ?_
        refine wstepN rfl rfl (by dsimp only [putV, List.set]) ?_
        first
          | refine wskipN rfl (by dsimp only [putV, List.set]) ?_
          | refine wstepN rfl rfl (by dsimp only [putV, List.set]) ?_
        first
          | refine wskipN rfl (by dsimp only [putV, List.set]) ?_
          | refine wstepN rfl rfl (by dsimp only [putV, List.set]) ?_
        first
          | refine wskipN rfl (by dsimp only [putV, List.set]) ?_
          | refine wstepN rfl (ev_ix rfl rfl rfl (by assumption) rfl) (by dsimp only [putV, List.set]) ?_
          | refine wstepN rfl rfl (by dsimp only [putV, List.set]) ?_
        first
          | refine wskipN rfl (by dsimp only [putV, List.set]) ?_
          | refine wstepN rfl rfl (by dsimp only [putV, List.set]) ?_
        first
          | refine wskipN rfl (by dsimp only [putV, List.set]) ?_
          | refine wstepN rfl (ldT rfl rfl) (by dsimp only [putV, List.set]) ?_
          | refine wstepN rfl (ldE rfl rfl) (by dsimp only [putV, List.set]) ?_
          | refine wstepN rfl rfl (by dsimp only [putV, List.set]) ?_
        first
          | refine wskipN rfl (by dsimp only [putV, List.set]) ?_
          | refine wstepN rfl (hit40 (by first | assumption | omega)) (by dsimp only [putV, List.set]) ?_
          | refine wstepN rfl (T1_hit) (by dsimp only [putV, List.set]) ?_
          | refine wstepN rfl (TabP_use (by assumption) (by assumption)) (by dsimp only [putV, List.set]) ?_
          | refine wstepN rfl (TabP_hit (fun v' h => by cases h; rfl) (by assumption)) (by dsimp only [putV, List.set]) ?_
          | refine wstepN rfl (TabP_hit (fun v' h => by cases h; rfl) (by constructor)) (by dsimp only [putV, List.set]) ?_
          | refine wstepN rfl rfl (by dsimp only [putV, List.set]) ?_
        first
          | refine wskipN rfl (by dsimp only [putV, List.set]) ?_
          | refine wstepN rfl rfl (by dsimp only [putV, List.set]) ?_
        first
          | refine wskipN rfl (by dsimp only [putV, List.set]) ?_
          | refine wstepN rfl (eqT (by assumption) rfl rfl) (by dsimp only [putV, List.set]) ?_
          | refine wstepN rfl rfl (by dsimp only [putV, List.set]) ?_
        refine wstepN rfl rfl (by dsimp only [putV, List.set]) ?_
        refine wnil (Ok.cond (b := false) rfl (fun h => by cases h) (fun _ => ?_))
        refine Ok.skip ?_
        refine Ok.regionW (G := fun _ => true) (C := TabP _) mixed layOk noT TabP_calm (.inl rfl) ?_
        refine wstepN rfl rfl (by dsimp only [putV, List.set]) ?_
        first
          | refine wstepN rfl (incT (by omega) rfl rfl) (by dsimp only [putV, List.set]) ?_
          | refine wstepN rfl (addK (by assumption) rfl rfl) (by dsimp only [putV, List.set]) ?_
          | refine wstepN rfl rfl (by dsimp only [putV, List.set]) ?_
        refine wstepN rfl rfl (by dsimp only [putV, List.set]) ?_
        refine wnil ⟨[], [0, 1, 5], [], by kernel_rfl, by decide, floor_ok rfl, hlt', by rw [hnext, hno, kidF, hq, hv]; rfl, hlt', rfl, rfl⟩
      · rw [show l.any (kidF p) = true from List.any_eq_true.2 ⟨f, hmem, by rw [kidF, hq, hv]; rfl⟩]
        refine Ok.regionW (G := fun _ => true) (C := TabP _) mixed layOk hT TabP_calm (.inl rfl) ?_
        refine wstepN rfl rfl (by dsimp only [putV, List.set]) ?_
        refine wstepN rfl rfl (by dsimp only [putV, List.set]) ?_
        first
          | refine wstepN rfl (ev_ix rfl rfl rfl (by assumption) rfl) (by dsimp only [putV, List.set]) ?_
          | refine wstepN rfl rfl (by dsimp only [putV, List.set]) ?_
        refine wstepN rfl rfl (by dsimp only [putV, List.set]) ?_
        first
          | refine wstepN rfl (ldT rfl rfl) (by dsimp only [putV, List.set]) ?_
          | refine wstepN rfl (ldE rfl rfl) (by dsimp only [putV, List.set]) ?_
          | refine wstepN rfl rfl (by dsimp only [putV, List.set]) ?_
        first
          | refine wstepN rfl (neqT (by assumption) rfl rfl) (by dsimp only [putV, List.set]) ?_
          | refine wstepN rfl rfl (by dsimp only [putV, List.set]) ?_
        refine wstepN rfl rfl (by dsimp only [putV, List.set]) ?_
        first
          | refine wskipN rfl (by dsimp only [putV, List.set]) ?_
          | refine wstepN rfl rfl (by dsimp only [putV, List.set]) ?_
        first
          | refine wskipN rfl (by dsimp only [putV, List.set]) ?_
          | refine wstepN rfl rfl (by dsimp only [putV, List.set]) ?_
        first
          | refine wskipN rfl (by dsimp only [putV, List.set]) ?_
          | refine wstepN rfl (ev_ix rfl rfl rfl (by assumption) rfl) (by dsimp only [putV, List.set]) ?_
          | refine wstepN rfl rfl (by dsimp only [putV, List.set]) ?_
        first
          | refine wskipN rfl (by dsimp only [putV, List.set]) ?_
          | refine wstepN rfl rfl (by dsimp only [putV, List.set]) ?_
        first
          | refine wskipN rfl (by dsimp only [putV, List.set]) ?_
          | refine wstepN rfl (ldT rfl rfl) (by dsimp only [putV, List.set]) ?_
          | refine wstepN rfl (ldE rfl rfl) (by dsimp only [putV, List.set]) ?_
          | refine wstepN rfl rfl (by dsimp only [putV, List.set]) ?_
        first
          | refine wskipN rfl (by dsimp only [putV, List.set]) ?_
          | refine wstepN rfl (hit40 (by first | assumption | omega)) (by dsimp only [putV, List.set]) ?_
          | refine wstepN rfl (T1_hit) (by dsimp only [putV, List.set]) ?_
          | refine wstepN rfl (TabP_use (by assumption) (by assumption)) (by dsimp only [putV, List.set]) ?_
          | refine wstepN rfl (TabP_hit (fun v' h => by cases h; rfl) (by assumption)) (by dsimp only [putV, List.set]) ?_
          | refine wstepN rfl (TabP_hit (fun v' h => by cases h; rfl) (by constructor)) (by dsimp only [putV, List.set]) ?_
          | refine wstepN rfl rfl (by dsimp only [putV, List.set]) ?_
        first
          | refine wskipN rfl (by dsimp only [putV, List.set]) ?_
          | refine wstepN rfl rfl (by dsimp only [putV, List.set]) ?_
        first
          | refine wskipN rfl (by dsimp only [putV, List.set]) ?_
          | refine wstepN rfl (eqT (by assumption) rfl rfl) (by dsimp only [putV, List.set]) ?_
          | refine wstepN rfl rfl (by dsimp only [putV, List.set]) ?_
        refine wstepN rfl rfl (by dsimp only [putV, List.set]) ?_
        refine wnil (Ok.cond (b := true) rfl (fun _ => ?_) (fun h => by cases h))
        refine Ok.seq (Ok.regionW (G := fun _ => true) (C := TabP _) mixed layOk noT TabP_calm (.inl rfl) ?_)
        refine wstepN rfl rfl (by dsimp only [putV, List.set]) ?_
        refine wnil (Ok.ret ?_)
        exact ⟨[], [4], [], by kernel_rfl, by decide, floor_ok rfl, fun _ h => (by cases h), _, rfl, rfl⟩
    · refine Ok.regionW (G := fun _ => true) (C := TabP _) mixed layOk hT TabP_calm (.inl rfl) ?_
      refine wstepN rfl rfl (by dsimp only [putV, List.set]) ?_
      refine wstepN rfl rfl (by dsimp only [putV, List.set]) ?_
      first
        | refine wstepN rfl (ev_ix rfl rfl rfl (by assumption) rfl) (by dsimp only [putV, List.set]) ?_
        | refine wstepN rfl rfl (by dsimp only [putV, List.set]) ?_
      refine wstepN rfl rfl (by dsimp only [putV, List.set]) ?_
      first
        | refine wstepN rfl (ldT rfl rfl) (by dsimp only [putV, List.set]) ?_
        | refine wstepN rfl (ldE rfl rfl) (by dsimp only [putV, List.set]) ?_
        | refine wstepN rfl rfl (by dsimp only [putV, List.set]) ?_
      first
        | refine wstepN rfl (neqT (by assumption) rfl rfl) (by dsimp only [putV, List.set]) ?_
        | refine wstepN rfl rfl (by dsimp only [putV, List.set]) ?_
      refine wstepN rfl rfl (by dsimp only [putV, List.set]) ?_
      first
        | refine wskipN rfl (by dsimp only [putV, List.set]) ?_
        | refine wstepN rfl rfl (by dsimp only [putV, List.set]) ?_
      first
        | refine wskipN rfl (by dsimp only [putV, List.set]) ?_
        | refine wstepN rfl rfl (by dsimp only [putV, List.set]) ?_
      first
        | refine wskipN rfl (by dsimp only [putV, List.set]) ?_
        | refine wstepN rfl (ev_ix rfl rfl rfl (by assumption) rfl) (by dsimp only [putV, List.set]) ?_
        | refine wstepN rfl rfl (by dsimp only [putV, List.set]) ?_
      first
        | refine wskipN rfl (by dsimp only [putV, List.set]) ?_
        | refine wstepN rfl rfl (by dsimp only [putV, List.set]) ?_
      first
        | refine wskipN rfl (by dsimp only [putV, List.set]) ?_
        | refine wstepN rfl (ldT rfl rfl) (by dsimp only [putV, List.set]) ?_
        | refine wstepN rfl (ldE rfl rfl) (by dsimp only [putV, List.set]) ?_
        | refine wstepN rfl rfl (by dsimp only [putV, List.set]) ?_
      first
        | refine wskipN rfl (by dsimp only [putV, List.set]) ?_
        | refine wstepN rfl (hit40 (by first | assumption | omega)) (by dsimp only [putV, List.set]) ?_
        | refine wstepN rfl (T1_hit) (by dsimp only [putV, List.set]) ?_
        | refine wstepN rfl (TabP_use (by assumption) (by assumption)) (by dsimp only [putV, List.set]) ?_
        | refine wstepN rfl (TabP_hit (fun v' h => by cases h; rfl) (by assumption)) (by dsimp only [putV, List.set]) ?_
        | refine wstepN rfl (TabP_hit (fun v' h => by cases h; rfl) (by constructor)) (by dsimp only [putV, List.set]) ?_
        | refine wstepN rfl rfl (by dsimp only [putV, List.set]) ?_
      first
        | refine wskipN rfl (by dsimp only [putV, List.set]) ?_
        | refine wstepN rfl rfl (by dsimp only [putV, List.set]) ?_
      first
        | refine wskipN rfl (by dsimp only [putV, List.set]) ?_
        | refine wstepN rfl (eqT (by assumption) rfl rfl) (by dsimp only [putV, List.set]) ?_
        | refine wstepN rfl rfl (by dsimp only [putV, List.set]) ?_
      refine wstepN rfl rfl (by dsimp only [putV, List.set]) ?_
      refine wnil (Ok.cond (b := false) rfl (fun h => by cases h) (fun _ => ?_))
      refine Ok.skip ?_
      refine Ok.regionW (G := fun _ => true) (C := TabP _) mixed layOk noT TabP_calm (.inl rfl) ?_
      refine wstepN rfl rfl (by dsimp only [putV, List.set]) ?_
      first
        | refine wstepN rfl (incT (by omega) rfl rfl) (by dsimp only [putV, List.set]) ?_
        | refine wstepN rfl (addK (by assumption) rfl rfl) (by dsimp only [putV, List.set]) ?_
        | refine wstepN rfl rfl (by dsimp only [putV, List.set]) ?_
      refine wstepN rfl rfl (by dsimp only [putV, List.set]) ?_
      refine wnil ⟨[], [0, 1, 5], [], by kernel_rfl, by decide, floor_ok rfl, hlt', by rw [hnext, hno, kidF, hq]; rfl, hlt', rfl, rfl⟩

section
variable {L : Lay} {C : CallT} {ts : List V} {bs : List Bx} {t t' : TypeId} {x y : Operand} {v : Bool}
theorem appF {s : Operand} {k k2 b : Nat} {done : List Fl} {f : Fl} {e2 : TypeId} (hl : done.length ≤ 1000000) (hb2 : b ≤ 1000) (hs0 : evO ts s = some (.row k)) (hx0 : evO ts x = some (.row k2)) (hs : L.sl t = some (45, 3)) (hb : L.byt 45 = some b) (h2 : bs[k2]? = some (.row e2 3 [rowF f])) (h1 : bs[k]? = some (.row 45 3 (rowsF done))) :
    evX L C (.call { callee := .builtin .append, args := #[s, x], argTypes := #[t, t] }) ts bs = some (.row bs.length, bs.set k .dead ++ [.row 45 3 (rowsF (done ++ [f]))]) := by
  have h5 : (done.length + 1) * b ≤ 140737488355328 := Nat.le_trans (Nat.mul_le_mul (show done.length + 1 ≤ 1000001 by omega) hb2) (by decide)
  have := ev_app (C := C) hs0 hx0 hs hb h2 rfl h1 (by rw [rowsF_len]; exact h5) (by rw [rowsF_len]; simp; omega)
  rw [this, rowsF, rowsF, List.map_append]
  rfl
theorem gtT {l l' : List UInt8} (h : leB l l' = v) (hx : evO ts x = some (T l)) (hy : evO ts y = some (T l')) : evX L C (.binOp .gtr t x y t') ts bs = some (bV !v, bs) := by
  have : (Op.bytesLess (B l).toList (B l').toList || (B l).toList == (B l').toList) = v := by
    rw [Lib.toList_data, Lib.toList_data, less_is, ← h]
    rfl
  simp only [evX, ev, hx, hy, evB, this, Option.map_some]
end
theorem ltB_leB (a b : List UInt8) : ltB a b = !leB b a := by
  cases h : leB b a
  · exact ltB_tri h
  · unfold leB at h
    simp only [Bool.or_eq_true, beq_iff_eq] at h
    rcases h with h | h
    · exact ltB_asymm h
    · rw [h]; exact ltB_irrefl a

theorem rwithout48 (l : List Fl) (p : List UInt8) (hl : l.length ≤ 100000) : FnOk Tryd.prog 48 [.sl (rowsF l), T p] [] (fun r bs' => fr bs' r = .sl (rowsF (withoutF l p))) := by
  refine FnOk.fast (Q := fun r => r = .sl (rowsF (withoutF l p))) layOk Tryd.func48 rfl ?_
  obtain ⟨N, hN⟩ : ∃ N, l.length = N := ⟨_, rfl⟩
  refine Ok.seq (go 10 rfl ?_)
  refine Ok.seq (go 10 rfl ?_)
  refine Ok.nilT 5 45 3 rfl ?_
  refine Ok.seq (Ok.seq (go 10 rfl ?_))
  refine Ok.gc (bs2 := [.row 45 3 []]) [0] [0, 1, 5, 6] (by kernel_rfl) (by decide) (floor_ok rfl) ?_
  refine Ok.count N (fun k ts bs => k ≤ N ∧ bs = [.row 45 3 (rowsF (withoutF (l.take k) p))] ∧ ts = ((((List.replicate 28 V.gone).set 0 (.sl (rowsF l))).set 1 (T p)).set 5 (.row 0)).set 6 (iV (k : Int))) ?_ ?_
  · exact ⟨Nat.zero_le _, rfl, rfl⟩
  rintro k _ _ ⟨hk, rfl, rfl⟩
  simp only [List.replicate, List.set]
  refine Ok.seq (Ok.seq ?_)
  cases hlt : decide (k < N)
  · have := of_decide_eq_false hlt
    rw [List.take_of_length_le (by omega)]
    refine Ok.regionW (G := fun _ => true) (C := TabP _) mixed layOk noT TabP_calm (.inl rfl) ?_
    refine wstepN rfl rfl (by dsimp only [putV, List.set]) ?_
    refine wstepN rfl rfl (by dsimp only [putV, List.set]) ?_
    first
      | refine wstepN rfl (lenF hN rfl rfl) (by dsimp only [putV, List.set]) ?_
      | refine wstepN rfl (lenF hM rfl rfl) (by dsimp only [putV, List.set]) ?_
      | refine wstepN rfl (lenF (by assumption) rfl rfl) (by dsimp only [putV, List.set]) ?_
      | refine wstepN rfl rfl (by dsimp only [putV, List.set]) ?_
    first
      | refine wstepN rfl (ltT hlt rfl rfl) (by dsimp only [putV, List.set]) ?_
      | refine wstepN rfl (ltT (by assumption) rfl rfl) (by dsimp only [putV, List.set]) ?_
      | refine wstepN rfl (lssK (by assumption) rfl rfl) (by dsimp only [putV, List.set]) ?_
      | refine wstepN rfl rfl (by dsimp only [putV, List.set]) ?_
    refine wnil (Ok.cond (b := false) rfl (fun h => by cases h) (fun _ => ?_))
    refine Ok.exit ?_
    refine Ok.seq (Ok.regionW (G := fun _ => true) (C := TabP _) mixed layOk noT TabP_calm (.inl rfl) ?_)
    refine wstepN rfl rfl (by dsimp only [putV, List.set]) ?_
    refine wstepN rfl rfl (by dsimp only [putV, List.set]) ?_
    refine wnil (Ok.ret ⟨fun _ h => (by cases h), _, rfl, rfl⟩)
  · have hlt' : k < N := of_decide_eq_true hlt
    obtain ⟨f, hf⟩ : ∃ f, l[k]? = some f := ⟨_, List.getElem?_eq_getElem (by omega)⟩
    have hget := rowsF_at hf
    have hwl : (withoutF (l.take k) p).length ≤ 100000 := by
      have := List.length_filter_le (fun f => !decide (f.path = p)) (l.take k)
      unfold withoutF
      simp at this ⊢
      omega
    have htk : withoutF (l.take (k + 1)) p = withoutF (l.take k) p ++ (if f.path = p then [] else [f]) := by
      unfold withoutF
      rw [List.take_add_one, hf, List.filter_append]
      congr 1
      by_cases h : f.path = p <;> simp [h]
    refine Ok.regionW (G := fun _ => true) (C := TabP _) mixed layOk noT TabP_calm (.inl rfl) ?_
    refine wstepN rfl rfl (by dsimp only [putV, List.set]) ?_
    refine wstepN rfl rfl (by dsimp only [putV, List.set]) ?_
    first
      | refine wstepN rfl (lenF hN rfl rfl) (by dsimp only [putV, List.set]) ?_
      | refine wstepN rfl (lenF hM rfl rfl) (by dsimp only [putV, List.set]) ?_
      | refine wstepN rfl (lenF (by assumption) rfl rfl) (by dsimp only [putV, List.set]) ?_
      | refine wstepN rfl rfl (by dsimp only [putV, List.set]) ?_
    first
      | refine wstepN rfl (ltT hlt rfl rfl) (by dsimp only [putV, List.set]) ?_
      | refine wstepN rfl (ltT (by assumption) rfl rfl) (by dsimp only [putV, List.set]) ?_
      | refine wstepN rfl (lssK (by assumption) rfl rfl) (by dsimp only [putV, List.set]) ?_
      | refine wstepN rfl rfl (by dsimp only [putV, List.set]) ?_
    refine wnil (Ok.cond (b := true) rfl (fun _ => ?_) (fun h => by cases h))
    refine Ok.skip ?_
    refine Ok.after (Ok.seq (Ok.block (Ok.seq ?_)))
    cases hq : decide (f.path = p)
    · rw [if_neg (of_decide_eq_false hq)] at htk
      refine Ok.regionW (G := fun _ => true) (C := TabP _) mixed layOk noT TabP_calm (.inl rfl) ?_
      refine wstepN rfl rfl (by dsimp only [putV, List.set]) ?_
      refine wstepN rfl rfl (by dsimp only [putV, List.set]) ?_
      first
        | refine wstepN rfl (ev_ix rfl rfl rfl (by assumption) rfl) (by dsimp only [putV, List.set]) ?_
        | refine wstepN rfl rfl (by dsimp only [putV, List.set]) ?_
      refine wstepN rfl rfl (by dsimp only [putV, List.set]) ?_
      first
        | refine wstepN rfl (ldT rfl rfl) (by dsimp only [putV, List.set]) ?_
        | refine wstepN rfl (ldE rfl rfl) (by dsimp only [putV, List.set]) ?_
        | refine wstepN rfl rfl (by dsimp only [putV, List.set]) ?_
      refine wstepN rfl rfl (by dsimp only [putV, List.set]) ?_
      first
        | refine wstepN rfl (neqT (by assumption) rfl rfl) (by dsimp only [putV, List.set]) ?_
        | refine wstepN rfl rfl (by dsimp only [putV, List.set]) ?_
      refine wnil (Ok.cond (b := true) rfl (fun _ => ?_) (fun h => by cases h))
      refine Ok.regionW (G := fun _ => true) (C := TabP _) mixed layOk noT TabP_calm (.inl rfl) ?_
      refine wstepN rfl rfl (by dsimp only [putV, List.set]) ?_
      refine wstepN rfl rfl (by dsimp only [putV, List.set]) ?_
      refine wstepN rfl rfl (by dsimp only [putV, List.set]) ?_
      first
        | refine wstepN rfl (ev_ix rfl rfl rfl (by assumption) rfl) (by dsimp only [putV, List.set]) ?_
        | refine wstepN rfl rfl (by dsimp only [putV, List.set]) ?_
      first
        | refine wstepN rfl (ldF rfl rfl) (by dsimp only [putV, List.set]) ?_
        | refine wstepN rfl rfl (by dsimp only [putV, List.set]) ?_
      refine wstepN rfl rfl (by dsimp only [putV, List.set]) ?_
      refine wstepN rfl (appF (done := withoutF (l.take k) p) (f := f) (by omega) (by decide) rfl rfl rfl rfl rfl rfl) (by dsimp only [putV, List.set]) ?_
      refine wstepN rfl rfl (by dsimp only [putV, List.set]) ?_
      refine wnil ?_
      refine Ok.regionW (G := fun _ => true) (C := TabP _) mixed layOk noT TabP_calm (.inl rfl) ?_
      refine wstepN rfl rfl (by dsimp only [putV, List.set]) ?_
      first
        | refine wstepN rfl (incT (by omega) rfl rfl) (by dsimp only [putV, List.set]) ?_
        | refine wstepN rfl (addK (by assumption) rfl rfl) (by dsimp only [putV, List.set]) ?_
        | refine wstepN rfl rfl (by dsimp only [putV, List.set]) ?_
      refine wstepN rfl rfl (by dsimp only [putV, List.set]) ?_
      refine wnil ⟨[2], [0, 1, 5, 6], [.row 45 3 (rowsF (withoutF (l.take (k + 1)) p))], by rw [htk]; kernel_rfl, by decide, floor_ok rfl, hlt', hlt', rfl, rfl⟩
    · rw [if_pos (of_decide_eq_true hq), List.append_nil] at htk
      refine Ok.regionW (G := fun _ => true) (C := TabP _) mixed layOk noT TabP_calm (.inl rfl) ?_
      refine wstepN rfl rfl (by dsimp only [putV, List.set]) ?_
      refine wstepN rfl rfl (by dsimp only [putV, List.set]) ?_
      first
        | refine wstepN rfl (ev_ix rfl rfl rfl (by assumption) rfl) (by dsimp only [putV, List.set]) ?_
        | refine wstepN rfl rfl (by dsimp only [putV, List.set]) ?_
      refine wstepN rfl rfl (by dsimp only [putV, List.set]) ?_
      first
        | refine wstepN rfl (ldT rfl rfl) (by dsimp only [putV, List.set]) ?_
        | refine wstepN rfl (ldE rfl rfl) (by dsimp only [putV, List.set]) ?_
        | refine wstepN rfl rfl (by dsimp only [putV, List.set]) ?_
      refine wstepN rfl rfl (by dsimp only [putV, List.set]) ?_
      first
        | refine wstepN rfl (neqT (by assumption) rfl rfl) (by dsimp only [putV, List.set]) ?_
        | refine wstepN rfl rfl (by dsimp only [putV, List.set]) ?_
      refine wnil (Ok.cond (b := false) rfl (fun h => by cases h) (fun _ => ?_))
      refine Ok.skip ?_
      refine Ok.regionW (G := fun _ => true) (C := TabP _) mixed layOk noT TabP_calm (.inl rfl) ?_
      refine wstepN rfl rfl (by dsimp only [putV, List.set]) ?_
      first
        | refine wstepN rfl (incT (by omega) rfl rfl) (by dsimp only [putV, List.set]) ?_
        | refine wstepN rfl (addK (by assumption) rfl rfl) (by dsimp only [putV, List.set]) ?_
        | refine wstepN rfl rfl (by dsimp only [putV, List.set]) ?_
      refine wstepN rfl rfl (by dsimp only [putV, List.set]) ?_
      refine wnil ⟨[0], [0, 1, 5, 6], [.row 45 3 (rowsF (withoutF (l.take (k + 1)) p))], by rw [htk]; kernel_rfl, by decide, floor_ok rfl, hlt', hlt', rfl, rfl⟩

end Go.Proofs.YtiefcnghjcafbaaDoorV

/- Lists of files: the reference's insert. -/
namespace Go.Proofs.YtiefcnghjcafbaaDoorV
open Go Go.RowKit Go.Proofs.YtiefcnghjcafbaaDoor
set_option maxRecDepth 20000
set_option maxHeartbeats 1000000

theorem rinsert47 (l : List Fl) (f : Fl) (hl : l.length ≤ 100000) : FnOk Tryd.prog 47 [.sl (rowsF l), valF f] [] (fun r bs' => fr bs' r = .sl (rowsF (insR l f))) := by
  refine FnOk.fast (Q := fun r => r = .sl (rowsF (insR l f))) layOk Tryd.func47 rfl ?_
  obtain ⟨N, hN⟩ : ∃ N, l.length = N := ⟨_, rfl⟩
  refine Ok.seq (go 10 rfl ?_)
  refine Ok.seq (go 10 rfl ?_)
  refine Ok.nilT 5 45 3 rfl ?_
  refine Ok.seq (go 10 rfl ?_)
  refine Ok.seq (Ok.seq (go 10 rfl ?_))
  refine Ok.gc (bs2 := [.cells (cellsF f), .row 45 3 []]) [0, 1] [0, 3, 5, 6, 7] (by kernel_rfl) (by decide) (floor_ok rfl) ?_
  refine Ok.count N (fun k ts bs => ∃ out dn, insR l f = out ++ (if dn = true then l.drop k else insR (l.drop k) f) ∧ out.length ≤ k + 1 ∧ (dn = false → out.length ≤ k) ∧ k ≤ N ∧ bs = [.cells (cellsF f), .row 45 3 (rowsF out)] ∧ ts = (((((List.replicate 44 V.gone).set 0 (.sl (rowsF l))).set 3 (.ptr 0 0)).set 5 (.row 1)).set 6 (bV dn)).set 7 (iV (k : Int))) ?_ ?_
  · exact ⟨[], false, rfl, Nat.zero_le _, fun _ => Nat.zero_le _, Nat.zero_le _, rfl, rfl⟩
  rintro k _ _ ⟨out, dn, hins, hol, hol2, hk, rfl, rfl⟩
  simp only [List.replicate, List.set]
  refine Ok.seq (Ok.seq ?_)
  cases hlt : decide (k < N)
  · have hge := of_decide_eq_false hlt
    rw [List.drop_of_length_le (by omega)] at hins
    refine Ok.regionW (G := fun _ => true) (C := TabP _) mixed layOk noT TabP_calm (.inl rfl) ?_
    refine wstepN rfl rfl (by dsimp only [putV, List.set]) ?_
    refine wstepN rfl rfl (by dsimp only [putV, List.set]) ?_
    first
      | refine wstepN rfl (lenF hN rfl rfl) (by dsimp only [putV, List.set]) ?_
      | refine wstepN rfl (lenF hM rfl rfl) (by dsimp only [putV, List.set]) ?_
      | refine wstepN rfl (lenF (by assumption) rfl rfl) (by dsimp only [putV, List.set]) ?_
      | refine wstepN rfl rfl (by dsimp only [putV, List.set]) ?_
    first
      | refine wstepN rfl (ltT hlt rfl rfl) (by dsimp only [putV, List.set]) ?_
      | refine wstepN rfl (ltT (by assumption) rfl rfl) (by dsimp only [putV, List.set]) ?_
      | refine wstepN rfl (lssK (by assumption) rfl rfl) (by dsimp only [putV, List.set]) ?_
      | refine wstepN rfl rfl (by dsimp only [putV, List.set]) ?_
    refine wnil (Ok.cond (b := false) rfl (fun h => by cases h) (fun _ => ?_))
    refine Ok.exit ?_
    refine Ok.seq ?_
    cases dn
    · rw [if_neg (by simp), insR] at hins
      refine Ok.seq (Ok.regionW (G := fun _ => true) (C := TabP _) mixed layOk noT TabP_calm (.inl rfl) ?_)
      refine wstepN rfl rfl (by dsimp only [putV, List.set]) ?_
      refine wstepN rfl rfl (by dsimp only [putV, List.set]) ?_
      refine wnil (Ok.cond (b := true) rfl (fun _ => ?_) (fun h => by cases h))
      refine Ok.regionW (G := fun _ => true) (C := TabP _) mixed layOk noT TabP_calm (.inl rfl) ?_
      refine wstepN rfl rfl (by dsimp only [putV, List.set]) ?_
      first
        | refine wstepN rfl (ldF rfl rfl) (by dsimp only [putV, List.set]) ?_
        | refine wstepN rfl rfl (by dsimp only [putV, List.set]) ?_
      refine wstepN rfl rfl (by dsimp only [putV, List.set]) ?_
      refine wstepN rfl (appF (done := out) (f := f) (by omega) (by decide) rfl rfl rfl rfl rfl rfl) (by dsimp only [putV, List.set]) ?_
      refine wstepN rfl rfl (by dsimp only [putV, List.set]) ?_
      refine wnil ?_
      rw [hins]
      refine Ok.seq (Ok.regionW (G := fun _ => true) (C := TabP _) mixed layOk noT TabP_calm (.inl rfl) ?_)
      refine wstepN rfl rfl (by dsimp only [putV, List.set]) ?_
      refine wstepN rfl rfl (by dsimp only [putV, List.set]) ?_
      refine wnil (Ok.ret ⟨fun _ h => (by cases h), _, rfl, rfl⟩)
    · rw [if_pos rfl, List.append_nil] at hins
      refine Ok.seq (Ok.regionW (G := fun _ => true) (C := TabP _) mixed layOk noT TabP_calm (.inl rfl) ?_)
      refine wstepN rfl rfl (by dsimp only [putV, List.set]) ?_
      refine wstepN rfl rfl (by dsimp only [putV, List.set]) ?_
      refine wnil (Ok.cond (b := false) rfl (fun h => by cases h) (fun _ => ?_))
      refine Ok.skip ?_
      rw [hins]
      refine Ok.seq (Ok.regionW (G := fun _ => true) (C := TabP _) mixed layOk noT TabP_calm (.inl rfl) ?_)
      refine wstepN rfl rfl (by dsimp only [putV, List.set]) ?_
      refine wstepN rfl rfl (by dsimp only [putV, List.set]) ?_
      refine wnil (Ok.ret ⟨fun _ h => (by cases h), _, rfl, rfl⟩)
  · have hlt' : k < N := of_decide_eq_true hlt
    obtain ⟨g, hg⟩ : ∃ g, l[k]? = some g := ⟨_, List.getElem?_eq_getElem (by omega)⟩
    have hget := rowsF_at hg
    have hdr : l.drop k = g :: l.drop (k + 1) := by
      obtain ⟨h1, h2⟩ := List.getElem?_eq_some_iff.1 hg
      rw [List.drop_eq_getElem_cons h1, h2]
    rw [hdr] at hins
    refine Ok.regionW (G := fun _ => true) (C := TabP _) mixed layOk noT TabP_calm (.inl rfl) ?_
    refine wstepN rfl rfl (by dsimp only [putV, List.set]) ?_
    refine wstepN rfl rfl (by dsimp only [putV, List.set]) ?_
    first
      | refine wstepN rfl (lenF hN rfl rfl) (by dsimp only [putV, List.set]) ?_
      | refine wstepN rfl (lenF hM rfl rfl) (by dsimp only [putV, List.set]) ?_
      | refine wstepN rfl (lenF (by assumption) rfl rfl) (by dsimp only [putV, List.set]) ?_
      | refine wstepN rfl rfl (by dsimp only [putV, List.set]) ?_
    first
      | refine wstepN rfl (ltT hlt rfl rfl) (by dsimp only [putV, List.set]) ?_
      | refine wstepN rfl (ltT (by assumption) rfl rfl) (by dsimp only [putV, List.set]) ?_
      | refine wstepN rfl (lssK (by assumption) rfl rfl) (by dsimp only [putV, List.set]) ?_
      | refine wstepN rfl rfl (by dsimp only [putV, List.set]) ?_
    refine wnil (Ok.cond (b := true) rfl (fun _ => ?_) (fun h => by cases h))
    refine Ok.skip ?_
    refine Ok.after (Ok.seq (Ok.block ?_))
    refine Ok.seq (Ok.mono (Q := fun e ts bs => e = .normal ∧ ∃ out1 dn1, insR l f = out1 ++ g :: (if dn1 = true then l.drop (k + 1) else insR (l.drop (k + 1)) f) ∧ out1.length ≤ k + 1 ∧ (dn1 = false → out1.length ≤ k) ∧ bs = [.cells (cellsF f), .row 45 3 (rowsF out1)] ∧ ts = (((((List.replicate 44 V.gone).set 0 (.sl (rowsF l))).set 3 (.ptr 0 0)).set 5 (.row 1)).set 6 (bV dn1)).set 7 (iV (k : Int))) (Ok.after ?_) ?_)
    · refine Ok.seq ?_
      cases dn
      · rw [if_neg (by simp), insR] at hins
        cases hq : leB g.path f.path
        · rw [if_pos (by rw [ltB_leB, hq]; rfl)] at hins
          refine Ok.regionW (G := fun _ => true) (C := TabP _) mixed layOk noT TabP_calm (.inr ⟨by kernel_rfl, by kernel_rfl⟩) ?_
          refine wstepN rfl rfl (by dsimp only [putV, List.set]) ?_
          refine wstepN rfl rfl (by dsimp only [putV, List.set]) ?_
          refine wstepN rfl rfl (by dsimp only [putV, List.set]) ?_
          first
            | refine wskipN rfl (by dsimp only [putV, List.set]) ?_
            | refine wstepN rfl rfl (by dsimp only [putV, List.set]) ?_
          first
            | refine wskipN rfl (by dsimp only [putV, List.set]) ?_
            | refine wstepN rfl rfl (by dsimp only [putV, List.set]) ?_
          first
            | refine wskipN rfl (by dsimp only [putV, List.set]) ?_
            | refine wstepN rfl (ev_ix rfl rfl rfl (by assumption) rfl) (by dsimp only [putV, List.set]) ?_
            | refine wstepN rfl rfl (by dsimp only [putV, List.set]) ?_
          first
            | refine wskipN rfl (by dsimp only [putV, List.set]) ?_
            | refine wstepN rfl rfl (by dsimp only [putV, List.set]) ?_
          first
            | refine wskipN rfl (by dsimp only [putV, List.set]) ?_
            | refine wstepN rfl (ldT rfl rfl) (by dsimp only [putV, List.set]) ?_
            | refine wstepN rfl (ldE rfl rfl) (by dsimp only [putV, List.set]) ?_
            | refine wstepN rfl rfl (by dsimp only [putV, List.set]) ?_
          first
            | refine wskipN rfl (by dsimp only [putV, List.set]) ?_
            | refine wstepN rfl rfl (by dsimp only [putV, List.set]) ?_
          first
            | refine wskipN rfl (by dsimp only [putV, List.set]) ?_
            | refine wstepN rfl (ldT rfl rfl) (by dsimp only [putV, List.set]) ?_
            | refine wstepN rfl (ldE rfl rfl) (by dsimp only [putV, List.set]) ?_
            | refine wstepN rfl rfl (by dsimp only [putV, List.set]) ?_
          first
            | refine wskipN rfl (by dsimp only [putV, List.set]) ?_
            | refine wstepN rfl (gtT (by assumption) rfl rfl) (by dsimp only [putV, List.set]) ?_
            | refine wstepN rfl rfl (by dsimp only [putV, List.set]) ?_
          refine wstepN rfl rfl (by dsimp only [putV, List.set]) ?_
          refine wnil (Ok.cond (b := true) rfl (fun _ => ?_) (fun h => by cases h))
          refine Ok.seq (Ok.regionW (G := fun _ => true) (C := TabP _) mixed layOk noT TabP_calm (.inl rfl) ?_)
          refine wstepN rfl rfl (by dsimp only [putV, List.set]) ?_
          first
            | refine wstepN rfl (ldF rfl rfl) (by dsimp only [putV, List.set]) ?_
            | refine wstepN rfl rfl (by dsimp only [putV, List.set]) ?_
          refine wstepN rfl rfl (by dsimp only [putV, List.set]) ?_
          refine wstepN rfl (appF (done := out) (f := f) (by omega) (by decide) rfl rfl rfl rfl rfl rfl) (by dsimp only [putV, List.set]) ?_
          refine wstepN rfl rfl (by dsimp only [putV, List.set]) ?_
          refine wnil ?_
          refine Ok.regionW (G := fun _ => true) (C := TabP _) mixed layOk noT TabP_calm (.inl rfl) ?_
          refine wstepN rfl rfl (by dsimp only [putV, List.set]) ?_
          refine wnil ⟨[0, 3], [0, 3, 5, 6, 7], _, rfl, by decide, floor_ok rfl, rfl, out ++ [f], true, by rw [hins]; simp, by have := hol2 rfl; simp; omega, (fun h => by cases h), rfl, rfl⟩
        · rw [if_neg (by rw [ltB_leB, hq]; simp)] at hins
          refine Ok.regionW (G := fun _ => true) (C := TabP _) mixed layOk noT TabP_calm (.inr ⟨by kernel_rfl, by kernel_rfl⟩) ?_
          refine wstepN rfl rfl (by dsimp only [putV, List.set]) ?_
          refine wstepN rfl rfl (by dsimp only [putV, List.set]) ?_
          refine wstepN rfl rfl (by dsimp only [putV, List.set]) ?_
          first
            | refine wskipN rfl (by dsimp only [putV, List.set]) ?_
            | refine wstepN rfl rfl (by dsimp only [putV, List.set]) ?_
          first
            | refine wskipN rfl (by dsimp only [putV, List.set]) ?_
            | refine wstepN rfl rfl (by dsimp only [putV, List.set]) ?_
          first
            | refine wskipN rfl (by dsimp only [putV, List.set]) ?_
            | refine wstepN rfl (ev_ix rfl rfl rfl (by assumption) rfl) (by dsimp only [putV, List.set]) ?_
            | refine wstepN rfl rfl (by dsimp only [putV, List.set]) ?_
          first
            | refine wskipN rfl (by dsimp only [putV, List.set]) ?_
            | refine wstepN rfl rfl (by dsimp only [putV, List.set]) ?_
          first
            | refine wskipN rfl (by dsimp only [putV, List.set]) ?_
            | refine wstepN rfl (ldT rfl rfl) (by dsimp only [putV, List.set]) ?_
            | refine wstepN rfl (ldE rfl rfl) (by dsimp only [putV, List.set]) ?_
            | refine wstepN rfl rfl (by dsimp only [putV, List.set]) ?_
          first
            | refine wskipN rfl (by dsimp only [putV, List.set]) ?_
            | refine wstepN rfl rfl (by dsimp only [putV, List.set]) ?_
          first
            | refine wskipN rfl (by dsimp only [putV, List.set]) ?_
            | refine wstepN rfl (ldT rfl rfl) (by dsimp only [putV, List.set]) ?_
            | refine wstepN rfl (ldE rfl rfl) (by dsimp only [putV, List.set]) ?_
            | refine wstepN rfl rfl (by dsimp only [putV, List.set]) ?_
          first
            | refine wskipN rfl (by dsimp only [putV, List.set]) ?_
            | refine wstepN rfl (gtT (by assumption) rfl rfl) (by dsimp only [putV, List.set]) ?_
            | refine wstepN rfl rfl (by dsimp only [putV, List.set]) ?_
          refine wstepN rfl rfl (by dsimp only [putV, List.set]) ?_
          refine wnil (Ok.cond (b := false) rfl (fun h => by cases h) (fun _ => ?_))
          exact Ok.skip ⟨[0, 1], [0, 3, 5, 6, 7], _, rfl, by decide, floor_ok rfl, rfl, out, false, by rw [hins]; simp, hol, hol2, rfl, rfl⟩
      · rw [if_pos rfl] at hins
        refine Ok.regionW (G := fun _ => true) (C := TabP _) mixed layOk noT TabP_calm (.inr ⟨by kernel_rfl, by kernel_rfl⟩) ?_
        refine wstepN rfl rfl (by dsimp only [putV, List.set]) ?_
        refine wstepN rfl rfl (by dsimp only [putV, List.set]) ?_
        refine wstepN rfl rfl (by dsimp only [putV, List.set]) ?_
        first
          | refine wskipN rfl (by dsimp only [putV, List.set]) ?_
          | refine wstepN rfl rfl (by dsimp only [putV, List.set]) ?_
        first
          | refine wskipN rfl (by dsimp only [putV, List.set]) ?_
          | refine wstepN rfl rfl (by dsimp only [putV, List.set]) ?_
        first
          | refine wskipN rfl (by dsimp only [putV, List.set]) ?_
          | refine wstepN rfl (ev_ix rfl rfl rfl (by assumption) rfl) (by dsimp only [putV, List.set]) ?_
          | refine wstepN rfl rfl (by dsimp only [putV, List.set]) ?_
        first
          | refine wskipN rfl (by dsimp only [putV, List.set]) ?_
          | refine wstepN rfl rfl (by dsimp only [putV, List.set]) ?_
        first
          | refine wskipN rfl (by dsimp only [putV, List.set]) ?_
          | refine wstepN rfl (ldT rfl rfl) (by dsimp only [putV, List.set]) ?_
          | refine wstepN rfl (ldE rfl rfl) (by dsimp only [putV, List.set]) ?_
          | refine wstepN rfl rfl (by dsimp only [putV, List.set]) ?_
        first
          | refine wskipN rfl (by dsimp only [putV, List.set]) ?_
          | refine wstepN rfl rfl (by dsimp only [putV, List.set]) ?_
        first
          | refine wskipN rfl (by dsimp only [putV, List.set]) ?_
          | refine wstepN rfl (ldT rfl rfl) (by dsimp only [putV, List.set]) ?_
          | refine wstepN rfl (ldE rfl rfl) (by dsimp only [putV, List.set]) ?_
          | refine wstepN rfl rfl (by dsimp only [putV, List.set]) ?_
        first
          | refine wskipN rfl (by dsimp only [putV, List.set]) ?_
          | refine wstepN rfl (gtT (by assumption) rfl rfl) (by dsimp only [putV, List.set]) ?_
          | refine wstepN rfl rfl (by dsimp only [putV, List.set]) ?_
        refine wstepN rfl rfl (by dsimp only [putV, List.set]) ?_
        refine wnil (Ok.cond (b := false) rfl (fun h => by cases h) (fun _ => ?_))
        exact Ok.skip ⟨[0, 1], [0, 3, 5, 6, 7], _, rfl, by decide, floor_ok rfl, rfl, out, true, by rw [hins]; simp, hol, hol2, rfl, rfl⟩
    rintro _ _ _ ⟨rfl, out1, dn1, hins1, hol1, hol3, rfl, rfl⟩
    simp only [List.replicate, List.set]
    refine Ok.regionW (G := fun _ => true) (C := TabP _) mixed layOk noT TabP_calm (.inl rfl) ?_
    refine wstepN rfl rfl (by dsimp only [putV, List.set]) ?_
    refine wstepN rfl rfl (by dsimp only [putV, List.set]) ?_
    refine wstepN rfl rfl (by dsimp only [putV, List.set]) ?_
    first
      | refine wstepN rfl (ev_ix rfl rfl rfl (by assumption) rfl) (by dsimp only [putV, List.set]) ?_
      | refine wstepN rfl rfl (by dsimp only [putV, List.set]) ?_
    first
      | refine wstepN rfl (ldF rfl rfl) (by dsimp only [putV, List.set]) ?_
      | refine wstepN rfl rfl (by dsimp only [putV, List.set]) ?_
    refine wstepN rfl rfl (by dsimp only [putV, List.set]) ?_
    refine wstepN rfl (appF (done := out1) (f := g) (by omega) (by decide) rfl rfl rfl rfl rfl rfl) (by dsimp only [putV, List.set]) ?_
    refine wstepN rfl rfl (by dsimp only [putV, List.set]) ?_
    refine wnil ?_
    refine Ok.regionW (G := fun _ => true) (C := TabP _) mixed layOk noT TabP_calm (.inl rfl) ?_
    refine wstepN rfl rfl (by dsimp only [putV, List.set]) ?_
    first
      | refine wstepN rfl (incT (by omega) rfl rfl) (by dsimp only [putV, List.set]) ?_
      | refine wstepN rfl (addK (by assumption) rfl rfl) (by dsimp only [putV, List.set]) ?_
      | refine wstepN rfl rfl (by dsimp only [putV, List.set]) ?_
    refine wstepN rfl rfl (by dsimp only [putV, List.set]) ?_
    refine wnil ⟨[0, 3], [0, 3, 5, 6, 7], [.cells (cellsF f), .row 45 3 (rowsF (out1 ++ [g]))], by kernel_rfl, by decide, floor_ok rfl, hlt', out1 ++ [g], dn1, by rw [hins1]; simp, by simp; omega, (fun h => by have := hol3 h; simp; omega), hlt', rfl, rfl⟩

end Go.Proofs.YtiefcnghjcafbaaDoorV

/- Lists of files: Put and Mkdir, the program's. -/
namespace Go.Proofs.YtiefcnghjcafbaaDoorV
open Go Go.RowKit Go.Proofs.YtiefcnghjcafbaaDoor
set_option maxRecDepth 20000
set_option maxHeartbeats 1000000

inductive PC (l : List Fl) (p : List UInt8) (f : Fl) : FuncId → List V → V → Prop
  | path : PC l p f 34 [T p] (bV (pathB p))
  | idx : PC l p f 42 [.sl (rowsF l), T p] (iV (idxF l p))
  | perr : PC l p f 43 [.sl (rowsF l), T p] (iV (perrP l p))
  | ins : PC l p f 45 [.sl (rowsF l), valF f] (.sl (rowsF (insP l f)))
  | hold : PC l p f 49 [.sl (rowsF l), T p] (bV (holdsF l p))
theorem PC_u (l : List Fl) (p : List UInt8) (f : Fl) : Uniq (PC l p f) := fun g vs v v' h h' => by cases h <;> cases h' <;> rfl
theorem PC_good (l : List Fl) (p : List UInt8) (f : Fl) (hl : l.length ≤ 1000) (hp : p.length ≤ 10000) (hps : ∀ f ∈ l, f.path.length ≤ 10000) : Good Tryd.prog (TabP (PC l p f)) := TabP_good fun g vs v h => by
  cases h with
  | path => exact ⟨path34 p (by omega), rfl, rfl, Tryd.call34⟩
  | idx => exact ⟨index42 l p (by omega), rfl, rfl, Tryd.call42⟩
  | perr => exact ⟨perr43 l p (by omega) hp, rfl, rfl, Tryd.call43⟩
  | ins => exact ⟨insert45 l f (by omega), rfl, rfl, Tryd.call45⟩
  | hold => exact ⟨parents49 l p (by omega) (fun f hf => by have := hps f hf; omega), rfl, rfl, Tryd.call49⟩

theorem fi_cases (l : List Fl) (p : List UInt8) : (l.findIdx? (fun f => decide (f.path = p)) = none ∧ idxF l p = -1) ∨ ∃ k f, l.findIdx? (fun f => decide (f.path = p)) = some k ∧ idxF l p = ((k : Nat) : Int) ∧ l[k]? = some f := by
  cases h : l.findIdx? fun f => decide (f.path = p) with
  | none => exact .inl ⟨rfl, by rw [idxF, h]⟩
  | some k =>
    obtain ⟨h1, _, _⟩ := List.findIdx?_eq_some_iff_getElem.1 h
    exact .inr ⟨k, l[k], rfl, by rw [idxF, h], List.getElem?_eq_getElem h1⟩
theorem copied44z (l : List Fl) (hl : l.length ≤ 1000) : FnOk Tryd.prog 44 [.sl (rowsF l), iV ((0 : Nat) : Int)] [] (fun r bs' => r = .win 0 3 0 l.length l.length ∧ bs' = [.cells (flatF l)]) := by
  have := copied44 l 0 (by omega) (by omega)
  rw [show l ++ List.replicate 0 zeroF = l by simp] at this
  exact this
theorem fr_tup {bs : List Bx} {a : V} {n : Int} {l : List Fl} (h : frA bs a = .sl (rowsF l)) (hf : fr1 bs a = frA bs a) : fr bs (.tup [a, iV n]) = .tup [.sl (rowsF l), iV n] := by
  show V.tup [fr1 bs a, fr1 bs (iV n)] = _
  rw [hf, h]
  rfl

theorem put19 (l : List Fl) (p d : List UInt8) (hl : l.length ≤ 1000) (hp : p.length ≤ 10000) (hps : ∀ f ∈ l, f.path.length ≤ 10000) : FnOk Tryd.prog 19 [.sl (rowsF l), T p, T d] [] (fun r bs' => fr bs' r = .tup [.sl (rowsF (putP l p d).1), iV (putP l p d).2]) := by
  refine FnOk.fast (Q := fun r => r = .tup [.sl (rowsF (putP l p d).1), iV (putP l p d).2]) layOk Tryd.func19 rfl ?_
  have hT := PC_good l p ⟨p, false, d⟩ hl hp hps
  have hU := PC_u l p ⟨p, false, d⟩
  have hpath : PC l p ⟨p, false, d⟩ 34 [T p] (bV (pathB p)) := .path
  have hix : PC l p ⟨p, false, d⟩ 42 [.sl (rowsF l), T p] (iV (idxF l p)) := .idx
  have hpe : PC l p ⟨p, false, d⟩ 43 [.sl (rowsF l), T p] (iV (perrP l p)) := .perr
  have hin : PC l p ⟨p, false, d⟩ 45 [.sl (rowsF l), valF ⟨p, false, d⟩] (.sl (rowsF (insP l ⟨p, false, d⟩))) := .ins
  obtain ⟨N, hN⟩ : ∃ N, l.length = N := ⟨_, rfl⟩
  refine Ok.seq (go 10 rfl ?_)
  refine Ok.seq (go 10 rfl ?_)
  refine Ok.seq ?_
  cases hpa : pathB p
  · rw [hpa] at hpath
    rw [show putP l p d = (l, 10) by rw [putP, if_pos hpa]]
    refine Ok.seq (Ok.regionW (G := fun _ => true) (C := TabP _) mixed layOk hT TabP_calm (.inl rfl) ?_)
    refine wstepN rfl rfl (by dsimp only [putV, List.set]) ?_
    first
      | refine wstepN rfl (hit34 (by first | assumption | omega)) (by dsimp only [putV, List.set]) ?_
      | refine wstepN rfl (T1_hit) (by dsimp only [putV, List.set]) ?_
      | refine wstepN rfl (TabP_use (by assumption) (by assumption)) (by dsimp only [putV, List.set]) ?_
      | refine wstepN rfl (TabP_hit (fun v' h => by cases h; rfl) (by assumption)) (by dsimp only [putV, List.set]) ?_
      | refine wstepN rfl (TabP_hit (fun v' h => by cases h; rfl) (by constructor)) (by dsimp only [putV, List.set]) ?_
      | refine wstepN rfl rfl (by dsimp only [putV, List.set]) ?_
    refine wnil (Ok.cond (b := false) rfl (fun h => by cases h) (fun _ => ?_))
    refine Ok.skip ?_
    refine Ok.seq (Ok.block ?_)
    refine Ok.seq (Ok.regionW (G := fun _ => true) (C := TabP _) mixed layOk hT TabP_calm (.inl rfl) ?_)
    refine wstepN rfl rfl (by dsimp only [putV, List.set]) ?_
    first
      | refine wstepN rfl (hit34 (by first | assumption | omega)) (by dsimp only [putV, List.set]) ?_
      | refine wstepN rfl (T1_hit) (by dsimp only [putV, List.set]) ?_
      | refine wstepN rfl (TabP_use (by assumption) (by assumption)) (by dsimp only [putV, List.set]) ?_
      | refine wstepN rfl (TabP_hit (fun v' h => by cases h; rfl) (by assumption)) (by dsimp only [putV, List.set]) ?_
      | refine wstepN rfl (TabP_hit (fun v' h => by cases h; rfl) (by constructor)) (by dsimp only [putV, List.set]) ?_
      | refine wstepN rfl rfl (by dsimp only [putV, List.set]) ?_
    refine wstepN rfl rfl (by dsimp only [putV, List.set]) ?_
    refine wstepN rfl rfl (by dsimp only [putV, List.set]) ?_
    refine wnil (Ok.cond (b := true) rfl (fun _ => ?_) (fun h => by cases h))
    exact go 10 rfl ⟨fun _ h => (by cases h), _, rfl, rfl⟩
  rw [hpa] at hpath
  have hput0 : putP l p d = if 8192 < d.length then (l, 3) else match l.findIdx? fun f => decide (f.path = p) with
      | some i => if dirAt l i = true then (l, 17) else if perrP l p ≠ 0 then (l, perrP l p) else (setD l i d, 0)
      | none => if perrP l p ≠ 0 then (l, perrP l p) else if 128 ≤ l.length then (l, 4) else (insP l ⟨p, false, d⟩, 0) := by
    rw [putP, if_neg (by rw [hpa]; simp)]; try rfl
  rw [hput0]
  rcases fi_cases l p with ⟨h1, h2⟩ | ⟨k, f, h1, h2, hk⟩
  · rw [h2] at hix
    rw [h1]
    dsimp only
    refine Ok.seq (Ok.regionW (G := fun _ => true) (C := TabP _) mixed layOk hT TabP_calm (.inl rfl) ?_)
    refine wstepN rfl rfl (by dsimp only [putV, List.set]) ?_
    first
      | refine wstepN rfl (hit34 (by first | assumption | omega)) (by dsimp only [putV, List.set]) ?_
      | refine wstepN rfl (T1_hit) (by dsimp only [putV, List.set]) ?_
      | refine wstepN rfl (TabP_use (by assumption) (by assumption)) (by dsimp only [putV, List.set]) ?_
      | refine wstepN rfl (TabP_hit (fun v' h => by cases h; rfl) (by assumption)) (by dsimp only [putV, List.set]) ?_
      | refine wstepN rfl (TabP_hit (fun v' h => by cases h; rfl) (by constructor)) (by dsimp only [putV, List.set]) ?_
      | refine wstepN rfl rfl (by dsimp only [putV, List.set]) ?_
    refine wnil (Ok.cond (b := true) rfl (fun _ => ?_) (fun h => by cases h))
    refine Ok.regionW (G := fun _ => true) (C := TabP _) mixed layOk hT TabP_calm (.inl rfl) ?_
    refine wstepN rfl rfl (by dsimp only [putV, List.set]) ?_
    refine wstepN rfl rfl (by dsimp only [putV, List.set]) ?_
    first
      | refine wstepN rfl (hit42 (by first | assumption | omega)) (by dsimp only [putV, List.set]) ?_
      | refine wstepN rfl (T1_hit) (by dsimp only [putV, List.set]) ?_
      | refine wstepN rfl (TabP_use (by assumption) (by assumption)) (by dsimp only [putV, List.set]) ?_
      | refine wstepN rfl (TabP_hit (fun v' h => by cases h; rfl) (by assumption)) (by dsimp only [putV, List.set]) ?_
      | refine wstepN rfl (TabP_hit (fun v' h => by cases h; rfl) (by constructor)) (by dsimp only [putV, List.set]) ?_
      | refine wstepN rfl rfl (by dsimp only [putV, List.set]) ?_
    refine wstepN rfl rfl (by dsimp only [putV, List.set]) ?_
    refine wnil ?_
    refine Ok.seq (Ok.block ?_)
    refine Ok.seq (Ok.regionW (G := fun _ => true) (C := TabP _) mixed layOk hT TabP_calm (.inl rfl) ?_)
    refine wstepN rfl rfl (by dsimp only [putV, List.set]) ?_
    first
      | refine wstepN rfl (hit34 (by first | assumption | omega)) (by dsimp only [putV, List.set]) ?_
      | refine wstepN rfl (T1_hit) (by dsimp only [putV, List.set]) ?_
      | refine wstepN rfl (TabP_use (by assumption) (by assumption)) (by dsimp only [putV, List.set]) ?_
      | refine wstepN rfl (TabP_hit (fun v' h => by cases h; rfl) (by assumption)) (by dsimp only [putV, List.set]) ?_
      | refine wstepN rfl (TabP_hit (fun v' h => by cases h; rfl) (by constructor)) (by dsimp only [putV, List.set]) ?_
      | refine wstepN rfl rfl (by dsimp only [putV, List.set]) ?_
    refine wstepN rfl rfl (by dsimp only [putV, List.set]) ?_
    refine wstepN rfl rfl (by dsimp only [putV, List.set]) ?_
    refine wnil (Ok.cond (b := false) rfl (fun h => by cases h) (fun _ => ?_))
    refine Ok.seq (Ok.regionW (G := fun _ => true) (C := TabP _) mixed layOk noT TabP_calm (.inl rfl) ?_)
    cases h8192 : decide ((d.length : Int) > 8192)
    case true =>
      have h3 := of_decide_eq_true h8192
      rw [if_pos (by omega)]
      refine wstepN rfl rfl (by dsimp only [putV, List.set]) ?_
      first
        | refine wstepN rfl (lenT rfl rfl) (by dsimp only [putV, List.set]) ?_
        | refine wstepN rfl rfl (by dsimp only [putV, List.set]) ?_
      first
        | refine wstepN rfl (gtrK h8192 rfl rfl) (by dsimp only [putV, List.set]) ?_
        | refine wstepN rfl (gtrK (by assumption) rfl rfl) (by dsimp only [putV, List.set]) ?_
        | refine wstepN rfl rfl (by dsimp only [putV, List.set]) ?_
      refine wstepN rfl rfl (by dsimp only [putV, List.set]) ?_
      refine wnil (Ok.cond (b := true) rfl (fun _ => ?_) (fun h => by cases h))
      exact go 10 rfl ⟨fun _ h => (by cases h), _, rfl, rfl⟩
    have h3 := of_decide_eq_false h8192
    rw [if_neg (by omega)]
    refine wstepN rfl rfl (by dsimp only [putV, List.set]) ?_
    first
      | refine wstepN rfl (lenT rfl rfl) (by dsimp only [putV, List.set]) ?_
      | refine wstepN rfl rfl (by dsimp only [putV, List.set]) ?_
    first
      | refine wstepN rfl (gtrK h8192 rfl rfl) (by dsimp only [putV, List.set]) ?_
      | refine wstepN rfl (gtrK (by assumption) rfl rfl) (by dsimp only [putV, List.set]) ?_
      | refine wstepN rfl rfl (by dsimp only [putV, List.set]) ?_
    refine wstepN rfl rfl (by dsimp only [putV, List.set]) ?_
    refine wnil (Ok.cond (b := false) rfl (fun h => by cases h) (fun _ => ?_))
    have hq : decide ((-1 : Int) ≥ 0) = false := rfl
    refine Ok.gcE (bs2 := []) (ts2 := ((((List.replicate 63 V.gone).set 0 (.sl (rowsF l))).set 1 (T p)).set 2 (T d)).set 8 (iV (-1))) [] [0, 1, 2, 8] (by kernel_rfl) (by decide) (floor_ok rfl) rfl ?_
    simp only [List.replicate, List.set]
    refine Ok.seq (Ok.regionW (G := fun _ => true) (C := TabP _) mixed layOk noT TabP_calm (.inl rfl) ?_)
    refine wstepN rfl rfl (by dsimp only [putV, List.set]) ?_
    first
      | refine wstepN rfl (geqK h0 rfl rfl) (by dsimp only [putV, List.set]) ?_
      | refine wstepN rfl (geqK (by assumption) rfl rfl) (by dsimp only [putV, List.set]) ?_
      | refine wstepN rfl rfl (by dsimp only [putV, List.set]) ?_
    refine wstepN rfl rfl (by dsimp only [putV, List.set]) ?_
    first
      | refine wskipN rfl (by dsimp only [putV, List.set]) ?_
      | refine wstepN rfl rfl (by dsimp only [putV, List.set]) ?_
    first
      | refine wskipN rfl (by dsimp only [putV, List.set]) ?_
      | refine wstepN rfl rfl (by dsimp only [putV, List.set]) ?_
    first
      | refine wskipN rfl (by dsimp only [putV, List.set]) ?_
      | refine wstepN rfl (ev_ix rfl rfl rfl (by assumption) rfl) (by dsimp only [putV, List.set]) ?_
      | refine wstepN rfl rfl (by dsimp only [putV, List.set]) ?_
    first
      | refine wskipN rfl (by dsimp only [putV, List.set]) ?_
      | refine wstepN rfl rfl (by dsimp only [putV, List.set]) ?_
    first
      | refine wskipN rfl (by dsimp only [putV, List.set]) ?_
      | refine wstepN rfl rfl (by dsimp only [putV, List.set]) ?_
    refine wstepN rfl rfl (by dsimp only [putV, List.set]) ?_
    refine wstepN rfl rfl (by dsimp only [putV, List.set]) ?_
    refine wnil (Ok.cond (b := false) rfl (fun h => by cases h) (fun _ => ?_))
    refine Ok.skip ?_
    generalize perrP l p = e at hpe ⊢
    refine Ok.seq ?_
    refine Ok.seq (Ok.regionW (G := fun _ => true) (C := TabP _) mixed layOk hT TabP_calm (.inl rfl) ?_)
    refine wstepN rfl rfl (by dsimp only [putV, List.set]) ?_
    refine wstepN rfl rfl (by dsimp only [putV, List.set]) ?_
    first
      | refine wstepN rfl (hit43 (by first | assumption | omega)) (by dsimp only [putV, List.set]) ?_
      | refine wstepN rfl (T1_hit) (by dsimp only [putV, List.set]) ?_
      | refine wstepN rfl (TabP_use (by assumption) (by assumption)) (by dsimp only [putV, List.set]) ?_
      | refine wstepN rfl (TabP_hit (fun v' h => by cases h; rfl) (by assumption)) (by dsimp only [putV, List.set]) ?_
      | refine wstepN rfl (TabP_hit (fun v' h => by cases h; rfl) (by constructor)) (by dsimp only [putV, List.set]) ?_
      | refine wstepN rfl rfl (by dsimp only [putV, List.set]) ?_
    refine wstepN rfl rfl (by dsimp only [putV, List.set]) ?_
    refine wnil ?_
    by_cases he : e = 0
    · have hne : (e != 0) = false := by simpa using he
      rw [if_neg (by simpa using he)]
      refine Ok.seq (Ok.regionW (G := fun _ => true) (C := TabP _) mixed layOk hT TabP_calm (.inl rfl) ?_)
      refine wstepN rfl rfl (by dsimp only [putV, List.set]) ?_
      first
        | refine wstepN rfl (neqK (by assumption) rfl rfl) (by dsimp only [putV, List.set]) ?_
        | refine wstepN rfl rfl (by dsimp only [putV, List.set]) ?_
      refine wnil (Ok.cond (b := false) rfl (fun h => by cases h) (fun _ => ?_))
      refine Ok.skip ?_
      refine Ok.seq ?_
      refine Ok.seq (Ok.regionW (G := fun _ => true) (C := TabP _) mixed layOk noT TabP_calm (.inl rfl) ?_)
      refine wstepN rfl rfl (by dsimp only [putV, List.set]) ?_
      first
        | refine wstepN rfl (geqK h0 rfl rfl) (by dsimp only [putV, List.set]) ?_
        | refine wstepN rfl (geqK (by assumption) rfl rfl) (by dsimp only [putV, List.set]) ?_
        | refine wstepN rfl rfl (by dsimp only [putV, List.set]) ?_
      refine wnil (Ok.cond (b := false) rfl (fun h => by cases h) (fun _ => ?_))
      refine Ok.skip ?_
      refine Ok.seq ?_
      cases h128 : decide ((N : Int) ≥ 128)
      · have h4 := of_decide_eq_false h128
        rw [if_neg (by omega)]
        refine Ok.seq (Ok.regionW (G := fun _ => true) (C := TabP _) mixed layOk noT TabP_calm (.inl rfl) ?_)
        refine wstepN rfl rfl (by dsimp only [putV, List.set]) ?_
        first
          | refine wstepN rfl (lenF hN rfl rfl) (by dsimp only [putV, List.set]) ?_
          | refine wstepN rfl (lenF hM rfl rfl) (by dsimp only [putV, List.set]) ?_
          | refine wstepN rfl (lenF (by assumption) rfl rfl) (by dsimp only [putV, List.set]) ?_
          | refine wstepN rfl rfl (by dsimp only [putV, List.set]) ?_
        first
          | refine wstepN rfl (geqK h128 rfl rfl) (by dsimp only [putV, List.set]) ?_
          | refine wstepN rfl (geqK (by assumption) rfl rfl) (by dsimp only [putV, List.set]) ?_
          | refine wstepN rfl rfl (by dsimp only [putV, List.set]) ?_
        refine wnil (Ok.cond (b := false) rfl (fun h => by cases h) (fun _ => ?_))
        refine Ok.skip ?_
        refine Ok.seq (Ok.regionW (G := fun _ => true) (C := TabP _) mixed layOk hT TabP_calm (.inl rfl) ?_)
        refine wstepN rfl rfl (by dsimp only [putV, List.set]) ?_
        refine wstepN rfl rfl (by dsimp only [putV, List.set]) ?_
        refine wstepN rfl rfl (by dsimp only [putV, List.set]) ?_
        refine wstepN rfl rfl (by dsimp only [putV, List.set]) ?_
        first
          | refine wstepN rfl (hit45 (by first | assumption | omega)) (by dsimp only [putV, List.set]) ?_
          | refine wstepN rfl (T1_hit) (by dsimp only [putV, List.set]) ?_
          | refine wstepN rfl (TabP_use (by assumption) (by assumption)) (by dsimp only [putV, List.set]) ?_
          | refine wstepN rfl (TabP_hit (fun v' h => by cases h; rfl) (by assumption)) (by dsimp only [putV, List.set]) ?_
          | refine wstepN rfl (TabP_hit (fun v' h => by cases h; rfl) (by constructor)) (by dsimp only [putV, List.set]) ?_
          | refine wstepN rfl rfl (by dsimp only [putV, List.set]) ?_
        refine wstepN rfl rfl (by dsimp only [putV, List.set]) ?_
        refine wstepN rfl rfl (by dsimp only [putV, List.set]) ?_
        refine wnil (Ok.ret ⟨fun _ h => (by cases h), _, rfl, rfl⟩)
      · have h4 := of_decide_eq_true h128
        rw [if_pos (by omega)]
        refine Ok.seq (Ok.regionW (G := fun _ => true) (C := TabP _) mixed layOk noT TabP_calm (.inl rfl) ?_)
        refine wstepN rfl rfl (by dsimp only [putV, List.set]) ?_
        first
          | refine wstepN rfl (lenF hN rfl rfl) (by dsimp only [putV, List.set]) ?_
          | refine wstepN rfl (lenF hM rfl rfl) (by dsimp only [putV, List.set]) ?_
          | refine wstepN rfl (lenF (by assumption) rfl rfl) (by dsimp only [putV, List.set]) ?_
          | refine wstepN rfl rfl (by dsimp only [putV, List.set]) ?_
        first
          | refine wstepN rfl (geqK h128 rfl rfl) (by dsimp only [putV, List.set]) ?_
          | refine wstepN rfl (geqK (by assumption) rfl rfl) (by dsimp only [putV, List.set]) ?_
          | refine wstepN rfl rfl (by dsimp only [putV, List.set]) ?_
        refine wnil (Ok.cond (b := true) rfl (fun _ => ?_) (fun h => by cases h))
        exact go 10 rfl ⟨fun _ h => (by cases h), _, rfl, rfl⟩
    · have hne : (e != 0) = true := by simpa using he
      rw [if_pos he]
      refine Ok.seq (Ok.regionW (G := fun _ => true) (C := TabP _) mixed layOk hT TabP_calm (.inl rfl) ?_)
      refine wstepN rfl rfl (by dsimp only [putV, List.set]) ?_
      first
        | refine wstepN rfl (neqK (by assumption) rfl rfl) (by dsimp only [putV, List.set]) ?_
        | refine wstepN rfl rfl (by dsimp only [putV, List.set]) ?_
      refine wnil (Ok.cond (b := true) rfl (fun _ => ?_) (fun h => by cases h))
      exact go 10 rfl ⟨fun _ h => (by cases h), _, rfl, rfl⟩
  · rw [h2] at hix
    rw [h1]
    dsimp only
    refine Ok.seq (Ok.regionW (G := fun _ => true) (C := TabP _) mixed layOk hT TabP_calm (.inl rfl) ?_)
    refine wstepN rfl rfl (by dsimp only [putV, List.set]) ?_
    first
      | refine wstepN rfl (hit34 (by first | assumption | omega)) (by dsimp only [putV, List.set]) ?_
      | refine wstepN rfl (T1_hit) (by dsimp only [putV, List.set]) ?_
      | refine wstepN rfl (TabP_use (by assumption) (by assumption)) (by dsimp only [putV, List.set]) ?_
      | refine wstepN rfl (TabP_hit (fun v' h => by cases h; rfl) (by assumption)) (by dsimp only [putV, List.set]) ?_
      | refine wstepN rfl (TabP_hit (fun v' h => by cases h; rfl) (by constructor)) (by dsimp only [putV, List.set]) ?_
      | refine wstepN rfl rfl (by dsimp only [putV, List.set]) ?_
    refine wnil (Ok.cond (b := true) rfl (fun _ => ?_) (fun h => by cases h))
    refine Ok.regionW (G := fun _ => true) (C := TabP _) mixed layOk hT TabP_calm (.inl rfl) ?_
    refine wstepN rfl rfl (by dsimp only [putV, List.set]) ?_
    refine wstepN rfl rfl (by dsimp only [putV, List.set]) ?_
    first
      | refine wstepN rfl (hit42 (by first | assumption | omega)) (by dsimp only [putV, List.set]) ?_
      | refine wstepN rfl (T1_hit) (by dsimp only [putV, List.set]) ?_
      | refine wstepN rfl (TabP_use (by assumption) (by assumption)) (by dsimp only [putV, List.set]) ?_
      | refine wstepN rfl (TabP_hit (fun v' h => by cases h; rfl) (by assumption)) (by dsimp only [putV, List.set]) ?_
      | refine wstepN rfl (TabP_hit (fun v' h => by cases h; rfl) (by constructor)) (by dsimp only [putV, List.set]) ?_
      | refine wstepN rfl rfl (by dsimp only [putV, List.set]) ?_
    refine wstepN rfl rfl (by dsimp only [putV, List.set]) ?_
    refine wnil ?_
    refine Ok.seq (Ok.block ?_)
    refine Ok.seq (Ok.regionW (G := fun _ => true) (C := TabP _) mixed layOk hT TabP_calm (.inl rfl) ?_)
    refine wstepN rfl rfl (by dsimp only [putV, List.set]) ?_
    first
      | refine wstepN rfl (hit34 (by first | assumption | omega)) (by dsimp only [putV, List.set]) ?_
      | refine wstepN rfl (T1_hit) (by dsimp only [putV, List.set]) ?_
      | refine wstepN rfl (TabP_use (by assumption) (by assumption)) (by dsimp only [putV, List.set]) ?_
      | refine wstepN rfl (TabP_hit (fun v' h => by cases h; rfl) (by assumption)) (by dsimp only [putV, List.set]) ?_
      | refine wstepN rfl (TabP_hit (fun v' h => by cases h; rfl) (by constructor)) (by dsimp only [putV, List.set]) ?_
      | refine wstepN rfl rfl (by dsimp only [putV, List.set]) ?_
    refine wstepN rfl rfl (by dsimp only [putV, List.set]) ?_
    refine wstepN rfl rfl (by dsimp only [putV, List.set]) ?_
    refine wnil (Ok.cond (b := false) rfl (fun h => by cases h) (fun _ => ?_))
    refine Ok.seq (Ok.regionW (G := fun _ => true) (C := TabP _) mixed layOk noT TabP_calm (.inl rfl) ?_)
    cases h8192 : decide ((d.length : Int) > 8192)
    case true =>
      have h3 := of_decide_eq_true h8192
      rw [if_pos (by omega)]
      refine wstepN rfl rfl (by dsimp only [putV, List.set]) ?_
      first
        | refine wstepN rfl (lenT rfl rfl) (by dsimp only [putV, List.set]) ?_
        | refine wstepN rfl rfl (by dsimp only [putV, List.set]) ?_
      first
        | refine wstepN rfl (gtrK h8192 rfl rfl) (by dsimp only [putV, List.set]) ?_
        | refine wstepN rfl (gtrK (by assumption) rfl rfl) (by dsimp only [putV, List.set]) ?_
        | refine wstepN rfl rfl (by dsimp only [putV, List.set]) ?_
      refine wstepN rfl rfl (by dsimp only [putV, List.set]) ?_
      refine wnil (Ok.cond (b := true) rfl (fun _ => ?_) (fun h => by cases h))
      exact go 10 rfl ⟨fun _ h => (by cases h), _, rfl, rfl⟩
    have h3 := of_decide_eq_false h8192
    rw [if_neg (by omega)]
    refine wstepN rfl rfl (by dsimp only [putV, List.set]) ?_
    first
      | refine wstepN rfl (lenT rfl rfl) (by dsimp only [putV, List.set]) ?_
      | refine wstepN rfl rfl (by dsimp only [putV, List.set]) ?_
    first
      | refine wstepN rfl (gtrK h8192 rfl rfl) (by dsimp only [putV, List.set]) ?_
      | refine wstepN rfl (gtrK (by assumption) rfl rfl) (by dsimp only [putV, List.set]) ?_
      | refine wstepN rfl rfl (by dsimp only [putV, List.set]) ?_
    refine wstepN rfl rfl (by dsimp only [putV, List.set]) ?_
    refine wnil (Ok.cond (b := false) rfl (fun h => by cases h) (fun _ => ?_))
    have hq : decide (((k : Nat) : Int) ≥ 0) = true := by simp
    have hget := rowsF_at hk
    have hkl : k < l.length := (List.getElem?_eq_some_iff.1 hk).1
    rw [show dirAt l k = f.dir by rw [dirAt, hk], show setD l k d = l.set k ⟨f.path, f.dir, d⟩ by rw [setD, hk]]
    refine Ok.gcE (bs2 := []) (ts2 := ((((List.replicate 63 V.gone).set 0 (.sl (rowsF l))).set 1 (T p)).set 2 (T d)).set 8 (iV (k : Int))) [] [0, 1, 2, 8] (by kernel_rfl) (by decide) (floor_ok rfl) rfl ?_
    simp only [List.replicate, List.set]
    refine Ok.seq (Ok.regionW (G := fun _ => true) (C := TabP _) mixed layOk noT TabP_calm (.inl rfl) ?_)
    refine wstepN rfl rfl (by dsimp only [putV, List.set]) ?_
    first
      | refine wstepN rfl (geqK h0 rfl rfl) (by dsimp only [putV, List.set]) ?_
      | refine wstepN rfl (geqK (by assumption) rfl rfl) (by dsimp only [putV, List.set]) ?_
      | refine wstepN rfl rfl (by dsimp only [putV, List.set]) ?_
    refine wstepN rfl rfl (by dsimp only [putV, List.set]) ?_
    first
      | refine wskipN rfl (by dsimp only [putV, List.set]) ?_
      | refine wstepN rfl rfl (by dsimp only [putV, List.set]) ?_
    first
      | refine wskipN rfl (by dsimp only [putV, List.set]) ?_
      | refine wstepN rfl rfl (by dsimp only [putV, List.set]) ?_
    first
      | refine wskipN rfl (by dsimp only [putV, List.set]) ?_
      | refine wstepN rfl (ev_ix rfl rfl rfl (by assumption) rfl) (by dsimp only [putV, List.set]) ?_
      | refine wstepN rfl rfl (by dsimp only [putV, List.set]) ?_
    first
      | refine wskipN rfl (by dsimp only [putV, List.set]) ?_
      | refine wstepN rfl rfl (by dsimp only [putV, List.set]) ?_
    first
      | refine wskipN rfl (by dsimp only [putV, List.set]) ?_
      | refine wstepN rfl rfl (by dsimp only [putV, List.set]) ?_
    refine wstepN rfl rfl (by dsimp only [putV, List.set]) ?_
    refine wstepN rfl rfl (by dsimp only [putV, List.set]) ?_
    cases hd : f.dir
    case true =>
      rw [if_pos rfl]
      refine wnil (Ok.cond (b := true) rfl (fun _ => ?_) (fun h => by cases h))
      exact go 10 rfl ⟨fun _ h => (by cases h), _, rfl, rfl⟩
    rw [if_neg (by simp)]
    refine wnil (Ok.cond (b := false) rfl (fun h => by cases h) (fun _ => ?_))
    refine Ok.skip ?_
    refine Ok.gcE (bs2 := []) (ts2 := ((((List.replicate 63 V.gone).set 0 (.sl (rowsF l))).set 1 (T p)).set 2 (T d)).set 8 (iV (k : Int))) [] [0, 1, 2, 8] (by kernel_rfl) (by decide) (floor_ok rfl) rfl ?_
    simp only [List.replicate, List.set]
    generalize perrP l p = e at hpe ⊢
    refine Ok.seq ?_
    refine Ok.seq (Ok.regionW (G := fun _ => true) (C := TabP _) mixed layOk hT TabP_calm (.inl rfl) ?_)
    refine wstepN rfl rfl (by dsimp only [putV, List.set]) ?_
    refine wstepN rfl rfl (by dsimp only [putV, List.set]) ?_
    first
      | refine wstepN rfl (hit43 (by first | assumption | omega)) (by dsimp only [putV, List.set]) ?_
      | refine wstepN rfl (T1_hit) (by dsimp only [putV, List.set]) ?_
      | refine wstepN rfl (TabP_use (by assumption) (by assumption)) (by dsimp only [putV, List.set]) ?_
      | refine wstepN rfl (TabP_hit (fun v' h => by cases h; rfl) (by assumption)) (by dsimp only [putV, List.set]) ?_
      | refine wstepN rfl (TabP_hit (fun v' h => by cases h; rfl) (by constructor)) (by dsimp only [putV, List.set]) ?_
      | refine wstepN rfl rfl (by dsimp only [putV, List.set]) ?_
    refine wstepN rfl rfl (by dsimp only [putV, List.set]) ?_
    refine wnil ?_
    by_cases he : e = 0
    · have hne : (e != 0) = false := by simpa using he
      rw [if_neg (by simpa using he)]
      refine Ok.seq (Ok.regionW (G := fun _ => true) (C := TabP _) mixed layOk hT TabP_calm (.inl rfl) ?_)
      refine wstepN rfl rfl (by dsimp only [putV, List.set]) ?_
      first
        | refine wstepN rfl (neqK (by assumption) rfl rfl) (by dsimp only [putV, List.set]) ?_
        | refine wstepN rfl rfl (by dsimp only [putV, List.set]) ?_
      refine wnil (Ok.cond (b := false) rfl (fun h => by cases h) (fun _ => ?_))
      refine Ok.skip ?_
      refine Ok.seq ?_
      refine Ok.seq (Ok.regionW (G := fun _ => true) (C := TabP _) mixed layOk noT TabP_calm (.inl rfl) ?_)
      refine wstepN rfl rfl (by dsimp only [putV, List.set]) ?_
      first
        | refine wstepN rfl (geqK h0 rfl rfl) (by dsimp only [putV, List.set]) ?_
        | refine wstepN rfl (geqK (by assumption) rfl rfl) (by dsimp only [putV, List.set]) ?_
        | refine wstepN rfl rfl (by dsimp only [putV, List.set]) ?_
      refine wnil (Ok.cond (b := true) rfl (fun _ => ?_) (fun h => by cases h))
      refine Ok.seq (Ok.regionW (G := fun _ => false) (C := TabB _) mixed layOk (TB1_good (copied44z l hl) Tryd.call44) (fun _ _ h => by cases h) (.inl rfl) ?_)
      refine wstepN rfl rfl (by dsimp only [putV, List.set]) ?_
      refine wstepN rfl (TB1_hit) (by dsimp only [putV, List.set]) ?_
      refine wstepN rfl rfl (by dsimp only [putV, List.set]) ?_
      refine wnil ?_
      refine Ok.seq (Ok.regionW (G := fun _ => true) (C := TabP _) mixed layOk noT TabP_calm (.inl rfl) ?_)
      refine wstepN rfl rfl (by dsimp only [putV, List.set]) ?_
      refine wstepN rfl rfl (by dsimp only [putV, List.set]) ?_
      refine wstepN rfl rfl (by dsimp only [putV, List.set]) ?_
      refine wstepN rfl (ixW3 (z := k) hkl rfl rfl rfl) (by dsimp only [putV, List.set]) ?_
      refine wstepN rfl rfl (by dsimp only [putV, List.set]) ?_
      refine wstepN rfl (stC (off := (0 + k) * 3 + 2) (cs := flatF l) (u := T d) (cs' := flatF (l.set k ⟨f.path, f.dir, d⟩)) (by rw [flatF_len]; omega) (by rw [Nat.zero_add]; exact set_at hk d) rfl rfl rfl rfl rfl) (by dsimp only [putV, List.set]) ?_
      refine wnil ?_
      refine Ok.seq (Ok.regionW (G := fun _ => true) (C := TabP _) mixed layOk noT TabP_calm (.inl rfl) ?_)
      refine wstepN rfl rfl (by dsimp only [putV, List.set]) ?_
      refine wstepN rfl rfl (by dsimp only [putV, List.set]) ?_
      refine wstepN rfl rfl (by dsimp only [putV, List.set]) ?_
      refine wnil (Ok.ret ⟨fun _ h => (by cases h), _, rfl, ?_⟩)
      rw [hd]
      refine fr_tup ?_ rfl
      have := fr_winF (bs := [.cells (flatF (l.set k ⟨f.path, false, d⟩))]) (j := 0) (q := 0) (n := l.length) (c := l.length) (a := l.set k ⟨f.path, false, d⟩) rfl (by simp)
      rw [List.drop_zero, List.take_of_length_le (by simp)] at this
      exact this
    · have hne : (e != 0) = true := by simpa using he
      rw [if_pos he]
      refine Ok.seq (Ok.regionW (G := fun _ => true) (C := TabP _) mixed layOk hT TabP_calm (.inl rfl) ?_)
      refine wstepN rfl rfl (by dsimp only [putV, List.set]) ?_
      first
        | refine wstepN rfl (neqK (by assumption) rfl rfl) (by dsimp only [putV, List.set]) ?_
        | refine wstepN rfl rfl (by dsimp only [putV, List.set]) ?_
      refine wnil (Ok.cond (b := true) rfl (fun _ => ?_) (fun h => by cases h))
      exact go 10 rfl ⟨fun _ h => (by cases h), _, rfl, rfl⟩

theorem mk21 (l : List Fl) (p : List UInt8) (hl : l.length ≤ 1000) (hp : p.length ≤ 10000) (hps : ∀ f ∈ l, f.path.length ≤ 10000) : FnOk Tryd.prog 21 [.sl (rowsF l), T p] [] (fun r bs' => fr bs' r = .tup [.sl (rowsF (mkP l p).1), iV (mkP l p).2]) := by
  refine FnOk.fast (Q := fun r => r = .tup [.sl (rowsF (mkP l p).1), iV (mkP l p).2]) layOk Tryd.func21 rfl ?_
  have hT := PC_good l p ⟨p, true, []⟩ hl hp hps
  have hU := PC_u l p ⟨p, true, []⟩
  have hpath : PC l p ⟨p, true, []⟩ 34 [T p] (bV (pathB p)) := .path
  have hix : PC l p ⟨p, true, []⟩ 42 [.sl (rowsF l), T p] (iV (idxF l p)) := .idx
  have hpe : PC l p ⟨p, true, []⟩ 43 [.sl (rowsF l), T p] (iV (perrP l p)) := .perr
  have hin : PC l p ⟨p, true, []⟩ 45 [.sl (rowsF l), valF ⟨p, true, []⟩] (.sl (rowsF (insP l ⟨p, true, []⟩))) := .ins
  obtain ⟨N, hN⟩ : ∃ N, l.length = N := ⟨_, rfl⟩
  have hhas := idxF_has l p
  refine Ok.seq (go 10 rfl ?_)
  refine Ok.seq ?_
  cases hpa : pathB p
  · rw [hpa] at hpath
    rw [show mkP l p = (l, 10) by rw [mkP, if_pos hpa]]
    refine Ok.seq (Ok.regionW (G := fun _ => true) (C := TabP _) mixed layOk hT TabP_calm (.inl rfl) ?_)
    refine wstepN rfl rfl (by dsimp only [putV, List.set]) ?_
    first
      | refine wstepN rfl (hit34 (by first | assumption | omega)) (by dsimp only [putV, List.set]) ?_
      | refine wstepN rfl (T1_hit) (by dsimp only [putV, List.set]) ?_
      | refine wstepN rfl (TabP_use (by assumption) (by assumption)) (by dsimp only [putV, List.set]) ?_
      | refine wstepN rfl (TabP_hit (fun v' h => by cases h; rfl) (by assumption)) (by dsimp only [putV, List.set]) ?_
      | refine wstepN rfl (TabP_hit (fun v' h => by cases h; rfl) (by constructor)) (by dsimp only [putV, List.set]) ?_
      | refine wstepN rfl rfl (by dsimp only [putV, List.set]) ?_
    refine wstepN rfl rfl (by dsimp only [putV, List.set]) ?_
    refine wnil (Ok.cond (b := true) rfl (fun _ => ?_) (fun h => by cases h))
    exact go 10 rfl ⟨fun _ h => (by cases h), _, rfl, rfl⟩
  rw [hpa] at hpath
  rw [show mkP l p = if hasF l p then (l, 9) else if perrP l p ≠ 0 then (l, perrP l p) else if 128 ≤ l.length then (l, 4) else (insP l ⟨p, true, []⟩, 0) by rw [mkP, if_neg (by rw [hpa]; simp)]]
  refine Ok.seq (Ok.regionW (G := fun _ => true) (C := TabP _) mixed layOk hT TabP_calm (.inl rfl) ?_)
  refine wstepN rfl rfl (by dsimp only [putV, List.set]) ?_
  first
    | refine wstepN rfl (hit34 (by first | assumption | omega)) (by dsimp only [putV, List.set]) ?_
    | refine wstepN rfl (T1_hit) (by dsimp only [putV, List.set]) ?_
    | refine wstepN rfl (TabP_use (by assumption) (by assumption)) (by dsimp only [putV, List.set]) ?_
    | refine wstepN rfl (TabP_hit (fun v' h => by cases h; rfl) (by assumption)) (by dsimp only [putV, List.set]) ?_
    | refine wstepN rfl (TabP_hit (fun v' h => by cases h; rfl) (by constructor)) (by dsimp only [putV, List.set]) ?_
    | refine wstepN rfl rfl (by dsimp only [putV, List.set]) ?_
  refine wstepN rfl rfl (by dsimp only [putV, List.set]) ?_
  refine wnil (Ok.cond (b := false) rfl (fun h => by cases h) (fun _ => ?_))
  refine Ok.skip ?_
  refine Ok.seq ?_
  cases hh : hasF l p
  case true =>
    rw [hh] at hhas
    have hq : decide (idxF l p ≥ 0) = true := by
      have := of_decide_eq_false hhas
      exact decide_eq_true (by omega)
    rw [if_pos rfl]
    refine Ok.seq (Ok.regionW (G := fun _ => true) (C := TabP _) mixed layOk hT TabP_calm (.inl rfl) ?_)
    refine wstepN rfl rfl (by dsimp only [putV, List.set]) ?_
    refine wstepN rfl rfl (by dsimp only [putV, List.set]) ?_
    first
      | refine wstepN rfl (hit42 (by first | assumption | omega)) (by dsimp only [putV, List.set]) ?_
      | refine wstepN rfl (T1_hit) (by dsimp only [putV, List.set]) ?_
      | refine wstepN rfl (TabP_use (by assumption) (by assumption)) (by dsimp only [putV, List.set]) ?_
      | refine wstepN rfl (TabP_hit (fun v' h => by cases h; rfl) (by assumption)) (by dsimp only [putV, List.set]) ?_
      | refine wstepN rfl (TabP_hit (fun v' h => by cases h; rfl) (by constructor)) (by dsimp only [putV, List.set]) ?_
      | refine wstepN rfl rfl (by dsimp only [putV, List.set]) ?_
    first
      | refine wstepN rfl (geqK h0 rfl rfl) (by dsimp only [putV, List.set]) ?_
      | refine wstepN rfl (geqK (by assumption) rfl rfl) (by dsimp only [putV, List.set]) ?_
      | refine wstepN rfl rfl (by dsimp only [putV, List.set]) ?_
    refine wnil (Ok.cond (b := true) rfl (fun _ => ?_) (fun h => by cases h))
    exact go 10 rfl ⟨fun _ h => (by cases h), _, rfl, rfl⟩
  rw [hh] at hhas
  have hq : decide (idxF l p ≥ 0) = false := by
    have := of_decide_eq_true hhas
    exact decide_eq_false (by omega)
  rw [if_neg (by simp)]
  refine Ok.seq (Ok.regionW (G := fun _ => true) (C := TabP _) mixed layOk hT TabP_calm (.inl rfl) ?_)
  refine wstepN rfl rfl (by dsimp only [putV, List.set]) ?_
  refine wstepN rfl rfl (by dsimp only [putV, List.set]) ?_
  first
    | refine wstepN rfl (hit42 (by first | assumption | omega)) (by dsimp only [putV, List.set]) ?_
    | refine wstepN rfl (T1_hit) (by dsimp only [putV, List.set]) ?_
    | refine wstepN rfl (TabP_use (by assumption) (by assumption)) (by dsimp only [putV, List.set]) ?_
    | refine wstepN rfl (TabP_hit (fun v' h => by cases h; rfl) (by assumption)) (by dsimp only [putV, List.set]) ?_
    | refine wstepN rfl (TabP_hit (fun v' h => by cases h; rfl) (by constructor)) (by dsimp only [putV, List.set]) ?_
    | refine wstepN rfl rfl (by dsimp only [putV, List.set]) ?_
  first
    | refine wstepN rfl (geqK h0 rfl rfl) (by dsimp only [putV, List.set]) ?_
    | refine wstepN rfl (geqK (by assumption) rfl rfl) (by dsimp only [putV, List.set]) ?_
    | refine wstepN rfl rfl (by dsimp only [putV, List.set]) ?_
  refine wnil (Ok.cond (b := false) rfl (fun h => by cases h) (fun _ => ?_))
  refine Ok.skip ?_
  generalize perrP l p = e at hpe ⊢
  refine Ok.seq ?_
  refine Ok.seq (Ok.regionW (G := fun _ => true) (C := TabP _) mixed layOk hT TabP_calm (.inl rfl) ?_)
  refine wstepN rfl rfl (by dsimp only [putV, List.set]) ?_
  refine wstepN rfl rfl (by dsimp only [putV, List.set]) ?_
  first
    | refine wstepN rfl (hit43 (by first | assumption | omega)) (by dsimp only [putV, List.set]) ?_
    | refine wstepN rfl (T1_hit) (by dsimp only [putV, List.set]) ?_
    | refine wstepN rfl (TabP_use (by assumption) (by assumption)) (by dsimp only [putV, List.set]) ?_
    | refine wstepN rfl (TabP_hit (fun v' h => by cases h; rfl) (by assumption)) (by dsimp only [putV, List.set]) ?_
    | refine wstepN rfl (TabP_hit (fun v' h => by cases h; rfl) (by constructor)) (by dsimp only [putV, List.set]) ?_
    | refine wstepN rfl rfl (by dsimp only [putV, List.set]) ?_
  refine wstepN rfl rfl (by dsimp only [putV, List.set]) ?_
  refine wnil ?_
  by_cases he : e = 0
  · have hne : (e != 0) = false := by simpa using he
    rw [if_neg (by simpa using he)]
    refine Ok.seq (Ok.regionW (G := fun _ => true) (C := TabP _) mixed layOk noT TabP_calm (.inl rfl) ?_)
    refine wstepN rfl rfl (by dsimp only [putV, List.set]) ?_
    first
      | refine wstepN rfl (neqK (by assumption) rfl rfl) (by dsimp only [putV, List.set]) ?_
      | refine wstepN rfl rfl (by dsimp only [putV, List.set]) ?_
    refine wnil (Ok.cond (b := false) rfl (fun h => by cases h) (fun _ => ?_))
    refine Ok.skip ?_
    refine Ok.seq ?_
    cases h128 : decide ((N : Int) ≥ 128)
    · have h4 := of_decide_eq_false h128
      rw [if_neg (by omega)]
      refine Ok.seq (Ok.regionW (G := fun _ => true) (C := TabP _) mixed layOk noT TabP_calm (.inl rfl) ?_)
      refine wstepN rfl rfl (by dsimp only [putV, List.set]) ?_
      first
        | refine wstepN rfl (lenF hN rfl rfl) (by dsimp only [putV, List.set]) ?_
        | refine wstepN rfl (lenF hM rfl rfl) (by dsimp only [putV, List.set]) ?_
        | refine wstepN rfl (lenF (by assumption) rfl rfl) (by dsimp only [putV, List.set]) ?_
        | refine wstepN rfl rfl (by dsimp only [putV, List.set]) ?_
      first
        | refine wstepN rfl (geqK h128 rfl rfl) (by dsimp only [putV, List.set]) ?_
        | refine wstepN rfl (geqK (by assumption) rfl rfl) (by dsimp only [putV, List.set]) ?_
        | refine wstepN rfl rfl (by dsimp only [putV, List.set]) ?_
      refine wnil (Ok.cond (b := false) rfl (fun h => by cases h) (fun _ => ?_))
      refine Ok.skip ?_
      refine Ok.seq (Ok.regionW (G := fun _ => true) (C := TabP _) mixed layOk hT TabP_calm (.inl rfl) ?_)
      refine wstepN rfl rfl (by dsimp only [putV, List.set]) ?_
      refine wstepN rfl rfl (by dsimp only [putV, List.set]) ?_
      refine wstepN rfl rfl (by dsimp only [putV, List.set]) ?_
      first
        | refine wstepN rfl (hit45 (by first | assumption | omega)) (by dsimp only [putV, List.set]) ?_
        | refine wstepN rfl (T1_hit) (by dsimp only [putV, List.set]) ?_
        | refine wstepN rfl (TabP_use (by assumption) (by assumption)) (by dsimp only [putV, List.set]) ?_
        | refine wstepN rfl (TabP_hit (fun v' h => by cases h; rfl) (by assumption)) (by dsimp only [putV, List.set]) ?_
        | refine wstepN rfl (TabP_hit (fun v' h => by cases h; rfl) (by constructor)) (by dsimp only [putV, List.set]) ?_
        | refine wstepN rfl rfl (by dsimp only [putV, List.set]) ?_
      refine wstepN rfl rfl (by dsimp only [putV, List.set]) ?_
      refine wstepN rfl rfl (by dsimp only [putV, List.set]) ?_
      refine wnil (Ok.ret ⟨fun _ h => (by cases h), _, rfl, rfl⟩)
    · have h4 := of_decide_eq_true h128
      rw [if_pos (by omega)]
      refine Ok.seq (Ok.regionW (G := fun _ => true) (C := TabP _) mixed layOk noT TabP_calm (.inl rfl) ?_)
      refine wstepN rfl rfl (by dsimp only [putV, List.set]) ?_
      first
        | refine wstepN rfl (lenF hN rfl rfl) (by dsimp only [putV, List.set]) ?_
        | refine wstepN rfl (lenF hM rfl rfl) (by dsimp only [putV, List.set]) ?_
        | refine wstepN rfl (lenF (by assumption) rfl rfl) (by dsimp only [putV, List.set]) ?_
        | refine wstepN rfl rfl (by dsimp only [putV, List.set]) ?_
      first
        | refine wstepN rfl (geqK h128 rfl rfl) (by dsimp only [putV, List.set]) ?_
        | refine wstepN rfl (geqK (by assumption) rfl rfl) (by dsimp only [putV, List.set]) ?_
        | refine wstepN rfl rfl (by dsimp only [putV, List.set]) ?_
      refine wnil (Ok.cond (b := true) rfl (fun _ => ?_) (fun h => by cases h))
      exact go 10 rfl ⟨fun _ h => (by cases h), _, rfl, rfl⟩
  · have hne : (e != 0) = true := by simpa using he
    rw [if_pos he]
    refine Ok.seq (Ok.regionW (G := fun _ => true) (C := TabP _) mixed layOk noT TabP_calm (.inl rfl) ?_)
    refine wstepN rfl rfl (by dsimp only [putV, List.set]) ?_
    first
      | refine wstepN rfl (neqK (by assumption) rfl rfl) (by dsimp only [putV, List.set]) ?_
      | refine wstepN rfl rfl (by dsimp only [putV, List.set]) ?_
    refine wnil (Ok.cond (b := true) rfl (fun _ => ?_) (fun h => by cases h))
    exact go 10 rfl ⟨fun _ h => (by cases h), _, rfl, rfl⟩

end Go.Proofs.YtiefcnghjcafbaaDoorV

/- Lists of files: Remove, the program's; the reference's Put, Mkdir, Remove. -/
namespace Go.Proofs.YtiefcnghjcafbaaDoorV
open Go Go.RowKit Go.Proofs.YtiefcnghjcafbaaDoor
set_option maxRecDepth 20000
set_option maxHeartbeats 1000000

inductive T23 (l : List Fl) (k : Nat) : FuncId → List V → List Bx → V → List Bx → Prop
  | cp : T23 l k 44 [.sl (rowsF l), iV ((0 : Nat) : Int)] [] (.win 0 3 0 l.length l.length) [.cells (flatF l)]
  | del : T23 l k 50 [.win 0 3 0 l.length l.length, iV (k : Int), iV ((k + 1 : Nat) : Int)] [.cells (flatF l)] (.win 0 3 0 (k + (l.length - (k + 1))) l.length) [.cells (flatF (l.eraseIdx k ++ [zeroF]))]
theorem T23_good (l : List Fl) (k : Nat) (hl : l.length ≤ 1000) (hk : k < l.length) : Good Tryd.prog (TabB (T23 l k)) := TabB_good fun f vs bs v bs' h => by
  cases h with
  | cp => exact ⟨copied44z l hl, Tryd.call44⟩
  | del => exact ⟨delete50 l k (by omega) hk, Tryd.call50⟩
theorem T23_hit1 {l : List Fl} {k : Nat} : TabB (T23 l k) 44 [.sl (rowsF l), iV ((0 : Nat) : Int)] [] = some (.win 0 3 0 l.length l.length, [.cells (flatF l)]) := TabB_hit (fun v' b' h => by cases h; exact ⟨rfl, rfl⟩) .cp
theorem T23_hit2 {l : List Fl} {k : Nat} : TabB (T23 l k) 50 [.win 0 3 0 l.length l.length, iV (k : Int), iV ((k + 1 : Nat) : Int)] [.cells (flatF l)] = some (.win 0 3 0 (k + (l.length - (k + 1))) l.length, [.cells (flatF (l.eraseIdx k ++ [zeroF]))]) := TabB_hit (fun v' b' h => by cases h; exact ⟨rfl, rfl⟩) .del

theorem rm23 (l : List Fl) (p : List UInt8) (hl : l.length ≤ 1000) (hp : p.length ≤ 10000) (hps : ∀ f ∈ l, f.path.length ≤ 10000) : FnOk Tryd.prog 23 [.sl (rowsF l), T p] [] (fun r bs' => fr bs' r = .tup [.sl (rowsF (rmP l p).1), iV (rmP l p).2]) := by
  refine FnOk.fast (Q := fun r => r = .tup [.sl (rowsF (rmP l p).1), iV (rmP l p).2]) layOk Tryd.func23 rfl ?_
  have hT := PC_good l p ⟨p, true, []⟩ hl hp hps
  have hU := PC_u l p ⟨p, true, []⟩
  have hpath : PC l p ⟨p, true, []⟩ 34 [T p] (bV (pathB p)) := .path
  have hix : PC l p ⟨p, true, []⟩ 42 [.sl (rowsF l), T p] (iV (idxF l p)) := .idx
  have hho : PC l p ⟨p, true, []⟩ 49 [.sl (rowsF l), T p] (bV (holdsF l p)) := .hold
  refine Ok.seq (go 10 rfl ?_)
  refine Ok.seq (Ok.block ?_)
  cases hpa : pathB p
  · rw [hpa] at hpath
    rw [show rmP l p = (l, 10) by rw [rmP, if_pos hpa]]
    refine Ok.seq (Ok.regionW (G := fun _ => true) (C := TabP _) mixed layOk hT TabP_calm (.inl rfl) ?_)
    refine wstepN rfl rfl (by dsimp only [putV, List.set]) ?_
    first
      | refine wstepN rfl (hit34 (by first | assumption | omega)) (by dsimp only [putV, List.set]) ?_
      | refine wstepN rfl (T1_hit) (by dsimp only [putV, List.set]) ?_
      | refine wstepN rfl (TabP_use (by assumption) (by assumption)) (by dsimp only [putV, List.set]) ?_
      | refine wstepN rfl (TabP_hit (fun v' h => by cases h; rfl) (by assumption)) (by dsimp only [putV, List.set]) ?_
      | refine wstepN rfl (TabP_hit (fun v' h => by cases h; rfl) (by constructor)) (by dsimp only [putV, List.set]) ?_
      | refine wstepN rfl rfl (by dsimp only [putV, List.set]) ?_
    refine wstepN rfl rfl (by dsimp only [putV, List.set]) ?_
    refine wstepN rfl rfl (by dsimp only [putV, List.set]) ?_
    refine wnil (Ok.cond (b := true) rfl (fun _ => ?_) (fun h => by cases h))
    exact go 10 rfl ⟨fun _ h => (by cases h), _, rfl, rfl⟩
  rw [hpa] at hpath
  refine Ok.seq (Ok.regionW (G := fun _ => true) (C := TabP _) mixed layOk hT TabP_calm (.inl rfl) ?_)
  refine wstepN rfl rfl (by dsimp only [putV, List.set]) ?_
  first
    | refine wstepN rfl (hit34 (by first | assumption | omega)) (by dsimp only [putV, List.set]) ?_
    | refine wstepN rfl (T1_hit) (by dsimp only [putV, List.set]) ?_
    | refine wstepN rfl (TabP_use (by assumption) (by assumption)) (by dsimp only [putV, List.set]) ?_
    | refine wstepN rfl (TabP_hit (fun v' h => by cases h; rfl) (by assumption)) (by dsimp only [putV, List.set]) ?_
    | refine wstepN rfl (TabP_hit (fun v' h => by cases h; rfl) (by constructor)) (by dsimp only [putV, List.set]) ?_
    | refine wstepN rfl rfl (by dsimp only [putV, List.set]) ?_
  refine wstepN rfl rfl (by dsimp only [putV, List.set]) ?_
  refine wstepN rfl rfl (by dsimp only [putV, List.set]) ?_
  refine wnil (Ok.cond (b := false) rfl (fun h => by cases h) (fun _ => ?_))
  by_cases h47 : p = [47]
  · have hq : decide (p = [47]) = true := decide_eq_true h47
    rw [show rmP l p = (l, 23) by rw [rmP, if_neg (by rw [hpa]; simp), if_pos h47]]
    refine Ok.seq (Ok.regionW (G := fun _ => true) (C := TabP _) mixed layOk noT TabP_calm (.inl rfl) ?_)
    refine wstepN rfl rfl (by dsimp only [putV, List.set]) ?_
    first
      | refine wstepN rfl (eqT (by assumption) rfl rfl) (by dsimp only [putV, List.set]) ?_
      | refine wstepN rfl rfl (by dsimp only [putV, List.set]) ?_
    refine wstepN rfl rfl (by dsimp only [putV, List.set]) ?_
    refine wnil (Ok.cond (b := true) rfl (fun _ => ?_) (fun h => by cases h))
    exact go 10 rfl ⟨fun _ h => (by cases h), _, rfl, rfl⟩
  have hq : decide (p = [47]) = false := decide_eq_false h47
  refine Ok.seq (Ok.regionW (G := fun _ => true) (C := TabP _) mixed layOk noT TabP_calm (.inl rfl) ?_)
  refine wstepN rfl rfl (by dsimp only [putV, List.set]) ?_
  first
    | refine wstepN rfl (eqT (by assumption) rfl rfl) (by dsimp only [putV, List.set]) ?_
    | refine wstepN rfl rfl (by dsimp only [putV, List.set]) ?_
  refine wstepN rfl rfl (by dsimp only [putV, List.set]) ?_
  refine wnil (Ok.cond (b := false) rfl (fun h => by cases h) (fun _ => ?_))
  rcases fi_cases l p with ⟨h1, h2⟩ | ⟨k, f, h1, h2, hk⟩
  · rw [h2] at hix
    have hq2 : decide ((-1 : Int) < 0) = true := rfl
    rw [show rmP l p = (l, 8) by rw [rmP, if_neg (by rw [hpa]; simp), if_neg h47, h1]]
    refine Ok.seq (Ok.regionW (G := fun _ => true) (C := TabP _) mixed layOk hT TabP_calm (.inl rfl) ?_)
    refine wstepN rfl rfl (by dsimp only [putV, List.set]) ?_
    refine wstepN rfl rfl (by dsimp only [putV, List.set]) ?_
    first
      | refine wstepN rfl (hit42 (by first | assumption | omega)) (by dsimp only [putV, List.set]) ?_
      | refine wstepN rfl (T1_hit) (by dsimp only [putV, List.set]) ?_
      | refine wstepN rfl (TabP_use (by assumption) (by assumption)) (by dsimp only [putV, List.set]) ?_
      | refine wstepN rfl (TabP_hit (fun v' h => by cases h; rfl) (by assumption)) (by dsimp only [putV, List.set]) ?_
      | refine wstepN rfl (TabP_hit (fun v' h => by cases h; rfl) (by constructor)) (by dsimp only [putV, List.set]) ?_
      | refine wstepN rfl rfl (by dsimp only [putV, List.set]) ?_
    first
      | refine wstepN rfl (lssK h0 rfl rfl) (by dsimp only [putV, List.set]) ?_
      | refine wstepN rfl (ltT (by assumption) rfl rfl) (by dsimp only [putV, List.set]) ?_
      | refine wstepN rfl (lssK (by assumption) rfl rfl) (by dsimp only [putV, List.set]) ?_
      | refine wstepN rfl rfl (by dsimp only [putV, List.set]) ?_
    refine wstepN rfl rfl (by dsimp only [putV, List.set]) ?_
    refine wnil (Ok.cond (b := true) rfl (fun _ => ?_) (fun h => by cases h))
    exact go 10 rfl ⟨fun _ h => (by cases h), _, rfl, rfl⟩
  · rw [h2] at hix
    have hq2 : decide (((k : Nat) : Int) < 0) = false := decide_eq_false (by omega)
    have hkl : k < l.length := (List.getElem?_eq_some_iff.1 hk).1
    refine Ok.seq (Ok.regionW (G := fun _ => true) (C := TabP _) mixed layOk hT TabP_calm (.inl rfl) ?_)
    refine wstepN rfl rfl (by dsimp only [putV, List.set]) ?_
    refine wstepN rfl rfl (by dsimp only [putV, List.set]) ?_
    first
      | refine wstepN rfl (hit42 (by first | assumption | omega)) (by dsimp only [putV, List.set]) ?_
      | refine wstepN rfl (T1_hit) (by dsimp only [putV, List.set]) ?_
      | refine wstepN rfl (TabP_use (by assumption) (by assumption)) (by dsimp only [putV, List.set]) ?_
      | refine wstepN rfl (TabP_hit (fun v' h => by cases h; rfl) (by assumption)) (by dsimp only [putV, List.set]) ?_
      | refine wstepN rfl (TabP_hit (fun v' h => by cases h; rfl) (by constructor)) (by dsimp only [putV, List.set]) ?_
      | refine wstepN rfl rfl (by dsimp only [putV, List.set]) ?_
    first
      | refine wstepN rfl (lssK h0 rfl rfl) (by dsimp only [putV, List.set]) ?_
      | refine wstepN rfl (ltT (by assumption) rfl rfl) (by dsimp only [putV, List.set]) ?_
      | refine wstepN rfl (lssK (by assumption) rfl rfl) (by dsimp only [putV, List.set]) ?_
      | refine wstepN rfl rfl (by dsimp only [putV, List.set]) ?_
    refine wstepN rfl rfl (by dsimp only [putV, List.set]) ?_
    refine wnil (Ok.cond (b := false) rfl (fun h => by cases h) (fun _ => ?_))
    cases hh : holdsF l p
    case true =>
      rw [hh] at hho
      rw [show rmP l p = (l, 19) by rw [rmP, if_neg (by rw [hpa]; simp), if_neg h47, h1]; simp [hh]]
      refine Ok.seq (Ok.regionW (G := fun _ => true) (C := TabP _) mixed layOk hT TabP_calm (.inl rfl) ?_)
      refine wstepN rfl rfl (by dsimp only [putV, List.set]) ?_
      refine wstepN rfl rfl (by dsimp only [putV, List.set]) ?_
      first
        | refine wstepN rfl (hit49 (by first | assumption | omega)) (by dsimp only [putV, List.set]) ?_
        | refine wstepN rfl (T1_hit) (by dsimp only [putV, List.set]) ?_
        | refine wstepN rfl (TabP_use (by assumption) (by assumption)) (by dsimp only [putV, List.set]) ?_
        | refine wstepN rfl (TabP_hit (fun v' h => by cases h; rfl) (by assumption)) (by dsimp only [putV, List.set]) ?_
        | refine wstepN rfl (TabP_hit (fun v' h => by cases h; rfl) (by constructor)) (by dsimp only [putV, List.set]) ?_
        | refine wstepN rfl rfl (by dsimp only [putV, List.set]) ?_
      refine wstepN rfl rfl (by dsimp only [putV, List.set]) ?_
      refine wnil (Ok.cond (b := true) rfl (fun _ => ?_) (fun h => by cases h))
      exact go 10 rfl ⟨fun _ h => (by cases h), _, rfl, rfl⟩
    rw [hh] at hho
    rw [show rmP l p = (l.eraseIdx k, 0) by rw [rmP, if_neg (by rw [hpa]; simp), if_neg h47, h1]; simp [hh]]
    refine Ok.seq (Ok.regionW (G := fun _ => true) (C := TabP _) mixed layOk hT TabP_calm (.inl rfl) ?_)
    refine wstepN rfl rfl (by dsimp only [putV, List.set]) ?_
    refine wstepN rfl rfl (by dsimp only [putV, List.set]) ?_
    first
      | refine wstepN rfl (hit49 (by first | assumption | omega)) (by dsimp only [putV, List.set]) ?_
      | refine wstepN rfl (T1_hit) (by dsimp only [putV, List.set]) ?_
      | refine wstepN rfl (TabP_use (by assumption) (by assumption)) (by dsimp only [putV, List.set]) ?_
      | refine wstepN rfl (TabP_hit (fun v' h => by cases h; rfl) (by assumption)) (by dsimp only [putV, List.set]) ?_
      | refine wstepN rfl (TabP_hit (fun v' h => by cases h; rfl) (by constructor)) (by dsimp only [putV, List.set]) ?_
      | refine wstepN rfl rfl (by dsimp only [putV, List.set]) ?_
    refine wstepN rfl rfl (by dsimp only [putV, List.set]) ?_
    refine wnil (Ok.cond (b := false) rfl (fun h => by cases h) (fun _ => ?_))
    refine Ok.skip ?_
    refine Ok.gcE (bs2 := []) (ts2 := ((List.replicate 36 V.gone).set 0 (.sl (rowsF l))).set 1 (T p)) [] [0, 1] (by kernel_rfl) (by decide) (floor_ok rfl) rfl ?_
    simp only [List.replicate, List.set]
    refine Ok.seq (Ok.regionW (G := fun _ => true) (C := TabP _) mixed layOk hT TabP_calm (.inl rfl) ?_)
    refine wstepN rfl rfl (by dsimp only [putV, List.set]) ?_
    refine wstepN rfl rfl (by dsimp only [putV, List.set]) ?_
    first
      | refine wstepN rfl (hit42 (by first | assumption | omega)) (by dsimp only [putV, List.set]) ?_
      | refine wstepN rfl (T1_hit) (by dsimp only [putV, List.set]) ?_
      | refine wstepN rfl (TabP_use (by assumption) (by assumption)) (by dsimp only [putV, List.set]) ?_
      | refine wstepN rfl (TabP_hit (fun v' h => by cases h; rfl) (by assumption)) (by dsimp only [putV, List.set]) ?_
      | refine wstepN rfl (TabP_hit (fun v' h => by cases h; rfl) (by constructor)) (by dsimp only [putV, List.set]) ?_
      | refine wstepN rfl rfl (by dsimp only [putV, List.set]) ?_
    refine wstepN rfl rfl (by dsimp only [putV, List.set]) ?_
    refine wnil ?_
    have hadd : IntKind.i64.wrap ((k : Int) + 1) = ((k + 1 : Nat) : Int) := by rw [wrap64 (by omega) (by omega)]; omega
    refine Ok.seq (Ok.regionW (G := fun _ => false) (C := TabB (T23 l k)) mixed layOk (T23_good l k hl hkl) (fun _ _ h => by cases h) (.inl rfl) ?_)
    refine wstepN rfl rfl (by dsimp only [putV, List.set]) ?_
    refine wstepN rfl (T23_hit1) (by dsimp only [putV, List.set]) ?_
    refine wstepN rfl rfl (by dsimp only [putV, List.set]) ?_
    refine wstepN rfl rfl (by dsimp only [putV, List.set]) ?_
    first
      | refine wstepN rfl (incT (by omega) rfl rfl) (by dsimp only [putV, List.set]) ?_
      | refine wstepN rfl (addK (by assumption) rfl rfl) (by dsimp only [putV, List.set]) ?_
      | refine wstepN rfl rfl (by dsimp only [putV, List.set]) ?_
    refine wstepN rfl (T23_hit2) (by dsimp only [putV, List.set]) ?_
    refine wstepN rfl rfl (by dsimp only [putV, List.set]) ?_
    refine wstepN rfl rfl (by dsimp only [putV, List.set]) ?_
    refine wnil (Ok.ret ⟨fun _ h => (by cases h), _, rfl, ?_⟩)
    refine fr_tup ?_ rfl
    have hle : (l.eraseIdx k).length = k + (l.length - (k + 1)) := by
      rw [List.length_eraseIdx_of_lt hkl]
      omega
    have := fr_winF (bs := [.cells (flatF (l.eraseIdx k ++ [zeroF]))]) (j := 0) (q := 0) (n := k + (l.length - (k + 1))) (c := l.length) (a := l.eraseIdx k ++ [zeroF]) rfl (by simp only [List.length_append, hle]; simp)
    rw [List.drop_zero, List.take_left' hle] at this
    exact this

inductive PR (l : List Fl) (p : List UInt8) (f : Fl) (m : List Fl) : FuncId → List V → V → Prop
  | path : PR l p f m 18 [T p] (bV (pathB p))
  | idx : PR l p f m 46 [.sl (rowsF l), T p] (iV (idxF l p))
  | perr : PR l p f m 33 [.sl (rowsF l), T p] (iV (perrR l p))
  | without : PR l p f m 48 [.sl (rowsF l), T p] (.sl (rowsF (withoutF l p)))
  | ins : PR l p f m 47 [.sl (rowsF m), valF f] (.sl (rowsF (insR m f)))
  | hold : PR l p f m 51 [.sl (rowsF l), T p] (bV (holdsF l p))
theorem PR_u (l : List Fl) (p : List UInt8) (f : Fl) (m : List Fl) : Uniq (PR l p f m) := fun g vs v v' h h' => by cases h <;> cases h' <;> rfl
theorem PR_good (l : List Fl) (p : List UInt8) (f : Fl) (m : List Fl) (hl : l.length ≤ 1000) (hm : m.length ≤ 1000) (hp : p.length ≤ 10000) (hps : ∀ f ∈ l, f.path.length ≤ 10000) : Good Tryd.prog (TabP (PR l p f m)) := TabP_good fun g vs v h => by
  cases h with
  | path => exact ⟨rpath18 p, rfl, rfl, Tryd.call18⟩
  | idx => exact ⟨rfind46 l p (by omega), rfl, rfl, Tryd.call46⟩
  | perr => exact ⟨rperr33 l p (by omega) hp, rfl, rfl, Tryd.call33⟩
  | without => exact ⟨rwithout48 l p (by omega), rfl, rfl, Tryd.call48⟩
  | ins => exact ⟨rinsert47 m f (by omega), rfl, rfl, Tryd.call47⟩
  | hold => exact ⟨rholds51 l p (by omega) (fun f hf => by have := hps f hf; omega), rfl, rfl, Tryd.call51⟩
theorem without_len (l : List Fl) (p : List UInt8) : (withoutF l p).length ≤ l.length := List.length_filter_le _ _

theorem rput20 (l : List Fl) (p d : List UInt8) (hl : l.length ≤ 1000) (hp : p.length ≤ 10000) (hps : ∀ f ∈ l, f.path.length ≤ 10000) : FnOk Tryd.prog 20 [.sl (rowsF l), T p, T d] [] (fun r bs' => fr bs' r = .tup [.sl (rowsF (putR l p d).1), iV (putR l p d).2]) := by
  refine FnOk.fast (Q := fun r => r = .tup [.sl (rowsF (putR l p d).1), iV (putR l p d).2]) layOk Tryd.func20 rfl ?_
  have hwl := without_len l p
  have hT := PR_good l p ⟨p, false, d⟩ (withoutF l p) hl (by omega) hp hps
  have hU := PR_u l p ⟨p, false, d⟩ (withoutF l p)
  have hpath : PR l p ⟨p, false, d⟩ (withoutF l p) 18 [T p] (bV (pathB p)) := .path
  have hix : PR l p ⟨p, false, d⟩ (withoutF l p) 46 [.sl (rowsF l), T p] (iV (idxF l p)) := .idx
  have hpe : PR l p ⟨p, false, d⟩ (withoutF l p) 33 [.sl (rowsF l), T p] (iV (perrR l p)) := .perr
  have hwo : PR l p ⟨p, false, d⟩ (withoutF l p) 48 [.sl (rowsF l), T p] (.sl (rowsF (withoutF l p))) := .without
  have hin : PR l p ⟨p, false, d⟩ (withoutF l p) 47 [.sl (rowsF (withoutF l p)), valF ⟨p, false, d⟩] (.sl (rowsF (insR (withoutF l p) ⟨p, false, d⟩))) := .ins
  obtain ⟨N, hN⟩ : ∃ N, l.length = N := ⟨_, rfl⟩
  refine Ok.seq (go 10 rfl ?_)
  refine Ok.seq ?_
  cases hpa : pathB p
  · rw [hpa] at hpath
    rw [show putR l p d = (l, 10) by rw [putR, if_pos hpa]]
    refine Ok.seq (Ok.regionW (G := fun _ => true) (C := TabP _) mixed layOk hT TabP_calm (.inl rfl) ?_)
    refine wstepN rfl rfl (by dsimp only [putV, List.set]) ?_
    first
      | refine wstepN rfl (hit18 (by first | assumption | omega)) (by dsimp only [putV, List.set]) ?_
      | refine wstepN rfl (T1_hit) (by dsimp only [putV, List.set]) ?_
      | refine wstepN rfl (TabP_use (by assumption) (by assumption)) (by dsimp only [putV, List.set]) ?_
      | refine wstepN rfl (TabP_hit (fun v' h => by cases h; rfl) (by assumption)) (by dsimp only [putV, List.set]) ?_
      | refine wstepN rfl (TabP_hit (fun v' h => by cases h; rfl) (by constructor)) (by dsimp only [putV, List.set]) ?_
      | refine wstepN rfl rfl (by dsimp only [putV, List.set]) ?_
    refine wstepN rfl rfl (by dsimp only [putV, List.set]) ?_
    refine wnil (Ok.cond (b := true) rfl (fun _ => ?_) (fun h => by cases h))
    exact go 10 rfl ⟨fun _ h => (by cases h), _, rfl, rfl⟩
  rw [hpa] at hpath
  refine Ok.seq (Ok.regionW (G := fun _ => true) (C := TabP _) mixed layOk hT TabP_calm (.inl rfl) ?_)
  refine wstepN rfl rfl (by dsimp only [putV, List.set]) ?_
  first
    | refine wstepN rfl (hit18 (by first | assumption | omega)) (by dsimp only [putV, List.set]) ?_
    | refine wstepN rfl (T1_hit) (by dsimp only [putV, List.set]) ?_
    | refine wstepN rfl (TabP_use (by assumption) (by assumption)) (by dsimp only [putV, List.set]) ?_
    | refine wstepN rfl (TabP_hit (fun v' h => by cases h; rfl) (by assumption)) (by dsimp only [putV, List.set]) ?_
    | refine wstepN rfl (TabP_hit (fun v' h => by cases h; rfl) (by constructor)) (by dsimp only [putV, List.set]) ?_
    | refine wstepN rfl rfl (by dsimp only [putV, List.set]) ?_
  refine wstepN rfl rfl (by dsimp only [putV, List.set]) ?_
  refine wnil (Ok.cond (b := false) rfl (fun h => by cases h) (fun _ => ?_))
  refine Ok.skip ?_
  refine Ok.seq ?_
  cases h8192 : decide ((d.length : Int) > 8192)
  case true =>
    have h3 := of_decide_eq_true h8192
    rw [show putR l p d = (l, 3) by rw [putR, if_neg (by rw [hpa]; simp), if_pos (by omega)]]
    refine Ok.seq (Ok.regionW (G := fun _ => true) (C := TabP _) mixed layOk noT TabP_calm (.inl rfl) ?_)
    refine wstepN rfl rfl (by dsimp only [putV, List.set]) ?_
    first
      | refine wstepN rfl (lenT rfl rfl) (by dsimp only [putV, List.set]) ?_
      | refine wstepN rfl rfl (by dsimp only [putV, List.set]) ?_
    first
      | refine wstepN rfl (gtrK h8192 rfl rfl) (by dsimp only [putV, List.set]) ?_
      | refine wstepN rfl (gtrK (by assumption) rfl rfl) (by dsimp only [putV, List.set]) ?_
      | refine wstepN rfl rfl (by dsimp only [putV, List.set]) ?_
    refine wnil (Ok.cond (b := true) rfl (fun _ => ?_) (fun h => by cases h))
    exact go 10 rfl ⟨fun _ h => (by cases h), _, rfl, rfl⟩
  have h3 := of_decide_eq_false h8192
  have hput0 : putR l p d = match l.findIdx? fun f => decide (f.path = p) with
      | some i => if dirAt l i = true then (l, 17) else if perrR l p ≠ 0 then (l, perrR l p) else (insR (withoutF l p) ⟨p, false, d⟩, 0)
      | none => if perrR l p ≠ 0 then (l, perrR l p) else if 128 ≤ l.length then (l, 4) else (insR (withoutF l p) ⟨p, false, d⟩, 0) := by
    rw [putR, if_neg (by rw [hpa]; simp), if_neg (by omega)]; try rfl
  rw [hput0]
  refine Ok.seq (Ok.regionW (G := fun _ => true) (C := TabP _) mixed layOk noT TabP_calm (.inl rfl) ?_)
  refine wstepN rfl rfl (by dsimp only [putV, List.set]) ?_
  first
    | refine wstepN rfl (lenT rfl rfl) (by dsimp only [putV, List.set]) ?_
    | refine wstepN rfl rfl (by dsimp only [putV, List.set]) ?_
  first
    | refine wstepN rfl (gtrK h8192 rfl rfl) (by dsimp only [putV, List.set]) ?_
    | refine wstepN rfl (gtrK (by assumption) rfl rfl) (by dsimp only [putV, List.set]) ?_
    | refine wstepN rfl rfl (by dsimp only [putV, List.set]) ?_
  refine wnil (Ok.cond (b := false) rfl (fun h => by cases h) (fun _ => ?_))
  refine Ok.skip ?_
  rcases fi_cases l p with ⟨h1, h2⟩ | ⟨k, f, h1, h2, hk⟩
  · rw [h2] at hix
    rw [h1]
    dsimp only
    obtain ⟨ii, hii⟩ : ∃ ii : Int, ii = -1 := ⟨_, rfl⟩
    rw [← hii] at hix
    have hq : decide (ii ≥ 0) = false := by rw [hii]; rfl
    have hq2 : decide (ii < 0) = true := by rw [hii]; rfl
    refine Ok.seq (Ok.regionW (G := fun _ => true) (C := TabP _) mixed layOk hT TabP_calm (.inl rfl) ?_)
    refine wstepN rfl rfl (by dsimp only [putV, List.set]) ?_
    refine wstepN rfl rfl (by dsimp only [putV, List.set]) ?_
    first
      | refine wstepN rfl (hit46 (by first | assumption | omega)) (by dsimp only [putV, List.set]) ?_
      | refine wstepN rfl (T1_hit) (by dsimp only [putV, List.set]) ?_
      | refine wstepN rfl (TabP_use (by assumption) (by assumption)) (by dsimp only [putV, List.set]) ?_
      | refine wstepN rfl (TabP_hit (fun v' h => by cases h; rfl) (by assumption)) (by dsimp only [putV, List.set]) ?_
      | refine wstepN rfl (TabP_hit (fun v' h => by cases h; rfl) (by constructor)) (by dsimp only [putV, List.set]) ?_
      | refine wstepN rfl rfl (by dsimp only [putV, List.set]) ?_
    refine wstepN rfl rfl (by dsimp only [putV, List.set]) ?_
    refine wnil ?_
    refine Ok.gcE (bs2 := []) (ts2 := ((((List.replicate 53 V.gone).set 0 (.sl (rowsF l))).set 1 (T p)).set 2 (T d)).set 8 (iV ii)) [] [0, 1, 2, 8] (by kernel_rfl) (by decide) (floor_ok rfl) rfl ?_
    simp only [List.replicate, List.set]
    refine Ok.seq ?_
    refine Ok.seq (Ok.regionW (G := fun _ => true) (C := TabP _) mixed layOk noT TabP_calm (.inl rfl) ?_)
    refine wstepN rfl rfl (by dsimp only [putV, List.set]) ?_
    first
      | refine wstepN rfl (geqK h0 rfl rfl) (by dsimp only [putV, List.set]) ?_
      | refine wstepN rfl (geqK (by assumption) rfl rfl) (by dsimp only [putV, List.set]) ?_
      | refine wstepN rfl rfl (by dsimp only [putV, List.set]) ?_
    refine wstepN rfl rfl (by dsimp only [putV, List.set]) ?_
    first
      | refine wskipN rfl (by dsimp only [putV, List.set]) ?_
      | refine wstepN rfl rfl (by dsimp only [putV, List.set]) ?_
    first
      | refine wskipN rfl (by dsimp only [putV, List.set]) ?_
      | refine wstepN rfl rfl (by dsimp only [putV, List.set]) ?_
    first
      | refine wskipN rfl (by dsimp only [putV, List.set]) ?_
      | refine wstepN rfl (ev_ix rfl rfl rfl (by assumption) rfl) (by dsimp only [putV, List.set]) ?_
      | refine wstepN rfl rfl (by dsimp only [putV, List.set]) ?_
    first
      | refine wskipN rfl (by dsimp only [putV, List.set]) ?_
      | refine wstepN rfl rfl (by dsimp only [putV, List.set]) ?_
    first
      | refine wskipN rfl (by dsimp only [putV, List.set]) ?_
      | refine wstepN rfl rfl (by dsimp only [putV, List.set]) ?_
    refine wstepN rfl rfl (by dsimp only [putV, List.set]) ?_
    refine wnil (Ok.cond (b := false) rfl (fun h => by cases h) (fun _ => ?_))
    refine Ok.skip ?_
    generalize perrR l p = e at hpe ⊢
    refine Ok.seq (Ok.regionW (G := fun _ => true) (C := TabP _) mixed layOk hT TabP_calm (.inl rfl) ?_)
    refine wstepN rfl rfl (by dsimp only [putV, List.set]) ?_
    refine wstepN rfl rfl (by dsimp only [putV, List.set]) ?_
    first
      | refine wstepN rfl (hit33 (by first | assumption | omega)) (by dsimp only [putV, List.set]) ?_
      | refine wstepN rfl (T1_hit) (by dsimp only [putV, List.set]) ?_
      | refine wstepN rfl (TabP_use (by assumption) (by assumption)) (by dsimp only [putV, List.set]) ?_
      | refine wstepN rfl (TabP_hit (fun v' h => by cases h; rfl) (by assumption)) (by dsimp only [putV, List.set]) ?_
      | refine wstepN rfl (TabP_hit (fun v' h => by cases h; rfl) (by constructor)) (by dsimp only [putV, List.set]) ?_
      | refine wstepN rfl rfl (by dsimp only [putV, List.set]) ?_
    refine wstepN rfl rfl (by dsimp only [putV, List.set]) ?_
    refine wnil ?_
    refine Ok.seq ?_
    by_cases he : e = 0
    · have hne : (e != 0) = false := by simpa using he
      rw [if_neg (by simpa using he)]
      refine Ok.seq (Ok.regionW (G := fun _ => true) (C := TabP _) mixed layOk noT TabP_calm (.inl rfl) ?_)
      refine wstepN rfl rfl (by dsimp only [putV, List.set]) ?_
      first
        | refine wstepN rfl (neqK (by assumption) rfl rfl) (by dsimp only [putV, List.set]) ?_
        | refine wstepN rfl rfl (by dsimp only [putV, List.set]) ?_
      refine wnil (Ok.cond (b := false) rfl (fun h => by cases h) (fun _ => ?_))
      refine Ok.skip ?_
      refine Ok.seq ?_
      cases h128 : decide ((N : Int) ≥ 128)
      · have h4 := of_decide_eq_false h128
        rw [if_neg (by omega)]
        refine Ok.seq (Ok.regionW (G := fun _ => true) (C := TabP _) mixed layOk noT TabP_calm (.inl rfl) ?_)
        refine wstepN rfl rfl (by dsimp only [putV, List.set]) ?_
        first
          | refine wstepN rfl (lssK h0 rfl rfl) (by dsimp only [putV, List.set]) ?_
          | refine wstepN rfl (ltT (by assumption) rfl rfl) (by dsimp only [putV, List.set]) ?_
          | refine wstepN rfl (lssK (by assumption) rfl rfl) (by dsimp only [putV, List.set]) ?_
          | refine wstepN rfl rfl (by dsimp only [putV, List.set]) ?_
        refine wstepN rfl rfl (by dsimp only [putV, List.set]) ?_
        first
          | refine wskipN rfl (by dsimp only [putV, List.set]) ?_
          | refine wstepN rfl rfl (by dsimp only [putV, List.set]) ?_
        first
          | refine wskipN rfl (by dsimp only [putV, List.set]) ?_
          | refine wstepN rfl (lenF hN rfl rfl) (by dsimp only [putV, List.set]) ?_
          | refine wstepN rfl (lenF hM rfl rfl) (by dsimp only [putV, List.set]) ?_
          | refine wstepN rfl (lenF (by assumption) rfl rfl) (by dsimp only [putV, List.set]) ?_
          | refine wstepN rfl rfl (by dsimp only [putV, List.set]) ?_
        first
          | refine wskipN rfl (by dsimp only [putV, List.set]) ?_
          | refine wstepN rfl (geqK h128 rfl rfl) (by dsimp only [putV, List.set]) ?_
          | refine wstepN rfl (geqK (by assumption) rfl rfl) (by dsimp only [putV, List.set]) ?_
          | refine wstepN rfl rfl (by dsimp only [putV, List.set]) ?_
        refine wstepN rfl rfl (by dsimp only [putV, List.set]) ?_
        refine wnil (Ok.cond (b := false) rfl (fun h => by cases h) (fun _ => ?_))
        refine Ok.skip ?_
        refine Ok.seq (Ok.regionW (G := fun _ => true) (C := TabP _) mixed layOk hT TabP_calm (.inl rfl) ?_)
        refine wstepN rfl rfl (by dsimp only [putV, List.set]) ?_
        refine wstepN rfl rfl (by dsimp only [putV, List.set]) ?_
        first
          | refine wstepN rfl (hit48 (by first | assumption | omega)) (by dsimp only [putV, List.set]) ?_
          | refine wstepN rfl (T1_hit) (by dsimp only [putV, List.set]) ?_
          | refine wstepN rfl (TabP_use (by assumption) (by assumption)) (by dsimp only [putV, List.set]) ?_
          | refine wstepN rfl (TabP_hit (fun v' h => by cases h; rfl) (by assumption)) (by dsimp only [putV, List.set]) ?_
          | refine wstepN rfl (TabP_hit (fun v' h => by cases h; rfl) (by constructor)) (by dsimp only [putV, List.set]) ?_
          | refine wstepN rfl rfl (by dsimp only [putV, List.set]) ?_
        refine wstepN rfl rfl (by dsimp only [putV, List.set]) ?_
        refine wstepN rfl rfl (by dsimp only [putV, List.set]) ?_
        refine wstepN rfl rfl (by dsimp only [putV, List.set]) ?_
        first
          | refine wstepN rfl (hit47 (by first | assumption | omega)) (by dsimp only [putV, List.set]) ?_
          | refine wstepN rfl (T1_hit) (by dsimp only [putV, List.set]) ?_
          | refine wstepN rfl (TabP_use (by assumption) (by assumption)) (by dsimp only [putV, List.set]) ?_
          | refine wstepN rfl (TabP_hit (fun v' h => by cases h; rfl) (by assumption)) (by dsimp only [putV, List.set]) ?_
          | refine wstepN rfl (TabP_hit (fun v' h => by cases h; rfl) (by constructor)) (by dsimp only [putV, List.set]) ?_
          | refine wstepN rfl rfl (by dsimp only [putV, List.set]) ?_
        refine wstepN rfl rfl (by dsimp only [putV, List.set]) ?_
        refine wstepN rfl rfl (by dsimp only [putV, List.set]) ?_
        refine wnil (Ok.ret ⟨fun _ h => (by cases h), _, rfl, rfl⟩)
      · have h4 := of_decide_eq_true h128
        rw [if_pos (by omega)]
        refine Ok.seq (Ok.regionW (G := fun _ => true) (C := TabP _) mixed layOk noT TabP_calm (.inl rfl) ?_)
        refine wstepN rfl rfl (by dsimp only [putV, List.set]) ?_
        first
          | refine wstepN rfl (lssK h0 rfl rfl) (by dsimp only [putV, List.set]) ?_
          | refine wstepN rfl (ltT (by assumption) rfl rfl) (by dsimp only [putV, List.set]) ?_
          | refine wstepN rfl (lssK (by assumption) rfl rfl) (by dsimp only [putV, List.set]) ?_
          | refine wstepN rfl rfl (by dsimp only [putV, List.set]) ?_
        refine wstepN rfl rfl (by dsimp only [putV, List.set]) ?_
        first
          | refine wskipN rfl (by dsimp only [putV, List.set]) ?_
          | refine wstepN rfl rfl (by dsimp only [putV, List.set]) ?_
        first
          | refine wskipN rfl (by dsimp only [putV, List.set]) ?_
          | refine wstepN rfl (lenF hN rfl rfl) (by dsimp only [putV, List.set]) ?_
          | refine wstepN rfl (lenF hM rfl rfl) (by dsimp only [putV, List.set]) ?_
          | refine wstepN rfl (lenF (by assumption) rfl rfl) (by dsimp only [putV, List.set]) ?_
          | refine wstepN rfl rfl (by dsimp only [putV, List.set]) ?_
        first
          | refine wskipN rfl (by dsimp only [putV, List.set]) ?_
          | refine wstepN rfl (geqK h128 rfl rfl) (by dsimp only [putV, List.set]) ?_
          | refine wstepN rfl (geqK (by assumption) rfl rfl) (by dsimp only [putV, List.set]) ?_
          | refine wstepN rfl rfl (by dsimp only [putV, List.set]) ?_
        refine wstepN rfl rfl (by dsimp only [putV, List.set]) ?_
        refine wnil (Ok.cond (b := true) rfl (fun _ => ?_) (fun h => by cases h))
        exact go 10 rfl ⟨fun _ h => (by cases h), _, rfl, rfl⟩
    · have hne : (e != 0) = true := by simpa using he
      rw [if_pos he]
      refine Ok.seq (Ok.regionW (G := fun _ => true) (C := TabP _) mixed layOk noT TabP_calm (.inl rfl) ?_)
      refine wstepN rfl rfl (by dsimp only [putV, List.set]) ?_
      first
        | refine wstepN rfl (neqK (by assumption) rfl rfl) (by dsimp only [putV, List.set]) ?_
        | refine wstepN rfl rfl (by dsimp only [putV, List.set]) ?_
      refine wnil (Ok.cond (b := true) rfl (fun _ => ?_) (fun h => by cases h))
      exact go 10 rfl ⟨fun _ h => (by cases h), _, rfl, rfl⟩
  · rw [h2] at hix
    rw [h1]
    dsimp only
    have hq : decide (((k : Nat) : Int) ≥ 0) = true := by simp
    have hq2 : decide (((k : Nat) : Int) < 0) = false := decide_eq_false (by omega)
    have hget := rowsF_at hk
    rw [show dirAt l k = f.dir by rw [dirAt, hk]]
    refine Ok.seq (Ok.regionW (G := fun _ => true) (C := TabP _) mixed layOk hT TabP_calm (.inl rfl) ?_)
    refine wstepN rfl rfl (by dsimp only [putV, List.set]) ?_
    refine wstepN rfl rfl (by dsimp only [putV, List.set]) ?_
    first
      | refine wstepN rfl (hit46 (by first | assumption | omega)) (by dsimp only [putV, List.set]) ?_
      | refine wstepN rfl (T1_hit) (by dsimp only [putV, List.set]) ?_
      | refine wstepN rfl (TabP_use (by assumption) (by assumption)) (by dsimp only [putV, List.set]) ?_
      | refine wstepN rfl (TabP_hit (fun v' h => by cases h; rfl) (by assumption)) (by dsimp only [putV, List.set]) ?_
      | refine wstepN rfl (TabP_hit (fun v' h => by cases h; rfl) (by constructor)) (by dsimp only [putV, List.set]) ?_
      | refine wstepN rfl rfl (by dsimp only [putV, List.set]) ?_
    refine wstepN rfl rfl (by dsimp only [putV, List.set]) ?_
    refine wnil ?_
    refine Ok.gcE (bs2 := []) (ts2 := ((((List.replicate 53 V.gone).set 0 (.sl (rowsF l))).set 1 (T p)).set 2 (T d)).set 8 (iV (k : Int))) [] [0, 1, 2, 8] (by kernel_rfl) (by decide) (floor_ok rfl) rfl ?_
    simp only [List.replicate, List.set]
    refine Ok.seq ?_
    refine Ok.seq (Ok.regionW (G := fun _ => true) (C := TabP _) mixed layOk noT TabP_calm (.inl rfl) ?_)
    refine wstepN rfl rfl (by dsimp only [putV, List.set]) ?_
    first
      | refine wstepN rfl (geqK h0 rfl rfl) (by dsimp only [putV, List.set]) ?_
      | refine wstepN rfl (geqK (by assumption) rfl rfl) (by dsimp only [putV, List.set]) ?_
      | refine wstepN rfl rfl (by dsimp only [putV, List.set]) ?_
    refine wstepN rfl rfl (by dsimp only [putV, List.set]) ?_
    first
      | refine wskipN rfl (by dsimp only [putV, List.set]) ?_
      | refine wstepN rfl rfl (by dsimp only [putV, List.set]) ?_
    first
      | refine wskipN rfl (by dsimp only [putV, List.set]) ?_
      | refine wstepN rfl rfl (by dsimp only [putV, List.set]) ?_
    first
      | refine wskipN rfl (by dsimp only [putV, List.set]) ?_
      | refine wstepN rfl (ev_ix rfl rfl rfl (by assumption) rfl) (by dsimp only [putV, List.set]) ?_
      | refine wstepN rfl rfl (by dsimp only [putV, List.set]) ?_
    first
      | refine wskipN rfl (by dsimp only [putV, List.set]) ?_
      | refine wstepN rfl rfl (by dsimp only [putV, List.set]) ?_
    first
      | refine wskipN rfl (by dsimp only [putV, List.set]) ?_
      | refine wstepN rfl rfl (by dsimp only [putV, List.set]) ?_
    refine wstepN rfl rfl (by dsimp only [putV, List.set]) ?_
    cases hd : f.dir
    case true =>
      rw [if_pos rfl]
      refine wnil (Ok.cond (b := true) rfl (fun _ => ?_) (fun h => by cases h))
      exact go 10 rfl ⟨fun _ h => (by cases h), _, rfl, rfl⟩
    rw [if_neg (by simp)]
    refine wnil (Ok.cond (b := false) rfl (fun h => by cases h) (fun _ => ?_))
    refine Ok.skip ?_
    refine Ok.gcE (bs2 := []) (ts2 := ((((List.replicate 53 V.gone).set 0 (.sl (rowsF l))).set 1 (T p)).set 2 (T d)).set 8 (iV (k : Int))) [] [0, 1, 2, 8] (by kernel_rfl) (by decide) (floor_ok rfl) rfl ?_
    simp only [List.replicate, List.set]
    generalize perrR l p = e at hpe ⊢
    refine Ok.seq (Ok.regionW (G := fun _ => true) (C := TabP _) mixed layOk hT TabP_calm (.inl rfl) ?_)
    refine wstepN rfl rfl (by dsimp only [putV, List.set]) ?_
    refine wstepN rfl rfl (by dsimp only [putV, List.set]) ?_
    first
      | refine wstepN rfl (hit33 (by first | assumption | omega)) (by dsimp only [putV, List.set]) ?_
      | refine wstepN rfl (T1_hit) (by dsimp only [putV, List.set]) ?_
      | refine wstepN rfl (TabP_use (by assumption) (by assumption)) (by dsimp only [putV, List.set]) ?_
      | refine wstepN rfl (TabP_hit (fun v' h => by cases h; rfl) (by assumption)) (by dsimp only [putV, List.set]) ?_
      | refine wstepN rfl (TabP_hit (fun v' h => by cases h; rfl) (by constructor)) (by dsimp only [putV, List.set]) ?_
      | refine wstepN rfl rfl (by dsimp only [putV, List.set]) ?_
    refine wstepN rfl rfl (by dsimp only [putV, List.set]) ?_
    refine wnil ?_
    refine Ok.seq ?_
    by_cases he : e = 0
    · have hne : (e != 0) = false := by simpa using he
      rw [if_neg (by simpa using he)]
      refine Ok.seq (Ok.regionW (G := fun _ => true) (C := TabP _) mixed layOk noT TabP_calm (.inl rfl) ?_)
      refine wstepN rfl rfl (by dsimp only [putV, List.set]) ?_
      first
        | refine wstepN rfl (neqK (by assumption) rfl rfl) (by dsimp only [putV, List.set]) ?_
        | refine wstepN rfl rfl (by dsimp only [putV, List.set]) ?_
      refine wnil (Ok.cond (b := false) rfl (fun h => by cases h) (fun _ => ?_))
      refine Ok.skip ?_
      refine Ok.seq ?_
      refine Ok.seq (Ok.regionW (G := fun _ => true) (C := TabP _) mixed layOk noT TabP_calm (.inl rfl) ?_)
      refine wstepN rfl rfl (by dsimp only [putV, List.set]) ?_
      first
        | refine wstepN rfl (lssK h0 rfl rfl) (by dsimp only [putV, List.set]) ?_
        | refine wstepN rfl (ltT (by assumption) rfl rfl) (by dsimp only [putV, List.set]) ?_
        | refine wstepN rfl (lssK (by assumption) rfl rfl) (by dsimp only [putV, List.set]) ?_
        | refine wstepN rfl rfl (by dsimp only [putV, List.set]) ?_
      refine wstepN rfl rfl (by dsimp only [putV, List.set]) ?_
      first
        | refine wskipN rfl (by dsimp only [putV, List.set]) ?_
        | refine wstepN rfl rfl (by dsimp only [putV, List.set]) ?_
      first
        | refine wskipN rfl (by dsimp only [putV, List.set]) ?_
        | refine wstepN rfl (lenF hN rfl rfl) (by dsimp only [putV, List.set]) ?_
        | refine wstepN rfl (lenF hM rfl rfl) (by dsimp only [putV, List.set]) ?_
        | refine wstepN rfl (lenF (by assumption) rfl rfl) (by dsimp only [putV, List.set]) ?_
        | refine wstepN rfl rfl (by dsimp only [putV, List.set]) ?_
      first
        | refine wskipN rfl (by dsimp only [putV, List.set]) ?_
        | refine wstepN rfl (geqK h128 rfl rfl) (by dsimp only [putV, List.set]) ?_
        | refine wstepN rfl (geqK (by assumption) rfl rfl) (by dsimp only [putV, List.set]) ?_
        | refine wstepN rfl rfl (by dsimp only [putV, List.set]) ?_
      refine wstepN rfl rfl (by dsimp only [putV, List.set]) ?_
      refine wnil (Ok.cond (b := false) rfl (fun h => by cases h) (fun _ => ?_))
      refine Ok.skip ?_
      refine Ok.seq (Ok.regionW (G := fun _ => true) (C := TabP _) mixed layOk hT TabP_calm (.inl rfl) ?_)
      refine wstepN rfl rfl (by dsimp only [putV, List.set]) ?_
      refine wstepN rfl rfl (by dsimp only [putV, List.set]) ?_
      first
        | refine wstepN rfl (hit48 (by first | assumption | omega)) (by dsimp only [putV, List.set]) ?_
        | refine wstepN rfl (T1_hit) (by dsimp only [putV, List.set]) ?_
        | refine wstepN rfl (TabP_use (by assumption) (by assumption)) (by dsimp only [putV, List.set]) ?_
        | refine wstepN rfl (TabP_hit (fun v' h => by cases h; rfl) (by assumption)) (by dsimp only [putV, List.set]) ?_
        | refine wstepN rfl (TabP_hit (fun v' h => by cases h; rfl) (by constructor)) (by dsimp only [putV, List.set]) ?_
        | refine wstepN rfl rfl (by dsimp only [putV, List.set]) ?_
      refine wstepN rfl rfl (by dsimp only [putV, List.set]) ?_
      refine wstepN rfl rfl (by dsimp only [putV, List.set]) ?_
      refine wstepN rfl rfl (by dsimp only [putV, List.set]) ?_
      first
        | refine wstepN rfl (hit47 (by first | assumption | omega)) (by dsimp only [putV, List.set]) ?_
        | refine wstepN rfl (T1_hit) (by dsimp only [putV, List.set]) ?_
        | refine wstepN rfl (TabP_use (by assumption) (by assumption)) (by dsimp only [putV, List.set]) ?_
        | refine wstepN rfl (TabP_hit (fun v' h => by cases h; rfl) (by assumption)) (by dsimp only [putV, List.set]) ?_
        | refine wstepN rfl (TabP_hit (fun v' h => by cases h; rfl) (by constructor)) (by dsimp only [putV, List.set]) ?_
        | refine wstepN rfl rfl (by dsimp only [putV, List.set]) ?_
      refine wstepN rfl rfl (by dsimp only [putV, List.set]) ?_
      refine wstepN rfl rfl (by dsimp only [putV, List.set]) ?_
      refine wnil (Ok.ret ⟨fun _ h => (by cases h), _, rfl, rfl⟩)
    · have hne : (e != 0) = true := by simpa using he
      rw [if_pos he]
      refine Ok.seq (Ok.regionW (G := fun _ => true) (C := TabP _) mixed layOk noT TabP_calm (.inl rfl) ?_)
      refine wstepN rfl rfl (by dsimp only [putV, List.set]) ?_
      first
        | refine wstepN rfl (neqK (by assumption) rfl rfl) (by dsimp only [putV, List.set]) ?_
        | refine wstepN rfl rfl (by dsimp only [putV, List.set]) ?_
      refine wnil (Ok.cond (b := true) rfl (fun _ => ?_) (fun h => by cases h))
      exact go 10 rfl ⟨fun _ h => (by cases h), _, rfl, rfl⟩

theorem rmk22 (l : List Fl) (p : List UInt8) (hl : l.length ≤ 1000) (hp : p.length ≤ 10000) (hps : ∀ f ∈ l, f.path.length ≤ 10000) : FnOk Tryd.prog 22 [.sl (rowsF l), T p] [] (fun r bs' => fr bs' r = .tup [.sl (rowsF (mkR l p).1), iV (mkR l p).2]) := by
  refine FnOk.fast (Q := fun r => r = .tup [.sl (rowsF (mkR l p).1), iV (mkR l p).2]) layOk Tryd.func22 rfl ?_
  have hT := PR_good l p ⟨p, true, []⟩ l hl hl hp hps
  have hU := PR_u l p ⟨p, true, []⟩ l
  have hpath : PR l p ⟨p, true, []⟩ l 18 [T p] (bV (pathB p)) := .path
  have hix : PR l p ⟨p, true, []⟩ l 46 [.sl (rowsF l), T p] (iV (idxF l p)) := .idx
  have hpe : PR l p ⟨p, true, []⟩ l 33 [.sl (rowsF l), T p] (iV (perrR l p)) := .perr
  have hin : PR l p ⟨p, true, []⟩ l 47 [.sl (rowsF l), valF ⟨p, true, []⟩] (.sl (rowsF (insR l ⟨p, true, []⟩))) := .ins
  obtain ⟨N, hN⟩ : ∃ N, l.length = N := ⟨_, rfl⟩
  have hhas := idxF_has l p
  refine Ok.seq (go 10 rfl ?_)
  refine Ok.seq ?_
  cases hpa : pathB p
  · rw [hpa] at hpath
    rw [show mkR l p = (l, 10) by rw [mkR, if_pos hpa]]
    refine Ok.seq (Ok.regionW (G := fun _ => true) (C := TabP _) mixed layOk hT TabP_calm (.inl rfl) ?_)
    refine wstepN rfl rfl (by dsimp only [putV, List.set]) ?_
    first
      | refine wstepN rfl (hit18 (by first | assumption | omega)) (by dsimp only [putV, List.set]) ?_
      | refine wstepN rfl (T1_hit) (by dsimp only [putV, List.set]) ?_
      | refine wstepN rfl (TabP_use (by assumption) (by assumption)) (by dsimp only [putV, List.set]) ?_
      | refine wstepN rfl (TabP_hit (fun v' h => by cases h; rfl) (by assumption)) (by dsimp only [putV, List.set]) ?_
      | refine wstepN rfl (TabP_hit (fun v' h => by cases h; rfl) (by constructor)) (by dsimp only [putV, List.set]) ?_
      | refine wstepN rfl rfl (by dsimp only [putV, List.set]) ?_
    refine wstepN rfl rfl (by dsimp only [putV, List.set]) ?_
    refine wnil (Ok.cond (b := true) rfl (fun _ => ?_) (fun h => by cases h))
    exact go 10 rfl ⟨fun _ h => (by cases h), _, rfl, rfl⟩
  rw [hpa] at hpath
  rw [show mkR l p = if hasF l p then (l, 9) else if perrR l p ≠ 0 then (l, perrR l p) else if 128 ≤ l.length then (l, 4) else (insR l ⟨p, true, []⟩, 0) by rw [mkR, if_neg (by rw [hpa]; simp)]]
  refine Ok.seq (Ok.regionW (G := fun _ => true) (C := TabP _) mixed layOk hT TabP_calm (.inl rfl) ?_)
  refine wstepN rfl rfl (by dsimp only [putV, List.set]) ?_
  first
    | refine wstepN rfl (hit18 (by first | assumption | omega)) (by dsimp only [putV, List.set]) ?_
    | refine wstepN rfl (T1_hit) (by dsimp only [putV, List.set]) ?_
    | refine wstepN rfl (TabP_use (by assumption) (by assumption)) (by dsimp only [putV, List.set]) ?_
    | refine wstepN rfl (TabP_hit (fun v' h => by cases h; rfl) (by assumption)) (by dsimp only [putV, List.set]) ?_
    | refine wstepN rfl (TabP_hit (fun v' h => by cases h; rfl) (by constructor)) (by dsimp only [putV, List.set]) ?_
    | refine wstepN rfl rfl (by dsimp only [putV, List.set]) ?_
  refine wstepN rfl rfl (by dsimp only [putV, List.set]) ?_
  refine wnil (Ok.cond (b := false) rfl (fun h => by cases h) (fun _ => ?_))
  refine Ok.skip ?_
  refine Ok.seq ?_
  cases hh : hasF l p
  case true =>
    rw [hh] at hhas
    have hq : decide (idxF l p ≥ 0) = true := by
      have := of_decide_eq_false hhas
      exact decide_eq_true (by omega)
    rw [if_pos rfl]
    refine Ok.seq (Ok.regionW (G := fun _ => true) (C := TabP _) mixed layOk hT TabP_calm (.inl rfl) ?_)
    refine wstepN rfl rfl (by dsimp only [putV, List.set]) ?_
    refine wstepN rfl rfl (by dsimp only [putV, List.set]) ?_
    first
      | refine wstepN rfl (hit46 (by first | assumption | omega)) (by dsimp only [putV, List.set]) ?_
      | refine wstepN rfl (T1_hit) (by dsimp only [putV, List.set]) ?_
      | refine wstepN rfl (TabP_use (by assumption) (by assumption)) (by dsimp only [putV, List.set]) ?_
      | refine wstepN rfl (TabP_hit (fun v' h => by cases h; rfl) (by assumption)) (by dsimp only [putV, List.set]) ?_
      | refine wstepN rfl (TabP_hit (fun v' h => by cases h; rfl) (by constructor)) (by dsimp only [putV, List.set]) ?_
      | refine wstepN rfl rfl (by dsimp only [putV, List.set]) ?_
    first
      | refine wstepN rfl (geqK h0 rfl rfl) (by dsimp only [putV, List.set]) ?_
      | refine wstepN rfl (geqK (by assumption) rfl rfl) (by dsimp only [putV, List.set]) ?_
      | refine wstepN rfl rfl (by dsimp only [putV, List.set]) ?_
    refine wnil (Ok.cond (b := true) rfl (fun _ => ?_) (fun h => by cases h))
    exact go 10 rfl ⟨fun _ h => (by cases h), _, rfl, rfl⟩
  rw [hh] at hhas
  have hq : decide (idxF l p ≥ 0) = false := by
    have := of_decide_eq_true hhas
    exact decide_eq_false (by omega)
  rw [if_neg (by simp)]
  refine Ok.seq (Ok.regionW (G := fun _ => true) (C := TabP _) mixed layOk hT TabP_calm (.inl rfl) ?_)
  refine wstepN rfl rfl (by dsimp only [putV, List.set]) ?_
  refine wstepN rfl rfl (by dsimp only [putV, List.set]) ?_
  first
    | refine wstepN rfl (hit46 (by first | assumption | omega)) (by dsimp only [putV, List.set]) ?_
    | refine wstepN rfl (T1_hit) (by dsimp only [putV, List.set]) ?_
    | refine wstepN rfl (TabP_use (by assumption) (by assumption)) (by dsimp only [putV, List.set]) ?_
    | refine wstepN rfl (TabP_hit (fun v' h => by cases h; rfl) (by assumption)) (by dsimp only [putV, List.set]) ?_
    | refine wstepN rfl (TabP_hit (fun v' h => by cases h; rfl) (by constructor)) (by dsimp only [putV, List.set]) ?_
    | refine wstepN rfl rfl (by dsimp only [putV, List.set]) ?_
  first
    | refine wstepN rfl (geqK h0 rfl rfl) (by dsimp only [putV, List.set]) ?_
    | refine wstepN rfl (geqK (by assumption) rfl rfl) (by dsimp only [putV, List.set]) ?_
    | refine wstepN rfl rfl (by dsimp only [putV, List.set]) ?_
  refine wnil (Ok.cond (b := false) rfl (fun h => by cases h) (fun _ => ?_))
  refine Ok.skip ?_
  generalize perrR l p = e at hpe ⊢
  refine Ok.seq (Ok.regionW (G := fun _ => true) (C := TabP _) mixed layOk hT TabP_calm (.inl rfl) ?_)
  refine wstepN rfl rfl (by dsimp only [putV, List.set]) ?_
  refine wstepN rfl rfl (by dsimp only [putV, List.set]) ?_
  first
    | refine wstepN rfl (hit33 (by first | assumption | omega)) (by dsimp only [putV, List.set]) ?_
    | refine wstepN rfl (T1_hit) (by dsimp only [putV, List.set]) ?_
    | refine wstepN rfl (TabP_use (by assumption) (by assumption)) (by dsimp only [putV, List.set]) ?_
    | refine wstepN rfl (TabP_hit (fun v' h => by cases h; rfl) (by assumption)) (by dsimp only [putV, List.set]) ?_
    | refine wstepN rfl (TabP_hit (fun v' h => by cases h; rfl) (by constructor)) (by dsimp only [putV, List.set]) ?_
    | refine wstepN rfl rfl (by dsimp only [putV, List.set]) ?_
  refine wstepN rfl rfl (by dsimp only [putV, List.set]) ?_
  refine wnil ?_
  refine Ok.seq ?_
  by_cases he : e = 0
  · have hne : (e != 0) = false := by simpa using he
    rw [if_neg (by simpa using he)]
    refine Ok.seq (Ok.regionW (G := fun _ => true) (C := TabP _) mixed layOk noT TabP_calm (.inl rfl) ?_)
    refine wstepN rfl rfl (by dsimp only [putV, List.set]) ?_
    first
      | refine wstepN rfl (neqK (by assumption) rfl rfl) (by dsimp only [putV, List.set]) ?_
      | refine wstepN rfl rfl (by dsimp only [putV, List.set]) ?_
    refine wnil (Ok.cond (b := false) rfl (fun h => by cases h) (fun _ => ?_))
    refine Ok.skip ?_
    refine Ok.seq ?_
    cases h128 : decide ((N : Int) ≥ 128)
    · have h4 := of_decide_eq_false h128
      rw [if_neg (by omega)]
      refine Ok.seq (Ok.regionW (G := fun _ => true) (C := TabP _) mixed layOk noT TabP_calm (.inl rfl) ?_)
      refine wstepN rfl rfl (by dsimp only [putV, List.set]) ?_
      first
        | refine wstepN rfl (lenF hN rfl rfl) (by dsimp only [putV, List.set]) ?_
        | refine wstepN rfl (lenF hM rfl rfl) (by dsimp only [putV, List.set]) ?_
        | refine wstepN rfl (lenF (by assumption) rfl rfl) (by dsimp only [putV, List.set]) ?_
        | refine wstepN rfl rfl (by dsimp only [putV, List.set]) ?_
      first
        | refine wstepN rfl (geqK h128 rfl rfl) (by dsimp only [putV, List.set]) ?_
        | refine wstepN rfl (geqK (by assumption) rfl rfl) (by dsimp only [putV, List.set]) ?_
        | refine wstepN rfl rfl (by dsimp only [putV, List.set]) ?_
      refine wnil (Ok.cond (b := false) rfl (fun h => by cases h) (fun _ => ?_))
      refine Ok.skip ?_
      refine Ok.seq (Ok.regionW (G := fun _ => true) (C := TabP _) mixed layOk hT TabP_calm (.inl rfl) ?_)
      refine wstepN rfl rfl (by dsimp only [putV, List.set]) ?_
      refine wstepN rfl rfl (by dsimp only [putV, List.set]) ?_
      refine wstepN rfl rfl (by dsimp only [putV, List.set]) ?_
      first
        | refine wstepN rfl (hit47 (by first | assumption | omega)) (by dsimp only [putV, List.set]) ?_
        | refine wstepN rfl (T1_hit) (by dsimp only [putV, List.set]) ?_
        | refine wstepN rfl (TabP_use (by assumption) (by assumption)) (by dsimp only [putV, List.set]) ?_
        | refine wstepN rfl (TabP_hit (fun v' h => by cases h; rfl) (by assumption)) (by dsimp only [putV, List.set]) ?_
        | refine wstepN rfl (TabP_hit (fun v' h => by cases h; rfl) (by constructor)) (by dsimp only [putV, List.set]) ?_
        | refine wstepN rfl rfl (by dsimp only [putV, List.set]) ?_
      refine wstepN rfl rfl (by dsimp only [putV, List.set]) ?_
      refine wstepN rfl rfl (by dsimp only [putV, List.set]) ?_
      refine wnil (Ok.ret ⟨fun _ h => (by cases h), _, rfl, rfl⟩)
    · have h4 := of_decide_eq_true h128
      rw [if_pos (by omega)]
      refine Ok.seq (Ok.regionW (G := fun _ => true) (C := TabP _) mixed layOk noT TabP_calm (.inl rfl) ?_)
      refine wstepN rfl rfl (by dsimp only [putV, List.set]) ?_
      first
        | refine wstepN rfl (lenF hN rfl rfl) (by dsimp only [putV, List.set]) ?_
        | refine wstepN rfl (lenF hM rfl rfl) (by dsimp only [putV, List.set]) ?_
        | refine wstepN rfl (lenF (by assumption) rfl rfl) (by dsimp only [putV, List.set]) ?_
        | refine wstepN rfl rfl (by dsimp only [putV, List.set]) ?_
      first
        | refine wstepN rfl (geqK h128 rfl rfl) (by dsimp only [putV, List.set]) ?_
        | refine wstepN rfl (geqK (by assumption) rfl rfl) (by dsimp only [putV, List.set]) ?_
        | refine wstepN rfl rfl (by dsimp only [putV, List.set]) ?_
      refine wnil (Ok.cond (b := true) rfl (fun _ => ?_) (fun h => by cases h))
      exact go 10 rfl ⟨fun _ h => (by cases h), _, rfl, rfl⟩
  · have hne : (e != 0) = true := by simpa using he
    rw [if_pos he]
    refine Ok.seq (Ok.regionW (G := fun _ => true) (C := TabP _) mixed layOk noT TabP_calm (.inl rfl) ?_)
    refine wstepN rfl rfl (by dsimp only [putV, List.set]) ?_
    first
      | refine wstepN rfl (neqK (by assumption) rfl rfl) (by dsimp only [putV, List.set]) ?_
      | refine wstepN rfl rfl (by dsimp only [putV, List.set]) ?_
    refine wnil (Ok.cond (b := true) rfl (fun _ => ?_) (fun h => by cases h))
    exact go 10 rfl ⟨fun _ h => (by cases h), _, rfl, rfl⟩

theorem rrm24 (l : List Fl) (p : List UInt8) (hl : l.length ≤ 1000) (hp : p.length ≤ 10000) (hps : ∀ f ∈ l, f.path.length ≤ 10000) : FnOk Tryd.prog 24 [.sl (rowsF l), T p] [] (fun r bs' => fr bs' r = .tup [.sl (rowsF (rmR l p).1), iV (rmR l p).2]) := by
  refine FnOk.fast (Q := fun r => r = .tup [.sl (rowsF (rmR l p).1), iV (rmR l p).2]) layOk Tryd.func24 rfl ?_
  have hT := PR_good l p ⟨p, true, []⟩ l hl hl hp hps
  have hU := PR_u l p ⟨p, true, []⟩ l
  have hpath : PR l p ⟨p, true, []⟩ l 18 [T p] (bV (pathB p)) := .path
  have hix : PR l p ⟨p, true, []⟩ l 46 [.sl (rowsF l), T p] (iV (idxF l p)) := .idx
  have hwo : PR l p ⟨p, true, []⟩ l 48 [.sl (rowsF l), T p] (.sl (rowsF (withoutF l p))) := .without
  have hho : PR l p ⟨p, true, []⟩ l 51 [.sl (rowsF l), T p] (bV (holdsF l p)) := .hold
  refine Ok.seq (go 10 rfl ?_)
  refine Ok.seq ?_
  cases hpa : pathB p
  · rw [hpa] at hpath
    rw [show rmR l p = (l, 10) by rw [rmR, if_pos hpa]]
    refine Ok.seq (Ok.regionW (G := fun _ => true) (C := TabP _) mixed layOk hT TabP_calm (.inl rfl) ?_)
    refine wstepN rfl rfl (by dsimp only [putV, List.set]) ?_
    first
      | refine wstepN rfl (hit18 (by first | assumption | omega)) (by dsimp only [putV, List.set]) ?_
      | refine wstepN rfl (T1_hit) (by dsimp only [putV, List.set]) ?_
      | refine wstepN rfl (TabP_use (by assumption) (by assumption)) (by dsimp only [putV, List.set]) ?_
      | refine wstepN rfl (TabP_hit (fun v' h => by cases h; rfl) (by assumption)) (by dsimp only [putV, List.set]) ?_
      | refine wstepN rfl (TabP_hit (fun v' h => by cases h; rfl) (by constructor)) (by dsimp only [putV, List.set]) ?_
      | refine wstepN rfl rfl (by dsimp only [putV, List.set]) ?_
    refine wstepN rfl rfl (by dsimp only [putV, List.set]) ?_
    refine wnil (Ok.cond (b := true) rfl (fun _ => ?_) (fun h => by cases h))
    exact go 10 rfl ⟨fun _ h => (by cases h), _, rfl, rfl⟩
  rw [hpa] at hpath
  refine Ok.seq (Ok.regionW (G := fun _ => true) (C := TabP _) mixed layOk hT TabP_calm (.inl rfl) ?_)
  refine wstepN rfl rfl (by dsimp only [putV, List.set]) ?_
  first
    | refine wstepN rfl (hit18 (by first | assumption | omega)) (by dsimp only [putV, List.set]) ?_
    | refine wstepN rfl (T1_hit) (by dsimp only [putV, List.set]) ?_
    | refine wstepN rfl (TabP_use (by assumption) (by assumption)) (by dsimp only [putV, List.set]) ?_
    | refine wstepN rfl (TabP_hit (fun v' h => by cases h; rfl) (by assumption)) (by dsimp only [putV, List.set]) ?_
    | refine wstepN rfl (TabP_hit (fun v' h => by cases h; rfl) (by constructor)) (by dsimp only [putV, List.set]) ?_
    | refine wstepN rfl rfl (by dsimp only [putV, List.set]) ?_
  refine wstepN rfl rfl (by dsimp only [putV, List.set]) ?_
  refine wnil (Ok.cond (b := false) rfl (fun h => by cases h) (fun _ => ?_))
  refine Ok.skip ?_
  refine Ok.seq ?_
  by_cases h47 : p = [47]
  · have hq : decide (p = [47]) = true := decide_eq_true h47
    rw [show rmR l p = (l, 23) by rw [rmR, if_neg (by rw [hpa]; simp), if_pos h47]]
    refine Ok.seq (Ok.regionW (G := fun _ => true) (C := TabP _) mixed layOk noT TabP_calm (.inl rfl) ?_)
    refine wstepN rfl rfl (by dsimp only [putV, List.set]) ?_
    first
      | refine wstepN rfl (eqT (by assumption) rfl rfl) (by dsimp only [putV, List.set]) ?_
      | refine wstepN rfl rfl (by dsimp only [putV, List.set]) ?_
    refine wnil (Ok.cond (b := true) rfl (fun _ => ?_) (fun h => by cases h))
    exact go 10 rfl ⟨fun _ h => (by cases h), _, rfl, rfl⟩
  have hq : decide (p = [47]) = false := decide_eq_false h47
  refine Ok.seq (Ok.regionW (G := fun _ => true) (C := TabP _) mixed layOk noT TabP_calm (.inl rfl) ?_)
  refine wstepN rfl rfl (by dsimp only [putV, List.set]) ?_
  first
    | refine wstepN rfl (eqT (by assumption) rfl rfl) (by dsimp only [putV, List.set]) ?_
    | refine wstepN rfl rfl (by dsimp only [putV, List.set]) ?_
  refine wnil (Ok.cond (b := false) rfl (fun h => by cases h) (fun _ => ?_))
  refine Ok.skip ?_
  refine Ok.seq ?_
  rcases fi_cases l p with ⟨h1, h2⟩ | ⟨k, f, h1, h2, hk⟩
  · rw [h2] at hix
    have hq2 : decide ((-1 : Int) < 0) = true := rfl
    rw [show rmR l p = (l, 8) by rw [rmR, if_neg (by rw [hpa]; simp), if_neg h47, h1]]
    refine Ok.seq (Ok.regionW (G := fun _ => true) (C := TabP _) mixed layOk hT TabP_calm (.inl rfl) ?_)
    refine wstepN rfl rfl (by dsimp only [putV, List.set]) ?_
    refine wstepN rfl rfl (by dsimp only [putV, List.set]) ?_
    first
      | refine wstepN rfl (hit46 (by first | assumption | omega)) (by dsimp only [putV, List.set]) ?_
      | refine wstepN rfl (T1_hit) (by dsimp only [putV, List.set]) ?_
      | refine wstepN rfl (TabP_use (by assumption) (by assumption)) (by dsimp only [putV, List.set]) ?_
      | refine wstepN rfl (TabP_hit (fun v' h => by cases h; rfl) (by assumption)) (by dsimp only [putV, List.set]) ?_
      | refine wstepN rfl (TabP_hit (fun v' h => by cases h; rfl) (by constructor)) (by dsimp only [putV, List.set]) ?_
      | refine wstepN rfl rfl (by dsimp only [putV, List.set]) ?_
    first
      | refine wstepN rfl (lssK h0 rfl rfl) (by dsimp only [putV, List.set]) ?_
      | refine wstepN rfl (ltT (by assumption) rfl rfl) (by dsimp only [putV, List.set]) ?_
      | refine wstepN rfl (lssK (by assumption) rfl rfl) (by dsimp only [putV, List.set]) ?_
      | refine wstepN rfl rfl (by dsimp only [putV, List.set]) ?_
    refine wnil (Ok.cond (b := true) rfl (fun _ => ?_) (fun h => by cases h))
    exact go 10 rfl ⟨fun _ h => (by cases h), _, rfl, rfl⟩
  · rw [h2] at hix
    have hq2 : decide (((k : Nat) : Int) < 0) = false := decide_eq_false (by omega)
    refine Ok.seq (Ok.regionW (G := fun _ => true) (C := TabP _) mixed layOk hT TabP_calm (.inl rfl) ?_)
    refine wstepN rfl rfl (by dsimp only [putV, List.set]) ?_
    refine wstepN rfl rfl (by dsimp only [putV, List.set]) ?_
    first
      | refine wstepN rfl (hit46 (by first | assumption | omega)) (by dsimp only [putV, List.set]) ?_
      | refine wstepN rfl (T1_hit) (by dsimp only [putV, List.set]) ?_
      | refine wstepN rfl (TabP_use (by assumption) (by assumption)) (by dsimp only [putV, List.set]) ?_
      | refine wstepN rfl (TabP_hit (fun v' h => by cases h; rfl) (by assumption)) (by dsimp only [putV, List.set]) ?_
      | refine wstepN rfl (TabP_hit (fun v' h => by cases h; rfl) (by constructor)) (by dsimp only [putV, List.set]) ?_
      | refine wstepN rfl rfl (by dsimp only [putV, List.set]) ?_
    first
      | refine wstepN rfl (lssK h0 rfl rfl) (by dsimp only [putV, List.set]) ?_
      | refine wstepN rfl (ltT (by assumption) rfl rfl) (by dsimp only [putV, List.set]) ?_
      | refine wstepN rfl (lssK (by assumption) rfl rfl) (by dsimp only [putV, List.set]) ?_
      | refine wstepN rfl rfl (by dsimp only [putV, List.set]) ?_
    refine wnil (Ok.cond (b := false) rfl (fun h => by cases h) (fun _ => ?_))
    refine Ok.skip ?_
    refine Ok.seq ?_
    cases hh : holdsF l p
    case true =>
      rw [hh] at hho
      rw [show rmR l p = (l, 19) by rw [rmR, if_neg (by rw [hpa]; simp), if_neg h47, h1]; simp [hh]]
      refine Ok.seq (Ok.regionW (G := fun _ => true) (C := TabP _) mixed layOk hT TabP_calm (.inl rfl) ?_)
      refine wstepN rfl rfl (by dsimp only [putV, List.set]) ?_
      refine wstepN rfl rfl (by dsimp only [putV, List.set]) ?_
      first
        | refine wstepN rfl (hit51 (by first | assumption | omega)) (by dsimp only [putV, List.set]) ?_
        | refine wstepN rfl (T1_hit) (by dsimp only [putV, List.set]) ?_
        | refine wstepN rfl (TabP_use (by assumption) (by assumption)) (by dsimp only [putV, List.set]) ?_
        | refine wstepN rfl (TabP_hit (fun v' h => by cases h; rfl) (by assumption)) (by dsimp only [putV, List.set]) ?_
        | refine wstepN rfl (TabP_hit (fun v' h => by cases h; rfl) (by constructor)) (by dsimp only [putV, List.set]) ?_
        | refine wstepN rfl rfl (by dsimp only [putV, List.set]) ?_
      refine wnil (Ok.cond (b := true) rfl (fun _ => ?_) (fun h => by cases h))
      exact go 10 rfl ⟨fun _ h => (by cases h), _, rfl, rfl⟩
    rw [hh] at hho
    rw [show rmR l p = (withoutF l p, 0) by rw [rmR, if_neg (by rw [hpa]; simp), if_neg h47, h1]; simp [hh]]
    refine Ok.seq (Ok.regionW (G := fun _ => true) (C := TabP _) mixed layOk hT TabP_calm (.inl rfl) ?_)
    refine wstepN rfl rfl (by dsimp only [putV, List.set]) ?_
    refine wstepN rfl rfl (by dsimp only [putV, List.set]) ?_
    first
      | refine wstepN rfl (hit51 (by first | assumption | omega)) (by dsimp only [putV, List.set]) ?_
      | refine wstepN rfl (T1_hit) (by dsimp only [putV, List.set]) ?_
      | refine wstepN rfl (TabP_use (by assumption) (by assumption)) (by dsimp only [putV, List.set]) ?_
      | refine wstepN rfl (TabP_hit (fun v' h => by cases h; rfl) (by assumption)) (by dsimp only [putV, List.set]) ?_
      | refine wstepN rfl (TabP_hit (fun v' h => by cases h; rfl) (by constructor)) (by dsimp only [putV, List.set]) ?_
      | refine wstepN rfl rfl (by dsimp only [putV, List.set]) ?_
    refine wnil (Ok.cond (b := false) rfl (fun h => by cases h) (fun _ => ?_))
    refine Ok.skip ?_
    refine Ok.seq (Ok.regionW (G := fun _ => true) (C := TabP _) mixed layOk hT TabP_calm (.inl rfl) ?_)
    refine wstepN rfl rfl (by dsimp only [putV, List.set]) ?_
    refine wstepN rfl rfl (by dsimp only [putV, List.set]) ?_
    first
      | refine wstepN rfl (hit48 (by first | assumption | omega)) (by dsimp only [putV, List.set]) ?_
      | refine wstepN rfl (T1_hit) (by dsimp only [putV, List.set]) ?_
      | refine wstepN rfl (TabP_use (by assumption) (by assumption)) (by dsimp only [putV, List.set]) ?_
      | refine wstepN rfl (TabP_hit (fun v' h => by cases h; rfl) (by assumption)) (by dsimp only [putV, List.set]) ?_
      | refine wstepN rfl (TabP_hit (fun v' h => by cases h; rfl) (by constructor)) (by dsimp only [putV, List.set]) ?_
      | refine wstepN rfl rfl (by dsimp only [putV, List.set]) ?_
    refine wstepN rfl rfl (by dsimp only [putV, List.set]) ?_
    refine wstepN rfl rfl (by dsimp only [putV, List.set]) ?_
    refine wnil (Ok.ret ⟨fun _ h => (by cases h), _, rfl, rfl⟩)

end Go.Proofs.YtiefcnghjcafbaaDoorV

/- The laws about cleaned paths, over plain values. -/
namespace Go.Proofs.YtiefcnghjcafbaaDoorV
open Go Go.RowKit Go.Proofs.YtiefcnghjcafbaaDoor
set_option maxRecDepth 20000
set_option maxHeartbeats 4000000

inductive P5 : FuncId → List V → V → Prop
  | sh (a b : List UInt8) : P5 15 [T a, T b] (bV (decide ((a.length : Int) ≤ 600) && decide ((b.length : Int) ≤ 600)))
  | path (s : List UInt8) : P5 18 [T s] (bV (pathB s))
  | cl (a b : List UInt8) (h1 : a.length ≤ 1000) (h2 : b.length ≤ 1000) : P5 16 [T a, T b] (.tup [T (cleanB trimP a b).1, iV (cleanB trimP a b).2])
  | rcl (a b : List UInt8) (h1 : a.length ≤ 1000) (h2 : b.length ≤ 1000) : P5 17 [T a, T b] (.tup [T (cleanB trimP a b).1, iV (cleanB trimP a b).2])
  | ex : P5 9 [] (bV true)
theorem P5_u : Uniq P5 := fun f vs v v' h h' => by cases h <;> cases h' <;> rfl
theorem P5_good : Good Tryd.prog (TabP P5) := TabP_good fun f vs v h => by
  cases h with
  | sh a b => exact ⟨short15 a b, rfl, rfl, Tryd.call15⟩
  | path s => exact ⟨rpath18 s, rfl, rfl, Tryd.call18⟩
  | cl a b h1 h2 => exact ⟨clean16 a b h1 h2, rfl, rfl, Tryd.call16⟩
  | rcl a b h1 h2 => exact ⟨clean_same a b ▸ rclean17 a b h1 h2, rfl, rfl, Tryd.call17⟩
  | ex => exact ⟨awake9, rfl, rfl, Tryd.call9⟩

theorem law4 (a b : List UInt8) : FnOk Tryd.prog 4 [T a, T b] [] (fun r _ => r = .val (.bool true)) := by
  refine FnOk.of layOk Tryd.func4 rfl ?_
  have hT := P5_good
  have hU := P5_u
  have hex : P5 9 [] (bV true) := .ex
  have hsh := P5.sh a b
  refine Ok.seq (go 10 rfl ?_)
  refine Ok.seq ?_
  cases hs : decide ((a.length : Int) ≤ 600) && decide ((b.length : Int) ≤ 600)
  · rw [hs] at hsh
    refine Ok.seq (Ok.regionW (G := fun _ => true) (C := TabP _) mixed layOk hT TabP_calm (.inl rfl) ?_)
    refine wstepN rfl rfl (by dsimp only [putV, List.set]) ?_
    refine wstepN rfl rfl (by dsimp only [putV, List.set]) ?_
    first
      | refine wstepN rfl (hit15 (by first | assumption | omega)) (by dsimp only [putV, List.set]) ?_
      | refine wstepN rfl (T1_hit) (by dsimp only [putV, List.set]) ?_
      | refine wstepN rfl (TabP_use (by assumption) (by assumption)) (by dsimp only [putV, List.set]) ?_
      | refine wstepN rfl (TabP_hit (fun v' h => by cases h; rfl) (by assumption)) (by dsimp only [putV, List.set]) ?_
      | refine wstepN rfl (TabP_hit (fun v' h => by cases h; rfl) (by constructor)) (by dsimp only [putV, List.set]) ?_
      | refine wstepN rfl rfl (by dsimp only [putV, List.set]) ?_
    refine wstepN rfl rfl (by dsimp only [putV, List.set]) ?_
    refine wnil (Ok.cond (b := true) rfl (fun _ => ?_) (fun h => by cases h))
    refine Ok.seq (Ok.regionW (G := fun _ => true) (C := TabP _) mixed layOk hT TabP_calm (.inl rfl) ?_)
    first
      | refine wstepN rfl (hit9 (by first | assumption | omega)) (by dsimp only [putV, List.set]) ?_
      | refine wstepN rfl (T1_hit) (by dsimp only [putV, List.set]) ?_
      | refine wstepN rfl (TabP_use (by assumption) (by assumption)) (by dsimp only [putV, List.set]) ?_
      | refine wstepN rfl (TabP_hit (fun v' h => by cases h; rfl) (by assumption)) (by dsimp only [putV, List.set]) ?_
      | refine wstepN rfl (TabP_hit (fun v' h => by cases h; rfl) (by constructor)) (by dsimp only [putV, List.set]) ?_
      | refine wstepN rfl rfl (by dsimp only [putV, List.set]) ?_
    refine wstepN rfl rfl (by dsimp only [putV, List.set]) ?_
    refine wnil (Ok.ret ⟨fun _ h => (by cases h), _, rfl, rfl⟩)
  · rw [hs] at hsh
    obtain ⟨h1, h2⟩ : a.length ≤ 600 ∧ b.length ≤ 600 := by
      simp only [Bool.and_eq_true, decide_eq_true_eq] at hs
      omega
    have hcl := P5.cl a b (by omega) (by omega)
    have hrc := P5.rcl a b (by omega) (by omega)
    generalize cleanB trimP a b = p at hcl hrc
    have hq1 : decide (p.1 = p.1) = true := by simp
    have hq2 : (p.2 == p.2) = true := by simp
    refine Ok.seq (Ok.regionW (G := fun _ => true) (C := TabP _) mixed layOk hT TabP_calm (.inl rfl) ?_)
    refine wstepN rfl rfl (by dsimp only [putV, List.set]) ?_
    refine wstepN rfl rfl (by dsimp only [putV, List.set]) ?_
    first
      | refine wstepN rfl (hit15 (by first | assumption | omega)) (by dsimp only [putV, List.set]) ?_
      | refine wstepN rfl (T1_hit) (by dsimp only [putV, List.set]) ?_
      | refine wstepN rfl (TabP_use (by assumption) (by assumption)) (by dsimp only [putV, List.set]) ?_
      | refine wstepN rfl (TabP_hit (fun v' h => by cases h; rfl) (by assumption)) (by dsimp only [putV, List.set]) ?_
      | refine wstepN rfl (TabP_hit (fun v' h => by cases h; rfl) (by constructor)) (by dsimp only [putV, List.set]) ?_
      | refine wstepN rfl rfl (by dsimp only [putV, List.set]) ?_
    refine wstepN rfl rfl (by dsimp only [putV, List.set]) ?_
    refine wnil (Ok.cond (b := false) rfl (fun h => by cases h) (fun _ => ?_))
    refine Ok.skip ?_
    refine Ok.seq (Ok.regionW (G := fun _ => true) (C := TabP _) mixed layOk hT TabP_calm (.inl rfl) ?_)
    refine wstepN rfl rfl (by dsimp only [putV, List.set]) ?_
    refine wstepN rfl rfl (by dsimp only [putV, List.set]) ?_
    first
      | refine wstepN rfl (hit16 (by first | assumption | omega)) (by dsimp only [putV, List.set]) ?_
      | refine wstepN rfl (T1_hit) (by dsimp only [putV, List.set]) ?_
      | refine wstepN rfl (TabP_use (by assumption) (by assumption)) (by dsimp only [putV, List.set]) ?_
      | refine wstepN rfl (TabP_hit (fun v' h => by cases h; rfl) (by assumption)) (by dsimp only [putV, List.set]) ?_
      | refine wstepN rfl (TabP_hit (fun v' h => by cases h; rfl) (by constructor)) (by dsimp only [putV, List.set]) ?_
      | refine wstepN rfl rfl (by dsimp only [putV, List.set]) ?_
    refine wstepN rfl rfl (by dsimp only [putV, List.set]) ?_
    refine wstepN rfl rfl (by dsimp only [putV, List.set]) ?_
    refine wstepN rfl rfl (by dsimp only [putV, List.set]) ?_
    refine wstepN rfl rfl (by dsimp only [putV, List.set]) ?_
    refine wstepN rfl rfl (by dsimp only [putV, List.set]) ?_
    refine wnil ?_
    refine Ok.seq (Ok.regionW (G := fun _ => true) (C := TabP _) mixed layOk hT TabP_calm (.inl rfl) ?_)
    refine wstepN rfl rfl (by dsimp only [putV, List.set]) ?_
    refine wstepN rfl rfl (by dsimp only [putV, List.set]) ?_
    first
      | refine wstepN rfl (hit17 (by first | assumption | omega)) (by dsimp only [putV, List.set]) ?_
      | refine wstepN rfl (T1_hit) (by dsimp only [putV, List.set]) ?_
      | refine wstepN rfl (TabP_use (by assumption) (by assumption)) (by dsimp only [putV, List.set]) ?_
      | refine wstepN rfl (TabP_hit (fun v' h => by cases h; rfl) (by assumption)) (by dsimp only [putV, List.set]) ?_
      | refine wstepN rfl (TabP_hit (fun v' h => by cases h; rfl) (by constructor)) (by dsimp only [putV, List.set]) ?_
      | refine wstepN rfl rfl (by dsimp only [putV, List.set]) ?_
    refine wstepN rfl rfl (by dsimp only [putV, List.set]) ?_
    refine wstepN rfl rfl (by dsimp only [putV, List.set]) ?_
    refine wstepN rfl rfl (by dsimp only [putV, List.set]) ?_
    refine wstepN rfl rfl (by dsimp only [putV, List.set]) ?_
    refine wstepN rfl rfl (by dsimp only [putV, List.set]) ?_
    refine wnil ?_
    refine Ok.seq (Ok.regionW (G := fun _ => true) (C := TabP _) mixed layOk hT TabP_calm (.inl rfl) ?_)
    refine wstepN rfl rfl (by dsimp only [putV, List.set]) ?_
    refine wstepN rfl rfl (by dsimp only [putV, List.set]) ?_
    first
      | refine wstepN rfl (eqT (by assumption) rfl rfl) (by dsimp only [putV, List.set]) ?_
      | refine wstepN rfl rfl (by dsimp only [putV, List.set]) ?_
    refine wstepN rfl rfl (by dsimp only [putV, List.set]) ?_
    first
      | refine wskipN rfl (by dsimp only [putV, List.set]) ?_
      | refine wstepN rfl rfl (by dsimp only [putV, List.set]) ?_
    first
      | refine wskipN rfl (by dsimp only [putV, List.set]) ?_
      | refine wstepN rfl rfl (by dsimp only [putV, List.set]) ?_
    first
      | refine wskipN rfl (by dsimp only [putV, List.set]) ?_
      | refine wstepN rfl (eqlK (by assumption) rfl rfl) (by dsimp only [putV, List.set]) ?_
      | refine wstepN rfl rfl (by dsimp only [putV, List.set]) ?_
    refine wstepN rfl rfl (by dsimp only [putV, List.set]) ?_
    refine wstepN rfl rfl (by dsimp only [putV, List.set]) ?_
    first
      | refine wskipN rfl (by dsimp only [putV, List.set]) ?_
      | refine wstepN rfl (hit9 (by first | assumption | omega)) (by dsimp only [putV, List.set]) ?_
      | refine wstepN rfl (T1_hit) (by dsimp only [putV, List.set]) ?_
      | refine wstepN rfl (TabP_use (by assumption) (by assumption)) (by dsimp only [putV, List.set]) ?_
      | refine wstepN rfl (TabP_hit (fun v' h => by cases h; rfl) (by assumption)) (by dsimp only [putV, List.set]) ?_
      | refine wstepN rfl (TabP_hit (fun v' h => by cases h; rfl) (by constructor)) (by dsimp only [putV, List.set]) ?_
      | refine wstepN rfl rfl (by dsimp only [putV, List.set]) ?_
    refine wstepN rfl rfl (by dsimp only [putV, List.set]) ?_
    refine wstepN rfl rfl (by dsimp only [putV, List.set]) ?_
    refine wnil (Ok.ret ⟨fun _ h => (by cases h), _, rfl, rfl⟩)

theorem law5 (c o p : List UInt8) : FnOk Tryd.prog 5 [T c, T o, T p] [] (fun r _ => r = .val (.bool true)) := by
  refine FnOk.of layOk Tryd.func5 rfl ?_
  have hT := P5_good
  have hU := P5_u
  have hex : P5 9 [] (bV true) := .ex
  have hsh := P5.sh c p
  have hpo := P5.path o
  refine Ok.seq (go 10 rfl ?_)
  refine Ok.seq ?_
  cases hs : decide ((c.length : Int) ≤ 600) && decide ((p.length : Int) ≤ 600)
  · rw [hs] at hsh
    refine Ok.seq (Ok.regionW (G := fun _ => true) (C := TabP _) mixed layOk hT TabP_calm (.inl rfl) ?_)
    refine wstepN rfl rfl (by dsimp only [putV, List.set]) ?_
    refine wstepN rfl rfl (by dsimp only [putV, List.set]) ?_
    first
      | refine wstepN rfl (hit15 (by first | assumption | omega)) (by dsimp only [putV, List.set]) ?_
      | refine wstepN rfl (T1_hit) (by dsimp only [putV, List.set]) ?_
      | refine wstepN rfl (TabP_use (by assumption) (by assumption)) (by dsimp only [putV, List.set]) ?_
      | refine wstepN rfl (TabP_hit (fun v' h => by cases h; rfl) (by assumption)) (by dsimp only [putV, List.set]) ?_
      | refine wstepN rfl (TabP_hit (fun v' h => by cases h; rfl) (by constructor)) (by dsimp only [putV, List.set]) ?_
      | refine wstepN rfl rfl (by dsimp only [putV, List.set]) ?_
    refine wstepN rfl rfl (by dsimp only [putV, List.set]) ?_
    refine wstepN rfl rfl (by dsimp only [putV, List.set]) ?_
    first
      | refine wskipN rfl (by dsimp only [putV, List.set]) ?_
      | refine wstepN rfl rfl (by dsimp only [putV, List.set]) ?_
    first
      | refine wskipN rfl (by dsimp only [putV, List.set]) ?_
      | refine wstepN rfl (hit18 (by first | assumption | omega)) (by dsimp only [putV, List.set]) ?_
      | refine wstepN rfl (T1_hit) (by dsimp only [putV, List.set]) ?_
      | refine wstepN rfl (TabP_use (by assumption) (by assumption)) (by dsimp only [putV, List.set]) ?_
      | refine wstepN rfl (TabP_hit (fun v' h => by cases h; rfl) (by assumption)) (by dsimp only [putV, List.set]) ?_
      | refine wstepN rfl (TabP_hit (fun v' h => by cases h; rfl) (by constructor)) (by dsimp only [putV, List.set]) ?_
      | refine wstepN rfl rfl (by dsimp only [putV, List.set]) ?_
    first
      | refine wskipN rfl (by dsimp only [putV, List.set]) ?_
      | refine wstepN rfl rfl (by dsimp only [putV, List.set]) ?_
    refine wstepN rfl rfl (by dsimp only [putV, List.set]) ?_
    refine wnil (Ok.cond (b := true) rfl (fun _ => ?_) (fun h => by cases h))
    refine Ok.seq (Ok.regionW (G := fun _ => true) (C := TabP _) mixed layOk hT TabP_calm (.inl rfl) ?_)
    first
      | refine wstepN rfl (hit9 (by first | assumption | omega)) (by dsimp only [putV, List.set]) ?_
      | refine wstepN rfl (T1_hit) (by dsimp only [putV, List.set]) ?_
      | refine wstepN rfl (TabP_use (by assumption) (by assumption)) (by dsimp only [putV, List.set]) ?_
      | refine wstepN rfl (TabP_hit (fun v' h => by cases h; rfl) (by assumption)) (by dsimp only [putV, List.set]) ?_
      | refine wstepN rfl (TabP_hit (fun v' h => by cases h; rfl) (by constructor)) (by dsimp only [putV, List.set]) ?_
      | refine wstepN rfl rfl (by dsimp only [putV, List.set]) ?_
    refine wstepN rfl rfl (by dsimp only [putV, List.set]) ?_
    refine wnil (Ok.ret ⟨fun _ h => (by cases h), _, rfl, rfl⟩)
  rw [hs] at hsh
  cases ho : pathB o
  · rw [ho] at hpo
    refine Ok.seq (Ok.regionW (G := fun _ => true) (C := TabP _) mixed layOk hT TabP_calm (.inl rfl) ?_)
    refine wstepN rfl rfl (by dsimp only [putV, List.set]) ?_
    refine wstepN rfl rfl (by dsimp only [putV, List.set]) ?_
    first
      | refine wstepN rfl (hit15 (by first | assumption | omega)) (by dsimp only [putV, List.set]) ?_
      | refine wstepN rfl (T1_hit) (by dsimp only [putV, List.set]) ?_
      | refine wstepN rfl (TabP_use (by assumption) (by assumption)) (by dsimp only [putV, List.set]) ?_
      | refine wstepN rfl (TabP_hit (fun v' h => by cases h; rfl) (by assumption)) (by dsimp only [putV, List.set]) ?_
      | refine wstepN rfl (TabP_hit (fun v' h => by cases h; rfl) (by constructor)) (by dsimp only [putV, List.set]) ?_
      | refine wstepN rfl rfl (by dsimp only [putV, List.set]) ?_
    refine wstepN rfl rfl (by dsimp only [putV, List.set]) ?_
    refine wstepN rfl rfl (by dsimp only [putV, List.set]) ?_
    first
      | refine wskipN rfl (by dsimp only [putV, List.set]) ?_
      | refine wstepN rfl rfl (by dsimp only [putV, List.set]) ?_
    first
      | refine wskipN rfl (by dsimp only [putV, List.set]) ?_
      | refine wstepN rfl (hit18 (by first | assumption | omega)) (by dsimp only [putV, List.set]) ?_
      | refine wstepN rfl (T1_hit) (by dsimp only [putV, List.set]) ?_
      | refine wstepN rfl (TabP_use (by assumption) (by assumption)) (by dsimp only [putV, List.set]) ?_
      | refine wstepN rfl (TabP_hit (fun v' h => by cases h; rfl) (by assumption)) (by dsimp only [putV, List.set]) ?_
      | refine wstepN rfl (TabP_hit (fun v' h => by cases h; rfl) (by constructor)) (by dsimp only [putV, List.set]) ?_
      | refine wstepN rfl rfl (by dsimp only [putV, List.set]) ?_
    first
      | refine wskipN rfl (by dsimp only [putV, List.set]) ?_
      | refine wstepN rfl rfl (by dsimp only [putV, List.set]) ?_
    refine wstepN rfl rfl (by dsimp only [putV, List.set]) ?_
    refine wnil (Ok.cond (b := true) rfl (fun _ => ?_) (fun h => by cases h))
    refine Ok.seq (Ok.regionW (G := fun _ => true) (C := TabP _) mixed layOk hT TabP_calm (.inl rfl) ?_)
    first
      | refine wstepN rfl (hit9 (by first | assumption | omega)) (by dsimp only [putV, List.set]) ?_
      | refine wstepN rfl (T1_hit) (by dsimp only [putV, List.set]) ?_
      | refine wstepN rfl (TabP_use (by assumption) (by assumption)) (by dsimp only [putV, List.set]) ?_
      | refine wstepN rfl (TabP_hit (fun v' h => by cases h; rfl) (by assumption)) (by dsimp only [putV, List.set]) ?_
      | refine wstepN rfl (TabP_hit (fun v' h => by cases h; rfl) (by constructor)) (by dsimp only [putV, List.set]) ?_
      | refine wstepN rfl rfl (by dsimp only [putV, List.set]) ?_
    refine wstepN rfl rfl (by dsimp only [putV, List.set]) ?_
    refine wnil (Ok.ret ⟨fun _ h => (by cases h), _, rfl, rfl⟩)
  · rw [ho] at hpo
    obtain ⟨h1, h2⟩ : c.length ≤ 600 ∧ p.length ≤ 600 := by
      simp only [Bool.and_eq_true, decide_eq_true_eq] at hs
      omega
    have hol : o.length ≤ 128 := by
      simp only [pathB, Bool.or_eq_true, Bool.and_eq_true, decide_eq_true_eq] at ho
      rcases ho with rfl | ⟨⟨h, _⟩, _⟩
      · simp
      · exact h
    have hcl := P5.cl c p (by omega) (by omega)
    obtain ⟨s, e, hr⟩ : ∃ s e, cleanB trimP c p = (s, e) := ⟨_, _, rfl⟩
    rw [hr] at hcl
    dsimp only at hcl
    refine Ok.seq (Ok.regionW (G := fun _ => true) (C := TabP _) mixed layOk hT TabP_calm (.inl rfl) ?_)
    refine wstepN rfl rfl (by dsimp only [putV, List.set]) ?_
    refine wstepN rfl rfl (by dsimp only [putV, List.set]) ?_
    first
      | refine wstepN rfl (hit15 (by first | assumption | omega)) (by dsimp only [putV, List.set]) ?_
      | refine wstepN rfl (T1_hit) (by dsimp only [putV, List.set]) ?_
      | refine wstepN rfl (TabP_use (by assumption) (by assumption)) (by dsimp only [putV, List.set]) ?_
      | refine wstepN rfl (TabP_hit (fun v' h => by cases h; rfl) (by assumption)) (by dsimp only [putV, List.set]) ?_
      | refine wstepN rfl (TabP_hit (fun v' h => by cases h; rfl) (by constructor)) (by dsimp only [putV, List.set]) ?_
      | refine wstepN rfl rfl (by dsimp only [putV, List.set]) ?_
    refine wstepN rfl rfl (by dsimp only [putV, List.set]) ?_
    refine wstepN rfl rfl (by dsimp only [putV, List.set]) ?_
    first
      | refine wskipN rfl (by dsimp only [putV, List.set]) ?_
      | refine wstepN rfl rfl (by dsimp only [putV, List.set]) ?_
    first
      | refine wskipN rfl (by dsimp only [putV, List.set]) ?_
      | refine wstepN rfl (hit18 (by first | assumption | omega)) (by dsimp only [putV, List.set]) ?_
      | refine wstepN rfl (T1_hit) (by dsimp only [putV, List.set]) ?_
      | refine wstepN rfl (TabP_use (by assumption) (by assumption)) (by dsimp only [putV, List.set]) ?_
      | refine wstepN rfl (TabP_hit (fun v' h => by cases h; rfl) (by assumption)) (by dsimp only [putV, List.set]) ?_
      | refine wstepN rfl (TabP_hit (fun v' h => by cases h; rfl) (by constructor)) (by dsimp only [putV, List.set]) ?_
      | refine wstepN rfl rfl (by dsimp only [putV, List.set]) ?_
    first
      | refine wskipN rfl (by dsimp only [putV, List.set]) ?_
      | refine wstepN rfl rfl (by dsimp only [putV, List.set]) ?_
    refine wstepN rfl rfl (by dsimp only [putV, List.set]) ?_
    refine wnil (Ok.cond (b := false) rfl (fun h => by cases h) (fun _ => ?_))
    refine Ok.skip ?_
    refine Ok.seq (Ok.regionW (G := fun _ => true) (C := TabP _) mixed layOk hT TabP_calm (.inl rfl) ?_)
    refine wstepN rfl rfl (by dsimp only [putV, List.set]) ?_
    refine wstepN rfl rfl (by dsimp only [putV, List.set]) ?_
    first
      | refine wstepN rfl (hit16 (by first | assumption | omega)) (by dsimp only [putV, List.set]) ?_
      | refine wstepN rfl (T1_hit) (by dsimp only [putV, List.set]) ?_
      | refine wstepN rfl (TabP_use (by assumption) (by assumption)) (by dsimp only [putV, List.set]) ?_
      | refine wstepN rfl (TabP_hit (fun v' h => by cases h; rfl) (by assumption)) (by dsimp only [putV, List.set]) ?_
      | refine wstepN rfl (TabP_hit (fun v' h => by cases h; rfl) (by constructor)) (by dsimp only [putV, List.set]) ?_
      | refine wstepN rfl rfl (by dsimp only [putV, List.set]) ?_
    refine wstepN rfl rfl (by dsimp only [putV, List.set]) ?_
    refine wstepN rfl rfl (by dsimp only [putV, List.set]) ?_
    refine wstepN rfl rfl (by dsimp only [putV, List.set]) ?_
    refine wstepN rfl rfl (by dsimp only [putV, List.set]) ?_
    refine wstepN rfl rfl (by dsimp only [putV, List.set]) ?_
    refine wnil ?_
    refine Ok.seq ?_
    by_cases he : e = 0
    · subst he
      obtain ⟨hc2, hps⟩ := clean_closed hr ho
      have hsl : s.length ≤ 128 := by
        simp only [pathB, Bool.or_eq_true, Bool.and_eq_true, decide_eq_true_eq] at hps
        rcases hps with rfl | ⟨⟨h, _⟩, _⟩
        · simp
        · exact h
      have hcl2 := P5.cl o s (by omega) (by omega)
      rw [hc2] at hcl2
      dsimp only at hcl2
      have hpp := P5.path s
      rw [hps] at hpp
      have hq0 : ((0 : Int) != 0) = false := rfl
      have hq1 : decide (s = s) = true := by simp
      have hq2 : ((0 : Int) == 0) = true := rfl
      refine Ok.seq (Ok.regionW (G := fun _ => true) (C := TabP _) mixed layOk hT TabP_calm (.inl rfl) ?_)
      refine wstepN rfl rfl (by dsimp only [putV, List.set]) ?_
      first
        | refine wstepN rfl (neqK (by assumption) rfl rfl) (by dsimp only [putV, List.set]) ?_
        | refine wstepN rfl rfl (by dsimp only [putV, List.set]) ?_
      refine wnil (Ok.cond (b := false) rfl (fun h => by cases h) (fun _ => ?_))
      refine Ok.skip ?_
      refine Ok.seq (Ok.regionW (G := fun _ => true) (C := TabP _) mixed layOk hT TabP_calm (.inl rfl) ?_)
      refine wstepN rfl rfl (by dsimp only [putV, List.set]) ?_
      refine wstepN rfl rfl (by dsimp only [putV, List.set]) ?_
      first
        | refine wstepN rfl (hit16 (by first | assumption | omega)) (by dsimp only [putV, List.set]) ?_
        | refine wstepN rfl (T1_hit) (by dsimp only [putV, List.set]) ?_
        | refine wstepN rfl (TabP_use (by assumption) (by assumption)) (by dsimp only [putV, List.set]) ?_
        | refine wstepN rfl (TabP_hit (fun v' h => by cases h; rfl) (by assumption)) (by dsimp only [putV, List.set]) ?_
        | refine wstepN rfl (TabP_hit (fun v' h => by cases h; rfl) (by constructor)) (by dsimp only [putV, List.set]) ?_
        | refine wstepN rfl rfl (by dsimp only [putV, List.set]) ?_
      refine wstepN rfl rfl (by dsimp only [putV, List.set]) ?_
      refine wstepN rfl rfl (by dsimp only [putV, List.set]) ?_
      refine wstepN rfl rfl (by dsimp only [putV, List.set]) ?_
      refine wstepN rfl rfl (by dsimp only [putV, List.set]) ?_
      refine wstepN rfl rfl (by dsimp only [putV, List.set]) ?_
      refine wnil ?_
      refine Ok.seq (Ok.regionW (G := fun _ => true) (C := TabP _) mixed layOk hT TabP_calm (.inl rfl) ?_)
      refine wstepN rfl rfl (by dsimp only [putV, List.set]) ?_
      refine wstepN rfl rfl (by dsimp only [putV, List.set]) ?_
      first
        | refine wstepN rfl (eqT (by assumption) rfl rfl) (by dsimp only [putV, List.set]) ?_
        | refine wstepN rfl rfl (by dsimp only [putV, List.set]) ?_
      refine wstepN rfl rfl (by dsimp only [putV, List.set]) ?_
      first
        | refine wskipN rfl (by dsimp only [putV, List.set]) ?_
        | refine wstepN rfl rfl (by dsimp only [putV, List.set]) ?_
      first
        | refine wskipN rfl (by dsimp only [putV, List.set]) ?_
        | refine wstepN rfl (eqlK (by assumption) rfl rfl) (by dsimp only [putV, List.set]) ?_
        | refine wstepN rfl rfl (by dsimp only [putV, List.set]) ?_
      refine wstepN rfl rfl (by dsimp only [putV, List.set]) ?_
      refine wstepN rfl rfl (by dsimp only [putV, List.set]) ?_
      first
        | refine wskipN rfl (by dsimp only [putV, List.set]) ?_
        | refine wstepN rfl rfl (by dsimp only [putV, List.set]) ?_
      first
        | refine wskipN rfl (by dsimp only [putV, List.set]) ?_
        | refine wstepN rfl (hit18 (by first | assumption | omega)) (by dsimp only [putV, List.set]) ?_
        | refine wstepN rfl (T1_hit) (by dsimp only [putV, List.set]) ?_
        | refine wstepN rfl (TabP_use (by assumption) (by assumption)) (by dsimp only [putV, List.set]) ?_
        | refine wstepN rfl (TabP_hit (fun v' h => by cases h; rfl) (by assumption)) (by dsimp only [putV, List.set]) ?_
        | refine wstepN rfl (TabP_hit (fun v' h => by cases h; rfl) (by constructor)) (by dsimp only [putV, List.set]) ?_
        | refine wstepN rfl rfl (by dsimp only [putV, List.set]) ?_
      refine wstepN rfl rfl (by dsimp only [putV, List.set]) ?_
      refine wstepN rfl rfl (by dsimp only [putV, List.set]) ?_
      first
        | refine wskipN rfl (by dsimp only [putV, List.set]) ?_
        | refine wstepN rfl (hit9 (by first | assumption | omega)) (by dsimp only [putV, List.set]) ?_
        | refine wstepN rfl (T1_hit) (by dsimp only [putV, List.set]) ?_
        | refine wstepN rfl (TabP_use (by assumption) (by assumption)) (by dsimp only [putV, List.set]) ?_
        | refine wstepN rfl (TabP_hit (fun v' h => by cases h; rfl) (by assumption)) (by dsimp only [putV, List.set]) ?_
        | refine wstepN rfl (TabP_hit (fun v' h => by cases h; rfl) (by constructor)) (by dsimp only [putV, List.set]) ?_
        | refine wstepN rfl rfl (by dsimp only [putV, List.set]) ?_
      refine wstepN rfl rfl (by dsimp only [putV, List.set]) ?_
      refine wstepN rfl rfl (by dsimp only [putV, List.set]) ?_
      refine wnil (Ok.ret ⟨fun _ h => (by cases h), _, rfl, rfl⟩)
    · have hse := clean_err hr he
      subst hse
      have hq0 : (e != 0) = true := by simpa using he
      have hq1 : decide (([] : List UInt8) = []) = true := rfl
      refine Ok.seq (Ok.regionW (G := fun _ => true) (C := TabP _) mixed layOk hT TabP_calm (.inl rfl) ?_)
      refine wstepN rfl rfl (by dsimp only [putV, List.set]) ?_
      first
        | refine wstepN rfl (neqK (by assumption) rfl rfl) (by dsimp only [putV, List.set]) ?_
        | refine wstepN rfl rfl (by dsimp only [putV, List.set]) ?_
      refine wnil (Ok.cond (b := true) rfl (fun _ => ?_) (fun h => by cases h))
      refine Ok.seq (Ok.regionW (G := fun _ => true) (C := TabP _) mixed layOk hT TabP_calm (.inl rfl) ?_)
      refine wstepN rfl rfl (by dsimp only [putV, List.set]) ?_
      first
        | refine wstepN rfl (eqT (by assumption) rfl rfl) (by dsimp only [putV, List.set]) ?_
        | refine wstepN rfl rfl (by dsimp only [putV, List.set]) ?_
      refine wstepN rfl rfl (by dsimp only [putV, List.set]) ?_
      first
        | refine wskipN rfl (by dsimp only [putV, List.set]) ?_
        | refine wstepN rfl (hit9 (by first | assumption | omega)) (by dsimp only [putV, List.set]) ?_
        | refine wstepN rfl (T1_hit) (by dsimp only [putV, List.set]) ?_
        | refine wstepN rfl (TabP_use (by assumption) (by assumption)) (by dsimp only [putV, List.set]) ?_
        | refine wstepN rfl (TabP_hit (fun v' h => by cases h; rfl) (by assumption)) (by dsimp only [putV, List.set]) ?_
        | refine wstepN rfl (TabP_hit (fun v' h => by cases h; rfl) (by constructor)) (by dsimp only [putV, List.set]) ?_
        | refine wstepN rfl rfl (by dsimp only [putV, List.set]) ?_
      refine wstepN rfl rfl (by dsimp only [putV, List.set]) ?_
      refine wstepN rfl rfl (by dsimp only [putV, List.set]) ?_
      refine wnil (Ok.ret ⟨fun _ h => (by cases h), _, rfl, rfl⟩)

end Go.Proofs.YtiefcnghjcafbaaDoorV
