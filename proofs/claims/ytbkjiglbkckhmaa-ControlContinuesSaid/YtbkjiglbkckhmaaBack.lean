/- What both Back return. -/
import Derived.Test.YtbkjiglbkckhmaaKind
namespace Go.Proofs.YtbkjiglbkckhmaaV
open Go Go.RowKit Go.Proofs.Ytbkjiglbkckhmaa
set_option maxRecDepth 20000
set_option maxHeartbeats 1000000

/-- A job. -/
abbrev jobV (a b c : Int) (ps ss : List Int) (t : ByteArray) (n : Bool) : V := .agg [.val (i64 a), .val (i64 b), .val (i64 c), .sl (ps.map num), .sl (ss.map num), .val (.string t), .val (.bool n)]
abbrev jobC (a b c : Int) (ps ss : List Int) (t : ByteArray) (n : Bool) : Bx := .cells [.val (i64 a), .val (i64 b), .val (i64 c), .sl (ps.map num), .sl (ss.map num), .val (.string t), .val (.bool n)]
/-- Whether a status says that a process is stopped. -/
def stop (s : Int) : Bool := (kindI s).1 == 2
def qKill (b : Int) : List S := reqS (i64 11) (i64 0) (i64 0) (i64 (IntKind.i64.wrap (0 - b))) (i64 0) (i64 18) (i64 0) (i64 0) emp emp
def backS (b : Int) (ss : List Int) : List (List S) := if ss.any stop then [qKill b] else []
def bs22 (j : Bx) (b : Int) (r : Bool) : List Bx := if r then [j, .cells [.val (.bool false), .val (.bool false), .nils, .nils, .val (.bool false), .row 2], .row 64 12 [qKill b]] else [j, .cells [.val (.bool false), .val (.bool false), .nils, .nils, .val (.bool false), .nils]]

theorem kindT (s : Int) : ∀ e ∈ [((37 : FuncId), [V.val (i64 s)], V.tup [.val (i64 (kindI s).1), .val (i64 (kindI s).2)]), (46, [V.val (i64 s)], V.tup [.val (i64 (kindI s).1), .val (i64 (kindI s).2)])], (∀ bs, FnOk Try.prog e.1 e.2.1 bs (fun r b => r = e.2.2 ∧ b = bs)) ∧ Enters Try.prog e.1 := by
  intro e he
  simp only [List.mem_cons, List.not_mem_nil, or_false] at he
  rcases he with rfl | rfl
  · exact fact (kind37 s) rfl rfl Try.call37
  · exact fact (kind46 s) rfl rfl Try.call46

theorem back22 (a b c : Int) (ps ss : List Int) (t : ByteArray) (n : Bool) (hl : ss.length ≤ 60) : FnOk Try.prog 22 [jobV a b c ps ss t n] [] (fun r bs' => fr bs' r = .sl (backS b ss)) := by
  refine FnOk.fast (Q := fun r => r = .sl (backS b ss)) layOk Try.func22 rfl ?_
  refine Ok.seq (go 10 rfl ?_)
  refine Ok.seq (go 10 rfl ?_)
  unfold thn
  dsimp only
  refine Ok.seq (Ok.mono (Q := fun e ts bs => e = .normal ∧ ts = ((List.replicate 30 V.gone).set 1 (.ptr 0 0)).set 3 (.ptr 1 0) ∧ bs = bs22 (jobC a b c ps ss t n) b (ss.any stop)) ?_ ?_)
  · refine Ok.after (Ok.seq (go 10 rfl ?_))
    refine Ok.gc [0, 1] [1, 3, 9, 10, 11] rfl (by decide) (floor_ok rfl) ?_
    refine Ok.range layOk (ss.map num).length (fun k ts bs => k ≤ (ss.map num).length ∧ (ss.take k).any stop = false ∧ (∃ u, ts = (((((((List.replicate 30 V.gone).set 1 (.ptr 0 0)).set 3 (.ptr 1 0)).set 9 (.sl (ss.map num))).set 10 (.val (i64 (ss.map num).length))).set 27 u).set 11 (.val (i64 k)))) ∧ bs = bs22 (jobC a b c ps ss t n) b false) rfl rfl rfl rfl rfl rfl rfl rfl rfl (by simp; omega) ?_ ?_ ?_ ?_
    · exact ⟨Nat.zero_le _, rfl, ⟨.gone, by kernel_rfl⟩, rfl⟩
    · rintro k _ _ ⟨h, _, ⟨u, rfl⟩, rfl⟩
      exact ⟨rfl, rfl, by simp, h⟩
    · rintro k _ _ hk ⟨_, hno, ⟨u, rfl⟩, rfl⟩
      have hk2 : k < ss.length := by simpa using hk
      have hget : ss[k]? = some ss[k] := List.getElem?_eq_getElem hk2
      have hany : ss[k] ∈ ss := List.getElem_mem hk2
      generalize ss[k] = x at hget hany
      simp only [List.replicate, List.set]
      refine Ok.block (Ok.after (Ok.seq (Ok.regionW (G := fun _ => false) (C := fun _ _ _ => none) mixed layOk noCalls (fun _ _ h => by cases h) (.inl rfl) ?_)))
      refine wstep rfl (ev_ix (xs := ss.map num) (e := num x) rfl rfl rfl (by rw [List.getElem?_map, hget]; rfl) rfl) ?_
      refine wstep rfl rfl ?_
      refine wstep rfl rfl ?_
      refine wnil ?_
      unfold thn
      dsimp only
      refine Ok.seq (Ok.regionW (G := fun _ => true) (C := Tab _) mixed layOk (Tab_good (kindT x)) Tab_calm (.inl rfl) ?_)
      refine wstepN rfl rfl (by dsimp only [putV, List.set]) ?_
      refine wstepN rfl Tab_hit (by dsimp only [putV, List.set]) ?_
      generalize h2 : (kindI x).2 = v2
      generalize h1 : (kindI x).1 = v1
      repeat refine wstepN rfl rfl (by dsimp only [putV, List.set]) ?_
      refine wnil ?_
      refine Ok.seq (Ok.regionW (G := fun _ => false) (C := fun _ _ _ => none) mixed layOk noCalls (fun _ _ h => by cases h) (.inl rfl) ?_)
      generalize hs : (v1 == 2) = p
      have hx : stop x = p := by unfold stop; rw [h1, hs]
      refine wstepN rfl rfl (by dsimp only [putV, List.set]) ?_
      refine wstepN rfl (eql_is hs rfl rfl) (by dsimp only [putV, List.set]) ?_
      refine wnil ?_
      refine Ok.cond (b := p) rfl (fun h => ?_) (fun h => Ok.skip ?_)
      · subst h
        have hall : ss.any stop = true := List.any_eq_true.2 ⟨x, hany, hx⟩
        rw [hall]
        refine Ok.seq (go 20 rfl ?_)
        refine Ok.exit ?_
        refine ⟨[0, 1, 4], [1, 3], _, rfl, by decide, floor_ok rfl, ?_⟩
        exact ⟨[0, 1, 2], [1, 3], _, rfl, by decide, floor_ok rfl, rfl, rfl, rfl⟩
      · subst h
        refine ⟨[0, 1], [1, 3, 9, 10, 11], _, rfl, by decide, floor_ok rfl, ?_⟩
        refine ⟨by kernel_rfl, Nat.lt_of_lt_of_eq (by decide : 27 < 30) (by kernel_rfl), hk, ?_, ⟨.val (i64 ((k + 1 : Nat) : Int)), by kernel_rfl⟩, rfl⟩
        rw [List.take_add_one, hget]
        simp [hno, hx]
    · rintro _ _ ⟨_, hno, ⟨u, rfl⟩, rfl⟩
      have hall : ss.any stop = false := by simpa using hno
      rw [hall]
      exact ⟨[0, 1], [1, 3], _, rfl, by decide, floor_ok rfl, rfl, by kernel_rfl, rfl⟩
  rintro _ _ _ ⟨rfl, rfl, rfl⟩
  unfold backS
  generalize ss.any stop = r
  cases r
  · exact goOut 10 (r := .sl []) (by kernel_rfl) rfl
  · exact goOut 10 (r := .sl [qKill b]) (by kernel_rfl) rfl

theorem stop38 (a b c : Int) (ps ss : List Int) (t : ByteArray) (n : Bool) (hl : ss.length ≤ 60) : FnOk Try.prog 38 [jobV a b c ps ss t n] [] (fun r bs' => fr bs' r = .val (.bool (ss.any stop))) := by
  refine FnOk.fast (Q := fun r => r = .val (.bool (ss.any stop))) layOk Try.func38 rfl ?_
  refine Ok.seq (go 10 rfl ?_)
  unfold thn
  dsimp only
  refine Ok.seq (Ok.mono (Q := fun e ts bs => e = (if ss.any stop then .ret else .normal) ∧ ts = (List.replicate 24 V.gone).set 2 (.val (.bool (ss.any stop))) ∧ bs = []) ?_ ?_)
  · refine Ok.after (Ok.seq (go 10 rfl ?_))
    refine Ok.gc [] [2, 8, 9, 10] rfl (by decide) (floor_ok rfl) ?_
    refine Ok.range layOk (ss.map num).length (fun k ts bs => k ≤ (ss.map num).length ∧ (ss.take k).any stop = false ∧ (∃ u, ts = ((((((List.replicate 24 V.gone).set 2 (.val (.bool false))).set 8 (.sl (ss.map num))).set 9 (.val (i64 (ss.map num).length))).set 23 u).set 10 (.val (i64 k)))) ∧ bs = []) rfl rfl rfl rfl rfl rfl rfl rfl rfl (by simp; omega) ?_ ?_ ?_ ?_
    · exact ⟨Nat.zero_le _, rfl, ⟨.gone, by kernel_rfl⟩, rfl⟩
    · rintro k _ _ ⟨h, _, ⟨u, rfl⟩, rfl⟩
      exact ⟨rfl, rfl, by simp, h⟩
    · rintro k _ _ hk ⟨_, hno, ⟨u, rfl⟩, rfl⟩
      have hk2 : k < ss.length := by simpa using hk
      have hget : ss[k]? = some ss[k] := List.getElem?_eq_getElem hk2
      have hany : ss[k] ∈ ss := List.getElem_mem hk2
      generalize ss[k] = x at hget hany
      simp only [List.replicate, List.set]
      refine Ok.block (Ok.after (Ok.seq (Ok.regionW (G := fun _ => false) (C := fun _ _ _ => none) mixed layOk noCalls (fun _ _ h => by cases h) (.inl rfl) ?_)))
      refine wstep rfl (ev_ix (xs := ss.map num) (e := num x) rfl rfl rfl (by rw [List.getElem?_map, hget]; rfl) rfl) ?_
      refine wstep rfl rfl ?_
      refine wstep rfl rfl ?_
      refine wnil ?_
      unfold thn
      dsimp only
      refine Ok.seq (Ok.regionW (G := fun _ => false) (C := fun _ _ _ => none) mixed layOk noCalls (fun _ _ h => by cases h) (.inl rfl) ?_)
      generalize hs0 : decide (x ≥ 0) = p0
      refine wstepN rfl rfl (by dsimp only [putV, List.set]) ?_
      refine wstepN rfl (geq_is hs0 rfl rfl) (by dsimp only [putV, List.set]) ?_
      refine wnil ?_
      refine Ok.cond (b := p0) rfl (fun h => ?_) (fun h => Ok.skip ?_)
      · refine Ok.seq (Ok.regionW (G := fun _ => true) (C := Tab _) mixed layOk (Tab_good (fun e he => kindT x e (List.mem_cons_of_mem _ he))) Tab_calm (.inl rfl) ?_)
        refine wstepN rfl rfl (by dsimp only [putV, List.set]) ?_
        refine wstepN rfl Tab_hit (by dsimp only [putV, List.set]) ?_
        generalize h2 : (kindI x).2 = v2
        generalize h1 : (kindI x).1 = v1
        repeat refine wstepN rfl rfl (by dsimp only [putV, List.set]) ?_
        refine wnil ?_
        refine Ok.seq (Ok.regionW (G := fun _ => false) (C := fun _ _ _ => none) mixed layOk noCalls (fun _ _ h => by cases h) (.inl rfl) ?_)
        generalize hs : (v1 == 2) = p
        have hx : stop x = p := by unfold stop; rw [h1, hs]
        refine wstepN rfl rfl (by dsimp only [putV, List.set]) ?_
        refine wstepN rfl (eql_is hs rfl rfl) (by dsimp only [putV, List.set]) ?_
        refine wnil ?_
        refine Ok.cond (b := p) rfl (fun h => ?_) (fun h => Ok.skip ?_)
        · subst h
          have hall : ss.any stop = true := List.any_eq_true.2 ⟨x, hany, hx⟩
          rw [hall]
          refine Ok.seq (go 20 rfl ?_)
          refine Ok.ret ?_
          refine ⟨[], [2], _, rfl, by decide, floor_ok rfl, ?_⟩
          exact ⟨[], [2], _, rfl, by decide, floor_ok rfl, rfl, rfl, rfl⟩
        · subst h
          refine ⟨[], [2, 8, 9, 10], _, rfl, by decide, floor_ok rfl, ?_⟩
          refine ⟨by kernel_rfl, Nat.lt_of_lt_of_eq (by decide : 23 < 24) (by kernel_rfl), hk, ?_, ⟨.val (i64 ((k + 1 : Nat) : Int)), by kernel_rfl⟩, rfl⟩
          rw [List.take_add_one, hget]
          simp [hno, hx]
      · subst h
        have hx : stop x = false := by
          have h0 : decide (x < 0) = true := by simp at hs0; simp; omega
          unfold stop kindI kindQ kindB
          rw [h0]
          rfl
        refine ⟨[], [2, 8, 9, 10], _, rfl, by decide, floor_ok rfl, ?_⟩
        refine ⟨by kernel_rfl, Nat.lt_of_lt_of_eq (by decide : 23 < 24) (by kernel_rfl), hk, ?_, ⟨.val (i64 ((k + 1 : Nat) : Int)), by kernel_rfl⟩, rfl⟩
        rw [List.take_add_one, hget]
        simp [hno, hx]
    · rintro _ _ ⟨_, hno, ⟨u, rfl⟩, rfl⟩
      have hall : ss.any stop = false := by simpa using hno
      rw [hall]
      exact ⟨[], [2], _, rfl, by decide, floor_ok rfl, rfl, by kernel_rfl, rfl⟩
  rintro _ _ _ ⟨rfl, rfl, rfl⟩
  generalize ss.any stop = r
  cases r
  · exact goOut 10 (r := .val (.bool false)) (by kernel_rfl) rfl
  · exact ⟨fun _ h => (by cases h), _, rfl, rfl⟩

theorem back23 (a b c : Int) (ps ss : List Int) (t : ByteArray) (n : Bool) (hl : ss.length ≤ 60) : FnOk Try.prog 23 [jobV a b c ps ss t n] [] (fun r bs' => fr bs' r = .sl (backS b ss)) := by
  refine FnOk.fast (Q := fun r => r = .sl (backS b ss)) layOk Try.func23 rfl ?_
  refine Ok.seq (go 10 rfl ?_)
  unfold thn
  dsimp only
  have hT : ∀ e ∈ [((38 : FuncId), [jobV a b c ps ss t n], V.val (.bool (ss.any stop)))], (∀ bs, FnOk Try.prog e.1 e.2.1 bs (fun r b => r = e.2.2 ∧ b = bs)) ∧ Enters Try.prog e.1 := by
    intro e he
    obtain rfl := List.mem_singleton.1 he
    exact fact (stop38 a b c ps ss t n hl) rfl rfl Try.call38
  refine Ok.seq (Ok.seq (Ok.regionW (G := fun _ => true) (C := Tab _) mixed layOk (Tab_good hT) Tab_calm (.inl rfl) ?_))
  refine wstepN rfl rfl (by dsimp only [putV, List.set]) ?_
  refine wstepN rfl Tab_hit (by dsimp only [putV, List.set]) ?_
  unfold backS
  generalize ss.any stop = r
  refine wstepN rfl rfl (by dsimp only [putV, List.set]) ?_
  refine wnil (Ok.cond (b := !r) rfl (fun h => ?_) (fun h => Ok.skip ?_))
  · cases r
    · exact go 10 rfl ⟨fun _ h => (by cases h), _, rfl, rfl⟩
    · cases h
  · cases r
    · cases h
    · exact goOut 10 (r := .sl [qKill b]) (by kernel_rfl) rfl


end Go.Proofs.YtbkjiglbkckhmaaV
