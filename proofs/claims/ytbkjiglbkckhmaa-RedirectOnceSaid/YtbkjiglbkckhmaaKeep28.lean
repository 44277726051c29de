/- What Keep of the program returns: the turning about, and the whole. -/
import Derived.Test.YtbkjiglbkckhmaaKeep
namespace Go.Proofs.YtbkjiglbkckhmaaV
open Go Go.RowKit Go.Proofs.Ytbkjiglbkckhmaa
set_option maxRecDepth 20000
set_option maxHeartbeats 1000000

/-- A list whose first k and last k elements have changed places. -/
def rvK (Y : List MV) : Nat → List MV
  | 0 => Y
  | k + 1 => ((rvK Y k).set k ((rvK Y k)[Y.length - 1 - k]?.getD (svM 0))).set (Y.length - 1 - k) ((rvK Y k)[k]?.getD (svM 0))
theorem rvK_len (Y : List MV) : ∀ k, (rvK Y k).length = Y.length
  | 0 => rfl
  | k + 1 => by simp [rvK, rvK_len Y k]
theorem rvK_at (Y : List MV) : ∀ (k : Nat), 2 * k ≤ Y.length → ∀ i, i < Y.length → (rvK Y k)[i]? = if i < k ∨ Y.length ≤ i + k then Y[Y.length - 1 - i]? else Y[i]?
  | 0, _, i, hi => by
    have : ¬ (i < 0 ∨ Y.length ≤ i + 0) := by omega
    rw [if_neg this]
    rfl
  | k + 1, hk, i, hi => by
    have h1 := rvK_at Y k (by omega) k (by omega)
    have h2 := rvK_at Y k (by omega) (Y.length - 1 - k) (by omega)
    have h3 := rvK_at Y k (by omega) i hi
    rw [if_neg (by omega)] at h1 h2
    have hl := rvK_len Y k
    have e1 : Y[k]? = some Y[k] := List.getElem?_eq_getElem (by omega)
    have e2 : Y[Y.length - 1 - k]? = some Y[Y.length - 1 - k] := List.getElem?_eq_getElem (by omega)
    simp only [rvK, h1, h2, e1, e2, Option.getD_some]
    rw [List.getElem?_set, List.getElem?_set]
    by_cases c1 : Y.length - 1 - k = i
    · subst c1
      rw [if_pos rfl, if_pos (by simp [hl]; omega), if_pos (by omega)]
      rw [show Y.length - 1 - (Y.length - 1 - k) = k by omega, e1]
    · rw [if_neg c1]
      by_cases c2 : k = i
      · subst c2
        rw [if_pos rfl, if_pos (by omega), if_pos (by omega), e2]
      · rw [if_neg c2, h3]
        by_cases c3 : i < k ∨ Y.length ≤ i + k
        · rw [if_pos c3, if_pos (by omega)]
        · rw [if_neg c3, if_neg (by omega)]
theorem rvK_rev (Y : List MV) (k : Nat) (h1 : 2 * k ≤ Y.length) (h2 : Y.length ≤ 2 * k + 1) : rvK Y k = Y.reverse := by
  apply List.ext_getElem?
  intro i
  rcases Nat.lt_or_ge i Y.length with h | h
  · rw [rvK_at Y k h1 i h, List.getElem?_reverse h]
    split
    · rfl
    · rw [show Y.length - 1 - i = i by omega]
  · rw [List.getElem?_eq_none (by rw [rvK_len]; exact h), List.getElem?_eq_none (by simpa using h)]

theorem rev44 (X Y : List MV) (hl : Y.length ≤ 60) : FnOk Try.prog 44 [.row 3] (bs4 X Y) (fun r bs' => r = .tup [] ∧ bs' = bs4 X Y.reverse) := by
  refine FnOk.of layOk Try.func44 rfl ?_
  refine Ok.seq (Ok.regionW (G := fun _ => false) (C := fun _ _ _ => none) mixed layOk noCalls (fun _ _ h => by cases h) (.inl rfl) ?_)
  refine wstepN rfl rfl (by dsimp only [putV, List.set]) ?_
  refine wstepN rfl rfl (by dsimp only [putV, List.set]) ?_
  refine wstepN rfl (subK (n := (((Y.map mvRow).length : Nat) : Int) - 1) (wrap64 (by simp; omega) (by simp; omega)) rfl rfl) (by dsimp only [putV, List.set]) ?_
  refine wstepN rfl rfl (by dsimp only [putV, List.set]) ?_
  refine wstepN rfl rfl (by dsimp only [putV, List.set]) ?_
  refine wnil ?_
  have hln : (Y.map mvRow).length = Y.length := by simp
  rw [hln]
  refine Ok.gc [0, 1, 2, 3] [0, 2, 3] rfl (by decide) (floor_ok rfl) ?_
  refine Ok.count Y.length (fun k ts bs => 2 * k ≤ Y.length ∧ bs = bs4 X (rvK Y k) ∧ ts = (((List.replicate 28 V.gone).set 0 (.row 3)).set 2 (.val (i64 k))).set 3 (.val (i64 ((Y.length : Int) - 1 - k)))) ⟨Nat.zero_le _, rfl, by simp [List.replicate, List.set]; rfl⟩ ?_
  rintro k _ _ ⟨hk, rfl, rfl⟩
  simp only [List.replicate, List.set]
  refine Ok.after (Ok.seq (Ok.seq (Ok.regionW (G := fun _ => false) (C := fun _ _ _ => none) mixed layOk noCalls (fun _ _ h => by cases h) (.inl rfl) ?_)))
  generalize hc : decide ((k : Int) < (Y.length : Int) - 1 - k) = c
  refine wstepN rfl rfl (by dsimp only [putV, List.set]) ?_
  refine wstepN rfl rfl (by dsimp only [putV, List.set]) ?_
  refine wstepN rfl (lssK hc rfl rfl) (by dsimp only [putV, List.set]) ?_
  refine wnil (Ok.cond (b := c) rfl (fun h => Ok.skip ?_) (fun h => Ok.exit ?_))
  · subst h
    have hlt : (k : Int) < (Y.length : Int) - 1 - k := by simpa using hc
    have hz : (Y.length : Int) - 1 - k = ((Y.length - 1 - k : Nat) : Int) := by omega
    have hrl := rvK_len Y k
    rw [hz]
    obtain ⟨a, ha⟩ : ∃ a, (rvK Y k)[k]? = some a := ⟨_, List.getElem?_eq_getElem (by omega)⟩
    obtain ⟨b, hb⟩ : ∃ b, (rvK Y k)[Y.length - 1 - k]? = some b := ⟨_, List.getElem?_eq_getElem (by omega)⟩
    have ha2 : ((rvK Y k).map mvRow)[k]? = some (mvRow a) := by rw [List.getElem?_map, ha]; rfl
    have hb2 : ((rvK Y k).map mvRow)[Y.length - 1 - k]? = some (mvRow b) := by rw [List.getElem?_map, hb]; rfl
    have hb3 : (((rvK Y k).map mvRow).set k (mvRow b))[Y.length - 1 - k]? = some (mvRow b) := by
      rw [List.getElem?_set_ne (by omega)]
      exact hb2
    have hsw : rvK Y (k + 1) = ((rvK Y k).set k b).set (Y.length - 1 - k) a := by simp only [rvK, ha, hb, Option.getD_some]
    unfold thn
    dsimp only
    refine Ok.seq (Ok.block (Ok.regionW (G := fun _ => false) (C := fun _ _ _ => none) mixed layOk noCalls (fun _ _ h => by cases h) (.inr ⟨by kernel_rfl, by kernel_rfl⟩) ?_))
    refine wstepN rfl rfl (by dsimp only [putV, List.set]) ?_
    refine wstepN rfl rfl (by dsimp only [putV, List.set]) ?_
    refine wstepN rfl rfl (by dsimp only [putV, List.set]) ?_
    refine wstepN rfl rfl (by dsimp only [putV, List.set]) ?_
    refine wstepN rfl rfl (by dsimp only [putV, List.set]) ?_
    refine wstepN rfl rfl (by dsimp only [putV, List.set]) ?_
    refine wstepN rfl (ev_ixR (k2 := 3) (n := 6) (z := Y.length - 1 - k) (xs := (rvK Y k).map mvRow) rfl rfl rfl rfl (by simp; omega)) (by dsimp only [putV, List.set]) ?_
    refine wstepN rfl (ev_ldR (k := 3) (n := 6) (sz := 6) (i := Y.length - 1 - k) (j := 0) (xs := (rvK Y k).map mvRow) (r := mvRow b) (cs := mvCel b) (v := .agg (mvCel b)) rfl rfl rfl hb2 (Nat.le_refl _) rfl rfl) (by dsimp only [putV, List.set]) ?_
    refine wstepN rfl rfl (by dsimp only [putV, List.set]) ?_
    refine wstepN rfl rfl (by dsimp only [putV, List.set]) ?_
    refine wstepN rfl (ev_ixR (k2 := 3) (n := 6) (z := k) (xs := (rvK Y k).map mvRow) rfl rfl rfl rfl (by simp; omega)) (by dsimp only [putV, List.set]) ?_
    refine wstepN rfl (ev_ldR (k := 3) (n := 6) (sz := 6) (i := k) (j := 0) (xs := (rvK Y k).map mvRow) (r := mvRow a) (cs := mvCel a) (v := .agg (mvCel a)) rfl rfl rfl ha2 (Nat.le_refl _) rfl rfl) (by dsimp only [putV, List.set]) ?_
    refine wstepN rfl (ev_ixR (k2 := 3) (n := 6) (z := k) (xs := (rvK Y k).map mvRow) rfl rfl rfl rfl (by simp; omega)) (by dsimp only [putV, List.set]) ?_
    refine wstepN rfl (ev_stR (k := 3) (n := 6) (sz := 6) (i := k) (j := 0) (xs := (rvK Y k).map mvRow) (r := mvRow a) (cs := mvCel b) (ss := mvRow b) rfl rfl rfl rfl rfl rfl ha2 rfl (Nat.le_refl _)) (by dsimp only [putV, List.set]) ?_
    refine wstepN rfl (ev_ixR (k2 := 3) (n := 6) (z := Y.length - 1 - k) (xs := ((rvK Y k).map mvRow).set k (mvRow b)) rfl rfl rfl rfl (by simp; omega)) (by dsimp only [putV, List.set]) ?_
    refine wstepN rfl (ev_stR (k := 3) (n := 6) (sz := 6) (i := Y.length - 1 - k) (j := 0) (xs := ((rvK Y k).map mvRow).set k (mvRow b)) (r := mvRow b) (cs := mvCel a) (ss := mvRow a) rfl rfl rfl rfl rfl rfl hb3 rfl (Nat.le_refl _)) (by dsimp only [putV, List.set]) ?_
    refine wnil ?_
    unfold blk
    dsimp only
    refine Ok.regionW (G := fun _ => false) (C := fun _ _ _ => none) mixed layOk noCalls (fun _ _ h => by cases h) (.inl rfl) ?_
    refine wstepN rfl rfl (by dsimp only [putV, List.set]) ?_
    refine wstepN rfl (addK (n := ((k + 1 : Nat) : Int)) (by rw [wrap64 (by omega) (by omega)]; omega) rfl rfl) (by dsimp only [putV, List.set]) ?_
    refine wstepN rfl rfl (by dsimp only [putV, List.set]) ?_
    refine wstepN rfl (subK (n := (Y.length : Int) - 1 - ((k + 1 : Nat) : Int)) (by rw [wrap64 (by omega) (by omega)]; omega) rfl rfl) (by dsimp only [putV, List.set]) ?_
    refine wstepN rfl rfl (by dsimp only [putV, List.set]) ?_
    refine wstepN rfl rfl (by dsimp only [putV, List.set]) ?_
    refine wnil ?_
    refine ⟨[0, 1, 2, 3], [0, 2, 3], _, rfl, by decide, floor_ok rfl, by omega, by omega, ?_, by kernel_rfl⟩
    rw [hsw, bs4, List.map_set, List.map_set]
    rfl
  · subst h
    have hge : ¬ (k : Int) < (Y.length : Int) - 1 - k := by simpa using hc
    refine ⟨[0, 1, 2, 3], [], _, rfl, by decide, floor_ok rfl, ?_⟩
    refine ⟨fun _ h => (by cases h), _, rfl, rfl, ?_⟩
    rw [rvK_rev Y k hk (by omega)]

inductive K41 (X Y : List MV) (m : MV) : FuncId → List V → List Bx → V → List Bx → Prop
  | call (fd : Int) : K41 X Y m 41 [.val (i64 fd), .ptr 0 0, .ptr 1 0] (bs5 X Y m) (.tup []) (bs41 X Y m fd (X.any fun n => n.fd == fd))
theorem K41_good (X Y : List MV) (m : MV) (hx : X.length ≤ 60) (hy : Y.length ≤ 60) : Good Try.prog (TabB (K41 X Y m)) := TabB_good fun f vs bs v bs' h => by
  cases h
  exact ⟨keep41 X Y m _ hx hy, Try.call41⟩
inductive K44 (X Y : List MV) : FuncId → List V → List Bx → V → List Bx → Prop
  | call : K44 X Y 44 [.row 3] (bs4 X Y) (.tup []) (bs4 X Y.reverse)
theorem K44_good (X Y : List MV) (hy : Y.length ≤ 60) : Good Try.prog (TabB (K44 X Y)) := TabB_good fun f vs bs v bs' h => by
  cases h
  exact ⟨rev44 X Y hy, Try.call44⟩

/-- The descriptors of moves, each once, in order. -/
def fdsOf (ms : List MV) : List Int := dd (ms.map MV.fd)
theorem fds_len (ms : List MV) : (fdsOf ms).length ≤ ms.length := by
  have := dd_len (ms.map MV.fd)
  simpa [fdsOf] using this
theorem fds_snoc (ms : List MV) (m : MV) : fdsOf (ms ++ [m]) = if (fdsOf ms).contains m.fd then fdsOf ms else fdsOf ms ++ [m.fd] := by
  unfold fdsOf
  rw [List.map_append]
  exact dd_snoc _ _
theorem any_fds (l : List Int) (fd : Int) : ((l.map svM).any fun n => n.fd == fd) = l.contains fd := by
  induction l with
  | nil => rfl
  | cons a l ih =>
    simp only [List.map_cons, List.any_cons, List.contains_cons, ih]
    congr 1
    show (a == fd) = (fd == a)
    cases h1 : (a == fd) <;> cases h2 : (fd == a) <;> simp_all
def keepV (ms : List MV) : V := .tup [.sl (((fdsOf ms).map svM).map mvRow), .sl ((((fdsOf ms).map bkM).reverse).map mvRow)]

theorem keep28 (ms : List MV) (hl : ms.length ≤ 60) : FnOk Try.prog 28 [.sl (ms.map mvRow)] [] (fun r bs' => fr bs' r = keepV ms) := by
  refine FnOk.fast (Q := fun r => r = keepV ms) layOk Try.func28 rfl ?_
  refine Ok.seq (go 10 rfl ?_)
  refine Ok.seq (go 10 rfl ?_)
  refine Ok.seq (go 10 rfl ?_)
  unfold thn
  dsimp only
  refine Ok.nilC 0 0 62 6 rfl rfl ?_
  refine Ok.nilC 1 0 62 6 rfl rfl ?_
  refine Ok.seq (Ok.mono (Q := fun e ts bs => e = .normal ∧ ts = ((List.replicate 25 V.gone).set 4 (.ptr 0 0)).set 5 (.ptr 1 0) ∧ bs = bs4 ((fdsOf ms).map svM) ((fdsOf ms).map bkM)) ?_ ?_)
  · refine Ok.after (Ok.seq (go 10 rfl ?_))
    refine Ok.gc [0, 1, 2, 3] [4, 5, 6, 10, 11, 12] rfl (by decide) (floor_ok rfl) ?_
    refine Ok.range layOk (ms.map mvRow).length (fun k ts bs => k ≤ (ms.map mvRow).length ∧ (∃ u, ts = (((((((List.replicate 25 V.gone).set 4 (.ptr 0 0)).set 5 (.ptr 1 0)).set 6 (.fn 41 [.ptr 0 0, .ptr 1 0])).set 10 (.sl (ms.map mvRow))).set 11 (.val (i64 (ms.map mvRow).length))).set 20 u).set 12 (.val (i64 k))) ∧ bs = bs4 ((fdsOf (ms.take k)).map svM) ((fdsOf (ms.take k)).map bkM)) rfl rfl rfl rfl rfl rfl rfl rfl rfl (by simp; omega) ?_ ?_ ?_ ?_
    · exact ⟨Nat.zero_le _, ⟨.gone, by kernel_rfl⟩, rfl⟩
    · rintro k _ _ ⟨h, ⟨u, rfl⟩, rfl⟩
      exact ⟨rfl, rfl, by simp, h⟩
    · rintro k _ _ hk ⟨_, ⟨u, rfl⟩, rfl⟩
      have hk2 : k < ms.length := by simpa using hk
      obtain ⟨m, hm⟩ : ∃ m, ms[k]? = some m := ⟨_, List.getElem?_eq_getElem hk2⟩
      have hfl := fds_len (ms.take k)
      rw [List.length_take] at hfl
      have hnx : fdsOf (ms.take (k + 1)) = if (fdsOf (ms.take k)).contains m.fd then fdsOf (ms.take k) else fdsOf (ms.take k) ++ [m.fd] := by
        rw [List.take_add_one, hm]
        exact fds_snoc _ _
      simp only [List.replicate, List.set]
      refine Ok.block (Ok.after (Ok.seq (Ok.regionW (G := fun _ => false) (C := fun _ _ _ => none) mixed layOk noCalls (fun _ _ h => by cases h) (.inl rfl) ?_)))
      refine wstepN rfl (ev_ix (xs := ms.map mvRow) (e := mvRow m) rfl rfl rfl (by rw [List.getElem?_map, hm]; rfl) rfl) (by dsimp only [putV, List.set]) ?_
      refine wstepN rfl rfl (by dsimp only [putV, List.set]) ?_
      refine wstepN rfl rfl (by dsimp only [putV, List.set]) ?_
      refine wstepN rfl rfl (by dsimp only [putV, List.set]) ?_
      refine wnil ?_
      refine Ok.regionW (G := fun _ => false) (C := TabB _) mixed layOk (K41_good ((fdsOf (ms.take k)).map svM) ((fdsOf (ms.take k)).map bkM) m (by simp; omega) (by simp; omega)) (fun _ _ h => by cases h) (.inl rfl) ?_
      refine wstepN rfl rfl (by dsimp only [putV, List.set]) ?_
      refine wstepN rfl rfl (by dsimp only [putV, List.set]) ?_
      refine wstepN rfl rfl (by dsimp only [putV, List.set]) ?_
      refine wstepN rfl (TabB_hit (fun v' b' h => by cases h; exact ⟨rfl, rfl⟩) (.call m.fd)) (by dsimp only [putV, List.set]) ?_
      rw [any_fds]
      refine wnil ?_
      cases hq : (fdsOf (ms.take k)).contains m.fd with
      | true =>
        rw [hq] at hnx
        refine ⟨[0, 1, 2, 3], [4, 5, 6, 10, 11, 12], _, rfl, by decide, floor_ok rfl, ?_⟩
        refine ⟨by kernel_rfl, Nat.lt_of_lt_of_eq (by decide : 20 < 25) (by kernel_rfl), hk, ⟨.val (i64 ((k + 1 : Nat) : Int)), by kernel_rfl⟩, ?_⟩
        rw [hnx]
        rfl
      | false =>
        rw [hq] at hnx
        refine ⟨[0, 1, 5, 6], [4, 5, 6, 10, 11, 12], _, rfl, by decide, floor_ok rfl, ?_⟩
        refine ⟨by kernel_rfl, Nat.lt_of_lt_of_eq (by decide : 20 < 25) (by kernel_rfl), hk, ⟨.val (i64 ((k + 1 : Nat) : Int)), by kernel_rfl⟩, ?_⟩
        rw [hnx]
        simp only [bs4, Bool.false_eq_true, if_false, List.map_append, List.map_cons, List.map_nil]
    · rintro _ _ ⟨_, ⟨u, rfl⟩, rfl⟩
      have h1 : (ms.map mvRow).length = ms.length := by simp
      refine ⟨[0, 1, 2, 3], [4, 5], _, rfl, by decide, floor_ok rfl, rfl, by kernel_rfl, ?_⟩
      rw [h1, List.take_length]
  rintro _ _ _ ⟨rfl, rfl, rfl⟩
  have hfl := fds_len ms
  unfold thn
  dsimp only
  refine Ok.seq (Ok.regionW (G := fun _ => false) (C := TabB _) mixed layOk (K44_good ((fdsOf ms).map svM) ((fdsOf ms).map bkM) (by simp; omega)) (fun _ _ h => by cases h) (.inl rfl) ?_)
  refine wstepN rfl rfl (by dsimp only [putV, List.set]) ?_
  refine wstepN rfl (TabB_hit (fun v' b' h => by cases h; exact ⟨rfl, rfl⟩) .call) (by dsimp only [putV, List.set]) ?_
  refine wnil ?_
  refine goOut 10 (r := keepV ms) (by kernel_rfl) rfl


end Go.Proofs.YtbkjiglbkckhmaaV
