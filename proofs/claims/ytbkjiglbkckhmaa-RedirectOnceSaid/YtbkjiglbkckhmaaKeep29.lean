/- What Keep of the reference returns. -/
import Derived.Test.YtbkjiglbkckhmaaKeep28
namespace Go.Proofs.YtbkjiglbkckhmaaV
open Go Go.RowKit Go.Proofs.Ytbkjiglbkckhmaa
set_option maxRecDepth 20000
set_option maxHeartbeats 1000000

theorem known_is (ms : List MV) (fd : Int) : (ms.any fun n => n.fd == fd) = (fdsOf ms).contains fd := by
  have h : fd ∈ fdsOf ms ↔ ∃ n ∈ ms, n.fd = fd := by
    unfold fdsOf
    rw [dd_mem]
    simp
  cases hq : (fdsOf ms).contains fd with
  | true =>
    have : fd ∈ fdsOf ms := by simpa using hq
    obtain ⟨n, hn, e⟩ := h.1 this
    exact List.any_eq_true.2 ⟨n, hn, by simp [e]⟩
  | false =>
    rw [List.any_eq_false]
    intro n hn e
    have : fd ∈ fdsOf ms := h.2 ⟨n, hn, by simpa using e⟩
    have : (fdsOf ms).contains fd = true := by simpa using this
    rw [hq] at this
    cases this

abbrev bs2 (X Y : List MV) : List Bx := [.row 62 6 (X.map mvRow), .row 62 6 (Y.map mvRow)]

theorem keep29 (ms : List MV) (hl : ms.length ≤ 60) : FnOk Try.prog 29 [.sl (ms.map mvRow)] [] (fun r bs' => fr bs' r = keepV ms) := by
  refine FnOk.fast (Q := fun r => r = keepV ms) layOk Try.func29 rfl ?_
  refine Ok.seq (go 10 rfl ?_)
  refine Ok.seq (go 10 rfl ?_)
  unfold thn
  dsimp only
  refine Ok.nilT 4 62 6 rfl ?_
  refine Ok.nilT 5 62 6 rfl ?_
  have h1 : (ms.map mvRow).length = ms.length := by simp
  refine Ok.seq (Ok.mono (Q := fun e ts bs => e = .normal ∧ ts = ((List.replicate 56 V.gone).set 4 (.row 0)).set 5 (.row 1) ∧ bs = bs2 ((fdsOf ms).map svM) (((fdsOf ms).map bkM).reverse)) ?_ ?_)
  · refine Ok.after (Ok.seq (go 10 rfl ?_))
    refine Ok.gc [0, 1] [0, 4, 5, 10, 11] rfl (by decide) (floor_ok rfl) ?_
    refine Ok.range layOk (ms.map mvRow).length (fun k ts bs => k ≤ (ms.map mvRow).length ∧ (∃ u, ts = ((((((List.replicate 56 V.gone).set 0 (.sl (ms.map mvRow))).set 4 (.row 0)).set 5 (.row 1)).set 10 (.val (i64 (ms.map mvRow).length))).set 53 u).set 11 (.val (i64 k))) ∧ bs = bs2 ((fdsOf (ms.take k)).map svM) (((fdsOf (ms.take k)).map bkM).reverse)) rfl rfl rfl rfl rfl rfl rfl rfl rfl (by omega) ?_ ?_ ?_ ?_
    · exact ⟨Nat.zero_le _, ⟨.gone, by kernel_rfl⟩, rfl⟩
    · rintro k _ _ ⟨h, ⟨u, rfl⟩, rfl⟩
      exact ⟨rfl, rfl, by simp, h⟩
    · rintro k _ _ hk ⟨_, ⟨u, rfl⟩, rfl⟩
      have hk2 : k < ms.length := by omega
      obtain ⟨m, hm⟩ : ∃ m, ms[k]? = some m := ⟨_, List.getElem?_eq_getElem hk2⟩
      have hfl := fds_len (ms.take k)
      rw [List.length_take] at hfl
      have hnx : fdsOf (ms.take (k + 1)) = if (fdsOf (ms.take k)).contains m.fd then fdsOf (ms.take k) else fdsOf (ms.take k) ++ [m.fd] := by
        rw [List.take_add_one, hm]
        exact fds_snoc _ _
      simp only [List.replicate, List.set]
      refine Ok.block (Ok.after (Ok.gc [0, 1] [0, 4, 5, 10, 11] rfl (by decide) (floor_ok rfl) ?_))
      refine Ok.seq (go 10 rfl ?_)
      refine Ok.seq (go 10 rfl ?_)
      unfold thn
      dsimp only
      refine Ok.seq (Ok.mono (Q := fun e ts bs => e = .normal ∧ ts = (((((((((List.replicate 56 V.gone).set 0 (.sl (ms.map mvRow))).set 4 (.row 0)).set 5 (.row 1)).set 10 (.val (i64 (ms.map mvRow).length))).set 11 (.val (i64 k))).set 6 (.val (i64 k))).set 7 (.val (.bool ((ms.take k).any fun n => n.fd == m.fd))))) ∧ bs = bs2 ((fdsOf (ms.take k)).map svM) (((fdsOf (ms.take k)).map bkM).reverse)) ?_ ?_)
      · refine Ok.after (Ok.seq (go 10 rfl ?_))
        refine Ok.gc [0, 1] [0, 4, 5, 6, 7, 10, 11, 14, 15] rfl (by decide) (floor_ok rfl) ?_
        refine Ok.range layOk k (fun j ts bs => j ≤ k ∧ (∃ u, ts = (((((((((((List.replicate 56 V.gone).set 0 (.sl (ms.map mvRow))).set 4 (.row 0)).set 5 (.row 1)).set 10 (.val (i64 (ms.map mvRow).length))).set 11 (.val (i64 k))).set 6 (.val (i64 k))).set 7 (.val (.bool ((ms.take j).any fun n => n.fd == m.fd)))).set 14 (.val (i64 k))).set 32 u).set 15 (.val (i64 j)))) ∧ bs = bs2 ((fdsOf (ms.take k)).map svM) (((fdsOf (ms.take k)).map bkM).reverse)) rfl rfl rfl rfl rfl rfl rfl rfl rfl (by omega) ?_ ?_ ?_ ?_
        · exact ⟨Nat.zero_le _, ⟨.gone, by kernel_rfl⟩, rfl⟩
        · rintro j _ _ ⟨h, ⟨u, rfl⟩, rfl⟩
          exact ⟨rfl, rfl, by simp, h⟩
        · rintro j _ _ hj ⟨_, ⟨u, rfl⟩, rfl⟩
          obtain ⟨n, hn⟩ : ∃ n, ms[j]? = some n := ⟨_, List.getElem?_eq_getElem (by omega)⟩
          have hnj : (ms.take (j + 1)).any (fun n => n.fd == m.fd) = ((ms.take j).any (fun n => n.fd == m.fd) || n.fd == m.fd) := by
            rw [List.take_add_one, hn]
            simp
          simp only [List.replicate, List.set]
          generalize (ms.take j).any (fun n => n.fd == m.fd) = q at hnj
          refine Ok.block (Ok.after (Ok.seq (go 10 rfl ?_)))
          unfold thn
          dsimp only
          refine Ok.regionW (G := fun _ => false) (C := fun _ _ _ => none) mixed layOk noCalls (fun _ _ h => by cases h) (.inr ⟨by kernel_rfl, by kernel_rfl⟩) ?_
          refine wstepN rfl rfl (by dsimp only [putV, List.set]) ?_
          refine wstepN rfl rfl (by dsimp only [putV, List.set]) ?_
          cases q
          · refine wstepN rfl rfl (by dsimp only [putV, List.set]) ?_
            refine wstepN rfl rfl (by dsimp only [putV, List.set]) ?_
            refine wstepN rfl (ev_ix (z := j) (xs := ms.map mvRow) (e := mvRow n) rfl rfl rfl (by rw [List.getElem?_map, hn]; rfl) rfl) (by dsimp only [putV, List.set]) ?_
            refine wstepN rfl rfl (by dsimp only [putV, List.set]) ?_
            refine wstepN rfl rfl (by dsimp only [putV, List.set]) ?_
            refine wstepN rfl rfl (by dsimp only [putV, List.set]) ?_
            refine wstepN rfl rfl (by dsimp only [putV, List.set]) ?_
            refine wstepN rfl (ev_ix (z := k) (xs := ms.map mvRow) (e := mvRow m) rfl rfl rfl (by rw [List.getElem?_map, hm]; rfl) rfl) (by dsimp only [putV, List.set]) ?_
            refine wstepN rfl rfl (by dsimp only [putV, List.set]) ?_
            refine wstepN rfl rfl (by dsimp only [putV, List.set]) ?_
            refine wstepN rfl (eqlK (v := (n.fd == m.fd)) rfl rfl rfl) (by dsimp only [putV, List.set]) ?_
            refine wstepN rfl rfl (by dsimp only [putV, List.set]) ?_
            refine wstepN rfl rfl (by dsimp only [putV, List.set]) ?_
            refine wnil ?_
            refine ⟨[0, 1], [0, 4, 5, 6, 7, 10, 11, 14, 15], _, rfl, by decide, floor_ok rfl, ?_⟩
            refine ⟨by kernel_rfl, Nat.lt_of_lt_of_eq (by decide : 32 < 56) (by kernel_rfl), hj, ⟨.val (i64 ((j + 1 : Nat) : Int)), ?_⟩, rfl⟩
            rw [hnj]
            kernel_rfl
          · repeat (first | refine wskipN rfl (by dsimp only [putV, List.set]) ?_ | refine wstepN rfl rfl (by dsimp only [putV, List.set]) ?_)
            refine wnil ?_
            refine ⟨[0, 1], [0, 4, 5, 6, 7, 10, 11, 14, 15], _, rfl, by decide, floor_ok rfl, ?_⟩
            refine ⟨by kernel_rfl, Nat.lt_of_lt_of_eq (by decide : 32 < 56) (by kernel_rfl), hj, ⟨.val (i64 ((j + 1 : Nat) : Int)), ?_⟩, rfl⟩
            rw [hnj]
            kernel_rfl
        · rintro _ _ ⟨_, ⟨u, rfl⟩, rfl⟩
          exact ⟨[0, 1], [0, 4, 5, 6, 7, 10, 11], _, rfl, by decide, floor_ok rfl, rfl, by kernel_rfl, rfl⟩
      rintro _ _ _ ⟨rfl, rfl, rfl⟩
      rw [known_is]
      simp only [List.replicate, List.set]
      unfold thn
      dsimp only
      cases hq : (fdsOf (ms.take k)).contains m.fd with
      | true =>
        rw [hq] at hnx
        refine Ok.seq (go 10 rfl ?_)
        refine Ok.cond (b := false) rfl (fun h => by cases h) (fun _ => Ok.skip ?_)
        refine ⟨[0, 1], [0, 4, 5, 10, 11], _, rfl, by decide, floor_ok rfl, ?_⟩
        refine ⟨by kernel_rfl, Nat.lt_of_lt_of_eq (by decide : 53 < 56) (by kernel_rfl), hk, ⟨.val (i64 ((k + 1 : Nat) : Int)), by kernel_rfl⟩, ?_⟩
        rw [hnx]
        rfl
      | false =>
        rw [hq] at hnx
        refine Ok.seq (go 10 rfl ?_)
        refine Ok.cond (b := true) rfl (fun _ => ?_) (fun h => by cases h)
        refine Ok.seq (Ok.regionW (G := fun _ => false) (C := fun _ _ _ => none) mixed layOk noCalls (fun _ _ h => by cases h) (.inl rfl) ?_)
        refine wstepN rfl rfl (by dsimp only [putV, List.set]) ?_
        refine wstepN rfl rfl (by dsimp only [putV, List.set]) ?_
        refine wstepN rfl rfl (by dsimp only [putV, List.set]) ?_
        refine wstepN rfl (ev_ix (z := k) (xs := ms.map mvRow) (e := mvRow m) rfl rfl rfl (by rw [List.getElem?_map, hm]; rfl) rfl) (by dsimp only [putV, List.set]) ?_
        refine wstepN rfl rfl (by dsimp only [putV, List.set]) ?_
        refine wstepN rfl rfl (by dsimp only [putV, List.set]) ?_
        refine wstepN rfl rfl (by dsimp only [putV, List.set]) ?_
        refine wstepN rfl rfl (by dsimp only [putV, List.set]) ?_
        refine wstepN rfl (ev_app (xs := ((fdsOf (ms.take k)).map svM).map mvRow) (ys := [mvRow (svM m.fd)]) rfl rfl rfl rfl rfl rfl rfl (by simp; omega) (by simp; omega)) (by dsimp only [putV, List.set]) ?_
        refine wstepN rfl rfl (by dsimp only [putV, List.set]) ?_
        refine wnil ?_
        refine Ok.regionW (G := fun _ => false) (C := fun _ _ _ => none) mixed layOk noCalls (fun _ _ h => by cases h) (.inl rfl) ?_
        refine wstepN rfl rfl (by dsimp only [putV, List.set]) ?_
        refine wstepN rfl rfl (by dsimp only [putV, List.set]) ?_
        refine wstepN rfl (ev_ix (z := k) (xs := ms.map mvRow) (e := mvRow m) rfl rfl rfl (by rw [List.getElem?_map, hm]; rfl) rfl) (by dsimp only [putV, List.set]) ?_
        refine wstepN rfl rfl (by dsimp only [putV, List.set]) ?_
        refine wstepN rfl rfl (by dsimp only [putV, List.set]) ?_
        refine wstepN rfl rfl (by dsimp only [putV, List.set]) ?_
        refine wstepN rfl rfl (by dsimp only [putV, List.set]) ?_
        refine wstepN rfl rfl (by dsimp only [putV, List.set]) ?_
        cases hB : fdsOf (ms.take k) with
        | nil =>
          rw [hB] at hnx
          refine wstepN rfl (ev_appE rfl rfl rfl rfl rfl) (by dsimp only [putV, List.set]) ?_
          refine wstepN rfl rfl (by dsimp only [putV, List.set]) ?_
          refine wnil ?_
          refine ⟨[3, 4], [0, 4, 5, 10, 11], _, rfl, by decide, floor_ok rfl, ?_⟩
          refine ⟨by kernel_rfl, Nat.lt_of_lt_of_eq (by decide : 53 < 56) (by kernel_rfl), hk, ⟨.val (i64 ((k + 1 : Nat) : Int)), by kernel_rfl⟩, ?_⟩
          rw [hnx]
          rfl
        | cons b0 bs0 =>
          have hne : ((((b0 :: bs0).map bkM).reverse).map mvRow).isEmpty = false := by simp
          rw [hB] at hnx hfl
          refine wstepN rfl (ev_app (xs := [mvRow (bkM m.fd)]) (ys := (((b0 :: bs0).map bkM).reverse).map mvRow) rfl rfl rfl rfl rfl hne rfl (by simp at hfl ⊢; omega) (by simp at hfl ⊢; omega)) (by dsimp only [putV, List.set]) ?_
          refine wstepN rfl rfl (by dsimp only [putV, List.set]) ?_
          refine wnil ?_
          refine ⟨[3, 5], [0, 4, 5, 10, 11], _, rfl, by decide, floor_ok rfl, ?_⟩
          refine ⟨by kernel_rfl, Nat.lt_of_lt_of_eq (by decide : 53 < 56) (by kernel_rfl), hk, ⟨.val (i64 ((k + 1 : Nat) : Int)), by kernel_rfl⟩, ?_⟩
          rw [hnx]
          simp only [Bool.false_eq_true, if_false, List.map_append, List.map_cons, List.map_nil, List.reverse_append, List.reverse_cons, List.reverse_nil, List.nil_append, List.cons_append, bs2]
    · rintro _ _ ⟨_, ⟨u, rfl⟩, rfl⟩
      refine ⟨[0, 1], [4, 5], _, rfl, by decide, floor_ok rfl, rfl, by kernel_rfl, ?_⟩
      rw [h1, List.take_length]
  rintro _ _ _ ⟨rfl, rfl, rfl⟩
  refine goOut 10 (r := keepV ms) (by kernel_rfl) rfl


end Go.Proofs.YtbkjiglbkckhmaaV
