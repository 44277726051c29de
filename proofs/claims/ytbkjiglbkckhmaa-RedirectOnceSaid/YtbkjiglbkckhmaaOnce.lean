/- The law RedirectOnce over plain values. -/
import Derived.Test.YtbkjiglbkckhmaaKeep29
import Derived.Test.YtbkjiglbkckhmaaEx35
namespace Go.Proofs.YtbkjiglbkckhmaaV
open Go Go.RowKit Go.Proofs.Ytbkjiglbkckhmaa
set_option maxRecDepth 20000
set_option maxHeartbeats 10000000

def svR (F : List Int) : List (List S) := (F.map svM).map mvRow
def bkR (F : List Int) : List (List S) := ((F.map bkM).reverse).map mvRow
theorem svR_len (F : List Int) : (svR F).length = F.length := by simp [svR]
theorem bkR_len (F : List Int) : (bkR F).length = F.length := by simp [bkR]
theorem svR_at {F : List Int} {k : Nat} {f : Int} (h : F[k]? = some f) : (svR F)[k]? = some (mvRow (svM f)) := by
  simp [svR, h]
theorem bkR_at {F : List Int} {k : Nat} {f : Int} (h : F[k]? = some f) : (bkR F)[F.length - 1 - k]? = some (mvRow (bkM f)) := by
  have hk : k < F.length := (List.getElem?_eq_some_iff.1 h).1
  unfold bkR
  rw [List.getElem?_map, List.getElem?_reverse (by simp; omega)]
  rw [show (F.map bkM).length - 1 - (F.length - 1 - k) = k by simp; omega, List.getElem?_map, h]
  rfl
theorem dd_nodup (l : List Int) : (dd l).Nodup := by
  refine snoc_ind (p := fun l => (dd l).Nodup) List.nodup_nil ?_ l
  intro l a ih
  rw [dd_snoc]
  split
  · exact ih
  · rename_i h
    rw [List.nodup_append]
    refine ⟨ih, by simp, fun x hx y hy e => ?_⟩
    obtain rfl := List.mem_singleton.1 hy
    subst e
    exact h (by simpa using hx)
theorem fds_ne {ms : List MV} {j k : Nat} {f g : Int} (hj : (fdsOf ms)[j]? = some f) (hk : (fdsOf ms)[k]? = some g) (hlt : j < k) : (f == g) = false := by
  have hn := dd_nodup (ms.map MV.fd)
  obtain ⟨h1, rfl⟩ := List.getElem?_eq_some_iff.1 hj
  obtain ⟨h2, rfl⟩ := List.getElem?_eq_some_iff.1 hk
  have : (fdsOf ms)[j] ≠ (fdsOf ms)[k] := fun e => by
    have := (List.getElem_inj hn).1 e
    omega
  simpa using this
theorem fds_has {ms : List MV} {m : MV} (h : m ∈ ms) : m.fd ∈ fdsOf ms := by
  unfold fdsOf
  rw [dd_mem]
  exact List.mem_map.2 ⟨m, h, rfl⟩
theorem fds_ne_nil {ms : List MV} (h : 0 < ms.length) : (fdsOf ms).length ≠ 0 := by
  obtain ⟨m, hm⟩ : ∃ m, m ∈ ms := List.exists_mem_of_length_pos h
  have := fds_has hm
  intro e
  rw [List.eq_nil_of_length_eq_zero e] at this
  cases this

inductive T9 (ms : List MV) : FuncId → List V → V → Prop
  | k28 : T9 ms 28 [.sl (ms.map mvRow)] (.tup [.sl (svR (fdsOf ms)), .sl (bkR (fdsOf ms))])
theorem T9_good (ms : List MV) (hl : ms.length ≤ 60) : Good Try.prog (TabP (T9 ms)) := by
  refine TabP_good fun f vs v h => ?_
  cases h with
  | k28 => exact ⟨keep28 ms hl, rfl, rfl, Try.call28⟩

theorem law9 (ms : List MV) : FnOk Try.prog 9 [.sl (ms.map mvRow)] [] (fun r _ => r = .val (.bool true)) := by
  refine FnOk.of layOk Try.func9 rfl ?_
  refine Ok.seq (go 10 rfl ?_)
  unfold thn
  dsimp only
  refine Ok.seq (Ok.seq (Ok.regionW (G := fun _ => false) (C := fun _ _ _ => none) mixed layOk noCalls (fun _ _ h => by cases h) (.inl rfl) ?_))
  generalize h1 : decide (((ms.map mvRow).length : Int) > 60) = u1
  refine wstepN rfl rfl (by dsimp only [putV, List.set]) ?_
  refine wstepN rfl rfl (by dsimp only [putV, List.set]) ?_
  refine wstepN rfl (gtrK h1 rfl rfl) (by dsimp only [putV, List.set]) ?_
  refine wnil (Ok.cond (b := u1) rfl (fun h => ?_) (fun h => Ok.skip ?_))
  · refine Ok.seq (Ok.regionW (G := fun _ => true) (C := TabP _) mixed layOk TE_good TabP_calm (.inl rfl) ?_)
    refine wstepN rfl (TabP_hit (fun v' h => by cases h; rfl) .ex) (by dsimp only [putV, List.set]) ?_
    refine wstepN rfl rfl (by dsimp only [putV, List.set]) ?_
    refine wnil ?_
    exact Ok.ret ⟨fun _ h => (by cases h), _, rfl, rfl⟩
  subst h
  have hl : ms.length ≤ 60 := by
    simp only [List.length_map, decide_eq_false_iff_not] at h1
    omega
  have hT := T9_good ms hl
  have hfl := fds_len ms
  unfold thn
  dsimp only
  refine Ok.seq (Ok.regionW (G := fun _ => true) (C := TabP _) mixed layOk hT TabP_calm (.inl rfl) ?_)
  refine wstepN rfl rfl (by dsimp only [putV, List.set]) ?_
  refine wstepN rfl (TabP_hit (fun v' h => by cases h; rfl) .k28) (by dsimp only [putV, List.set]) ?_
  repeat refine wstepN rfl rfl (by dsimp only [putV, List.set]) ?_
  refine wnil ?_
  have hF : ∃ F, F = fdsOf ms := ⟨_, rfl⟩
  obtain ⟨F, hF⟩ := hF
  rw [← hF]
  rw [← hF] at hfl
  have hsl := svR_len F
  have hbl := bkR_len F
  refine Ok.seq (Ok.mono (Q := fun e ts bs => e = .normal ∧ bs = [] ∧ ts = ((((List.replicate 125 V.gone).set 0 (.sl (ms.map mvRow))).set 3 (.sl (svR F))).set 4 (.sl (bkR F)))) ?_ ?_)
  · refine Ok.after (Ok.seq (Ok.regionW (G := fun _ => false) (C := fun _ _ _ => none) mixed layOk noCalls (fun _ _ h => by cases h) (.inl rfl) ?_))
    refine wstepN rfl rfl (by dsimp only [putV, List.set]) ?_
    refine wstepN rfl rfl (by dsimp only [putV, List.set]) ?_
    refine wstepN rfl rfl (by dsimp only [putV, List.set]) ?_
    refine wstepN rfl rfl (by dsimp only [putV, List.set]) ?_
    refine wstepN rfl (neqK (v := false) (by rw [hsl, hbl]; simp) rfl rfl) (by dsimp only [putV, List.set]) ?_
    refine wstepN rfl rfl (by dsimp only [putV, List.set]) ?_
    refine wstepN rfl rfl (by dsimp only [putV, List.set]) ?_
    refine wstepN rfl rfl (by dsimp only [putV, List.set]) ?_
    refine wstepN rfl rfl (by dsimp only [putV, List.set]) ?_
    refine wstepN rfl rfl (by dsimp only [putV, List.set]) ?_
    refine wstepN rfl (gtrK (v := false) (by simp only [decide_eq_false_iff_not, List.length_map] at hsl ⊢; omega) rfl rfl) (by dsimp only [putV, List.set]) ?_
    refine wstepN rfl rfl (by dsimp only [putV, List.set]) ?_
    refine wstepN rfl rfl (by dsimp only [putV, List.set]) ?_
    refine wstepN rfl rfl (by dsimp only [putV, List.set]) ?_
    refine wstepN rfl rfl (by dsimp only [putV, List.set]) ?_
    generalize h2 : decide (((ms.map mvRow).length : Int) > 0) = u2
    refine wstepN rfl (gtrK h2 rfl rfl) (by dsimp only [putV, List.set]) ?_
    refine wstepN rfl rfl (by dsimp only [putV, List.set]) ?_
    cases u2
    · repeat (first | refine wskipN rfl (by dsimp only [putV, List.set]) ?_ | refine wstepN rfl rfl (by dsimp only [putV, List.set]) ?_)
      refine wnil (Ok.cond (b := false) rfl (fun h => by cases h) (fun _ => Ok.skip ?_))
      exact ⟨[], [0, 3, 4], _, rfl, by decide, floor_ok rfl, rfl, rfl, by kernel_rfl⟩
    · have hne : F.length ≠ 0 := by
        rw [hF]
        exact fds_ne_nil (by simp at h2; omega)
      refine wstepN rfl rfl (by dsimp only [putV, List.set]) ?_
      refine wstepN rfl rfl (by dsimp only [putV, List.set]) ?_
      refine wstepN rfl (eqlK (v := false) (by simp only [beq_eq_false_iff_ne, ne_eq]; omega) rfl rfl) (by dsimp only [putV, List.set]) ?_
      refine wstepN rfl rfl (by dsimp only [putV, List.set]) ?_
      refine wstepN rfl rfl (by dsimp only [putV, List.set]) ?_
      refine wnil (Ok.cond (b := false) rfl (fun h => by cases h) (fun _ => Ok.skip ?_))
      exact ⟨[], [0, 3, 4], _, rfl, by decide, floor_ok rfl, rfl, rfl, by kernel_rfl⟩
  rintro _ _ _ ⟨rfl, rfl, rfl⟩
  simp only [List.replicate, List.set]
  unfold thn
  dsimp only
  refine Ok.seq (Ok.mono (Q := fun e ts bs => e = .normal ∧ bs = [] ∧ ts = (((List.replicate 125 V.gone).set 0 (.sl (ms.map mvRow))).set 3 (.sl (svR F)))) ?_ ?_)
  · refine Ok.after (Ok.seq (go 10 rfl ?_))
    refine Ok.gc [] [0, 3, 4, 44, 45] rfl (by decide) (floor_ok rfl) ?_
    refine Ok.range layOk (svR F).length (fun k ts bs => k ≤ (svR F).length ∧ bs = [] ∧ ∃ u, ts = (((((((List.replicate 125 V.gone).set 0 (.sl (ms.map mvRow))).set 3 (.sl (svR F))).set 4 (.sl (bkR F))).set 44 (.val (i64 (svR F).length))).set 99 u).set 45 (.val (i64 k)))) rfl rfl rfl rfl rfl rfl rfl rfl rfl (by omega) ?_ ?_ ?_ ?_
    · exact ⟨Nat.zero_le _, rfl, .gone, by kernel_rfl⟩
    · rintro k _ _ ⟨h, rfl, u, rfl⟩
      exact ⟨rfl, rfl, by simp, h⟩
    · rintro k _ _ hk ⟨_, rfl, u, rfl⟩
      obtain ⟨f, hf⟩ : ∃ f, F[k]? = some f := ⟨_, List.getElem?_eq_getElem (by omega)⟩
      have hs := svR_at hf
      have hb := bkR_at hf
      simp only [List.replicate, List.set]
      refine Ok.block (Ok.after (Ok.gc [] [0, 3, 4, 44, 45] rfl (by decide) (floor_ok rfl) ?_))
      refine Ok.seq (go 10 rfl ?_)
      unfold thn
      dsimp only
      refine Ok.seq (Ok.seq (Ok.regionW (G := fun _ => false) (C := fun _ _ _ => none) mixed layOk noCalls (fun _ _ h => by cases h) (.inr ⟨by kernel_rfl, by kernel_rfl⟩) ?_))
      refine wstepN rfl rfl (by dsimp only [putV, List.set]) ?_
      refine wstepN rfl rfl (by dsimp only [putV, List.set]) ?_
      refine wstepN rfl (ev_ix (z := k) (xs := svR F) (e := mvRow (svM f)) rfl rfl rfl hs rfl) (by dsimp only [putV, List.set]) ?_
      refine wstepN rfl rfl (by dsimp only [putV, List.set]) ?_
      refine wstepN rfl rfl (by dsimp only [putV, List.set]) ?_
      refine wstepN rfl rfl (by dsimp only [putV, List.set]) ?_
      refine wstepN rfl rfl (by dsimp only [putV, List.set]) ?_
      refine wstepN rfl rfl (by dsimp only [putV, List.set]) ?_
      refine wstepN rfl rfl (by dsimp only [putV, List.set]) ?_
      refine wstepN rfl rfl (by dsimp only [putV, List.set]) ?_
      refine wstepN rfl (subK (n := ((bkR F).length : Int) - 1) (wrap64 (by omega) (by omega)) rfl rfl) (by dsimp only [putV, List.set]) ?_
      refine wstepN rfl rfl (by dsimp only [putV, List.set]) ?_
      refine wstepN rfl (subK (n := ((F.length - 1 - k : Nat) : Int)) (by rw [wrap64 (by omega) (by omega)]; omega) rfl rfl) (by dsimp only [putV, List.set]) ?_
      refine wstepN rfl (ev_ix (z := F.length - 1 - k) (xs := bkR F) (e := mvRow (bkM f)) rfl rfl rfl hb rfl) (by dsimp only [putV, List.set]) ?_
      refine wstepN rfl rfl (by dsimp only [putV, List.set]) ?_
      refine wstepN rfl rfl (by dsimp only [putV, List.set]) ?_
      refine wstepN rfl rfl (by dsimp only [putV, List.set]) ?_
      refine wstepN rfl rfl (by dsimp only [putV, List.set]) ?_
      refine wstepN rfl rfl (by dsimp only [putV, List.set]) ?_
      refine wstepN rfl rfl (by dsimp only [putV, List.set]) ?_
      refine wstepN rfl rfl (by dsimp only [putV, List.set]) ?_
      refine wstepN rfl rfl (by dsimp only [putV, List.set]) ?_
      refine wstepN rfl (subK (n := ((bkR F).length : Int) - 1) (wrap64 (by omega) (by omega)) rfl rfl) (by dsimp only [putV, List.set]) ?_
      refine wstepN rfl rfl (by dsimp only [putV, List.set]) ?_
      refine wstepN rfl (subK (n := ((F.length - 1 - k : Nat) : Int)) (by rw [wrap64 (by omega) (by omega)]; omega) rfl rfl) (by dsimp only [putV, List.set]) ?_
      refine wstepN rfl (ev_ix (z := F.length - 1 - k) (xs := bkR F) (e := mvRow (bkM f)) rfl rfl rfl hb rfl) (by dsimp only [putV, List.set]) ?_
      refine wstepN rfl rfl (by dsimp only [putV, List.set]) ?_
      refine wstepN rfl rfl (by dsimp only [putV, List.set]) ?_
      refine wstepN rfl rfl (by dsimp only [putV, List.set]) ?_
      refine wstepN rfl rfl (by dsimp only [putV, List.set]) ?_
      refine wstepN rfl (ev_ix (z := k) (xs := svR F) (e := mvRow (svM f)) rfl rfl rfl hs rfl) (by dsimp only [putV, List.set]) ?_
      refine wstepN rfl rfl (by dsimp only [putV, List.set]) ?_
      refine wstepN rfl rfl (by dsimp only [putV, List.set]) ?_
      refine wstepN rfl (neqK (a := f) (b := f) (v := false) (by simp) rfl rfl) (by dsimp only [putV, List.set]) ?_
      refine wstepN rfl rfl (by dsimp only [putV, List.set]) ?_
      refine wnil (Ok.cond (b := false) rfl (fun h => by cases h) (fun _ => Ok.skip ?_))
      unfold thn
      dsimp only
      refine Ok.seq (go 10 rfl ?_)
      refine Ok.gc [] [0, 3, 4, 5, 44, 45, 83, 84] rfl (by decide) (floor_ok rfl) ?_
      refine Ok.range layOk k (fun j ts bs => j ≤ k ∧ bs = [] ∧ ∃ u, ts = (((((((((List.replicate 125 V.gone).set 0 (.sl (ms.map mvRow))).set 3 (.sl (svR F))).set 4 (.sl (bkR F))).set 5 (.val (i64 k))).set 44 (.val (i64 (svR F).length))).set 45 (.val (i64 k))).set 83 (.val (i64 k))).set 98 u).set 84 (.val (i64 j))) rfl rfl rfl rfl rfl rfl rfl rfl rfl (by omega) ?_ ?_ ?_ ?_
      · exact ⟨Nat.zero_le _, rfl, .gone, by kernel_rfl⟩
      · rintro j _ _ ⟨h, rfl, u, rfl⟩
        exact ⟨rfl, rfl, by simp, h⟩
      · rintro j _ _ hj ⟨_, rfl, u, rfl⟩
        obtain ⟨g, hg⟩ : ∃ g, F[j]? = some g := ⟨_, List.getElem?_eq_getElem (by omega)⟩
        have hsg := svR_at hg
        have hne : (g == f) = false := fds_ne (ms := ms) (by rw [← hF]; exact hg) (by rw [← hF]; exact hf) hj
        simp only [List.replicate, List.set]
        refine Ok.block (Ok.after (Ok.seq (go 10 rfl ?_)))
        unfold thn
        dsimp only
        refine Ok.seq (Ok.regionW (G := fun _ => false) (C := fun _ _ _ => none) mixed layOk noCalls (fun _ _ h => by cases h) (.inr ⟨by kernel_rfl, by kernel_rfl⟩) ?_)
        refine wstepN rfl rfl (by dsimp only [putV, List.set]) ?_
        refine wstepN rfl rfl (by dsimp only [putV, List.set]) ?_
        refine wstepN rfl (ev_ix (z := j) (xs := svR F) (e := mvRow (svM g)) rfl rfl rfl hsg rfl) (by dsimp only [putV, List.set]) ?_
        refine wstepN rfl rfl (by dsimp only [putV, List.set]) ?_
        refine wstepN rfl rfl (by dsimp only [putV, List.set]) ?_
        refine wstepN rfl rfl (by dsimp only [putV, List.set]) ?_
        refine wstepN rfl rfl (by dsimp only [putV, List.set]) ?_
        refine wstepN rfl (ev_ix (z := k) (xs := svR F) (e := mvRow (svM f)) rfl rfl rfl hs rfl) (by dsimp only [putV, List.set]) ?_
        refine wstepN rfl rfl (by dsimp only [putV, List.set]) ?_
        refine wstepN rfl rfl (by dsimp only [putV, List.set]) ?_
        refine wstepN rfl (eqlK hne rfl rfl) (by dsimp only [putV, List.set]) ?_
        refine wnil (Ok.cond (b := false) rfl (fun h => by cases h) (fun _ => Ok.skip ?_))
        refine ⟨[], [0, 3, 4, 5, 44, 45, 83, 84], _, rfl, by decide, floor_ok rfl, ?_⟩
        exact ⟨by kernel_rfl, Nat.lt_of_lt_of_eq (by decide : 98 < 125) (by kernel_rfl), hj, rfl, .val (i64 ((j + 1 : Nat) : Int)), by kernel_rfl⟩
      · rintro _ _ ⟨_, rfl, u, rfl⟩
        refine ⟨[], [0, 3, 4, 44, 45], _, rfl, by decide, floor_ok rfl, ?_⟩
        exact ⟨by kernel_rfl, Nat.lt_of_lt_of_eq (by decide : 99 < 125) (by kernel_rfl), hk, rfl, .val (i64 ((k + 1 : Nat) : Int)), by kernel_rfl⟩
    · rintro _ _ ⟨_, rfl, u, rfl⟩
      exact ⟨[], [0, 3], _, rfl, by decide, floor_ok rfl, rfl, rfl, by kernel_rfl⟩
  rintro _ _ _ ⟨rfl, rfl, rfl⟩
  simp only [List.replicate, List.set]
  unfold thn
  dsimp only
  refine Ok.seq (Ok.mono (Q := fun e ts bs => e = .normal ∧ bs = [] ∧ ts = (((List.replicate 125 V.gone).set 0 (.sl (ms.map mvRow))).set 3 (.sl (svR F)))) ?_ ?_)
  · refine Ok.after (Ok.seq (go 10 rfl ?_))
    refine Ok.gc [] [0, 3, 100, 101, 102] rfl (by decide) (floor_ok rfl) ?_
    refine Ok.range layOk (ms.map mvRow).length (fun k ts bs => k ≤ (ms.map mvRow).length ∧ bs = [] ∧ ∃ u, ts = (((((((List.replicate 125 V.gone).set 0 (.sl (ms.map mvRow))).set 3 (.sl (svR F))).set 100 (.sl (ms.map mvRow))).set 101 (.val (i64 (ms.map mvRow).length))).set 123 u).set 102 (.val (i64 k)))) rfl rfl rfl rfl rfl rfl rfl rfl rfl (by simp; omega) ?_ ?_ ?_ ?_
    · exact ⟨Nat.zero_le _, rfl, .gone, by kernel_rfl⟩
    · rintro k _ _ ⟨h, rfl, u, rfl⟩
      exact ⟨rfl, rfl, by simp, h⟩
    · rintro k _ _ hk ⟨_, rfl, u, rfl⟩
      obtain ⟨m, hm⟩ : ∃ m, ms[k]? = some m := ⟨_, List.getElem?_eq_getElem (by simpa using hk)⟩
      have hin : F.any (fun f => f == m.fd) = true := by
        rw [hF]
        exact List.any_eq_true.2 ⟨m.fd, fds_has (List.mem_of_getElem? hm), by simp⟩
      simp only [List.replicate, List.set]
      refine Ok.block (Ok.after (Ok.gc [] [0, 3, 100, 101, 102] rfl (by decide) (floor_ok rfl) ?_))
      refine Ok.seq (Ok.regionW (G := fun _ => false) (C := fun _ _ _ => none) mixed layOk noCalls (fun _ _ h => by cases h) (.inl rfl) ?_)
      refine wstepN rfl (ev_ix (z := k) (xs := ms.map mvRow) (e := mvRow m) rfl rfl rfl (by rw [List.getElem?_map, hm]; rfl) rfl) (by dsimp only [putV, List.set]) ?_
      refine wstepN rfl rfl (by dsimp only [putV, List.set]) ?_
      refine wstepN rfl rfl (by dsimp only [putV, List.set]) ?_
      refine wstepN rfl rfl (by dsimp only [putV, List.set]) ?_
      refine wnil ?_
      refine Ok.seq (go 10 rfl ?_)
      unfold thn
      dsimp only
      refine Ok.seq (Ok.mono (Q := fun e ts bs => e = .normal ∧ bs = [.cells (mvCel m)] ∧ ts = ((((((List.replicate 125 V.gone).set 0 (.sl (ms.map mvRow))).set 3 (.sl (svR F))).set 9 (.val (.bool true))).set 100 (.sl (ms.map mvRow))).set 101 (.val (i64 (ms.map mvRow).length))).set 102 (.val (i64 k))) ?_ ?_)
      · refine Ok.after (Ok.seq (go 10 rfl ?_))
        refine Ok.gc [0] [0, 3, 8, 9, 100, 101, 102, 106, 107, 108] rfl (by decide) (floor_ok rfl) ?_
        refine Ok.range layOk (svR F).length (fun j ts bs => j ≤ (svR F).length ∧ bs = [.cells (mvCel m)] ∧ ∃ u, ts = ((((((((((((List.replicate 125 V.gone).set 0 (.sl (ms.map mvRow))).set 3 (.sl (svR F))).set 8 (.ptr 0 0)).set 9 (.val (.bool ((F.take j).any fun f => f == m.fd)))).set 100 (.sl (ms.map mvRow))).set 101 (.val (i64 (ms.map mvRow).length))).set 102 (.val (i64 k))).set 106 (.sl (svR F))).set 107 (.val (i64 (svR F).length))).set 120 u).set 108 (.val (i64 j)))) rfl rfl rfl rfl rfl rfl rfl rfl rfl (by omega) ?_ ?_ ?_ ?_
        · exact ⟨Nat.zero_le _, rfl, .gone, by kernel_rfl⟩
        · rintro j _ _ ⟨h, rfl, u, rfl⟩
          exact ⟨rfl, rfl, by simp, h⟩
        · rintro j _ _ hj ⟨_, rfl, u, rfl⟩
          obtain ⟨g, hg⟩ : ∃ g, F[j]? = some g := ⟨_, List.getElem?_eq_getElem (by omega)⟩
          have hsg := svR_at hg
          have hnj : (F.take (j + 1)).any (fun f => f == m.fd) = ((F.take j).any (fun f => f == m.fd) || g == m.fd) := by
            rw [List.take_add_one, hg]
            simp
          simp only [List.replicate, List.set]
          generalize (F.take j).any (fun f => f == m.fd) = q at hnj
          refine Ok.block (Ok.after (Ok.gc [0] [0, 3, 8, 9, 100, 101, 102, 106, 107, 108] rfl (by decide) (floor_ok rfl) ?_))
          refine Ok.seq (Ok.regionW (G := fun _ => false) (C := fun _ _ _ => none) mixed layOk noCalls (fun _ _ h => by cases h) (.inl rfl) ?_)
          refine wstepN rfl (ev_ix (z := j) (xs := svR F) (e := mvRow (svM g)) rfl rfl rfl hsg rfl) (by dsimp only [putV, List.set]) ?_
          refine wstepN rfl rfl (by dsimp only [putV, List.set]) ?_
          refine wstepN rfl rfl (by dsimp only [putV, List.set]) ?_
          refine wstepN rfl rfl (by dsimp only [putV, List.set]) ?_
          refine wnil ?_
          refine Ok.regionW (G := fun _ => false) (C := fun _ _ _ => none) mixed layOk noCalls (fun _ _ h => by cases h) (.inl rfl) ?_
          cases q
          · refine wstepN rfl rfl (by dsimp only [putV, List.set]) ?_
            refine wstepN rfl rfl (by dsimp only [putV, List.set]) ?_
            refine wstepN rfl rfl (by dsimp only [putV, List.set]) ?_
            refine wstepN rfl rfl (by dsimp only [putV, List.set]) ?_
            refine wstepN rfl rfl (by dsimp only [putV, List.set]) ?_
            refine wstepN rfl rfl (by dsimp only [putV, List.set]) ?_
            refine wstepN rfl (eqlK (v := (g == m.fd)) rfl rfl rfl) (by dsimp only [putV, List.set]) ?_
            refine wstepN rfl rfl (by dsimp only [putV, List.set]) ?_
            refine wstepN rfl rfl (by dsimp only [putV, List.set]) ?_
            refine wnil ?_
            refine ⟨[0], [0, 3, 8, 9, 100, 101, 102, 106, 107, 108], _, rfl, by decide, floor_ok rfl, ?_⟩
            refine ⟨by kernel_rfl, Nat.lt_of_lt_of_eq (by decide : 120 < 125) (by kernel_rfl), hj, rfl, .val (i64 ((j + 1 : Nat) : Int)), ?_⟩
            rw [hnj]
            kernel_rfl
          · repeat (first | refine wskipN rfl (by dsimp only [putV, List.set]) ?_ | refine wstepN rfl rfl (by dsimp only [putV, List.set]) ?_)
            refine wnil ?_
            refine ⟨[0], [0, 3, 8, 9, 100, 101, 102, 106, 107, 108], _, rfl, by decide, floor_ok rfl, ?_⟩
            refine ⟨by kernel_rfl, Nat.lt_of_lt_of_eq (by decide : 120 < 125) (by kernel_rfl), hj, rfl, .val (i64 ((j + 1 : Nat) : Int)), ?_⟩
            rw [hnj]
            kernel_rfl
        · rintro _ _ ⟨_, rfl, u, rfl⟩
          rw [hsl, List.take_length, hin]
          exact ⟨[0], [0, 3, 9, 100, 101, 102], _, rfl, by decide, floor_ok rfl, rfl, rfl, by kernel_rfl⟩
      rintro _ _ _ ⟨rfl, rfl, rfl⟩
      simp only [List.replicate, List.set]
      refine Ok.seq (go 10 rfl ?_)
      refine Ok.cond (b := false) rfl (fun h => by cases h) (fun _ => Ok.skip ?_)
      refine ⟨[], [0, 3, 100, 101, 102], _, rfl, by decide, floor_ok rfl, ?_⟩
      exact ⟨by kernel_rfl, Nat.lt_of_lt_of_eq (by decide : 123 < 125) (by kernel_rfl), hk, rfl, .val (i64 ((k + 1 : Nat) : Int)), by kernel_rfl⟩
    · rintro _ _ ⟨_, rfl, u, rfl⟩
      exact ⟨[], [0, 3], _, rfl, by decide, floor_ok rfl, rfl, rfl, by kernel_rfl⟩
  rintro _ _ _ ⟨rfl, rfl, rfl⟩
  simp only [List.replicate, List.set]
  refine Ok.seq (Ok.regionW (G := fun _ => true) (C := TabP _) mixed layOk TE_good TabP_calm (.inl rfl) ?_)
  refine wstepN rfl (TabP_hit (fun v' h => by cases h; rfl) .ex) (by dsimp only [putV, List.set]) ?_
  refine wstepN rfl rfl (by dsimp only [putV, List.set]) ?_
  refine wnil ?_
  exact Ok.ret ⟨fun _ h => (by cases h), _, rfl, rfl⟩


end Go.Proofs.YtbkjiglbkckhmaaV
