/- Names and the library's functions on strings. -/
import Derived.Test.YtiefcnghjcafbaaDoorPlain
namespace Go.Proofs.YtiefcnghjcafbaaDoorV
open Go Go.RowKit Go.Proofs.YtiefcnghjcafbaaDoor
set_option maxRecDepth 20000
set_option maxHeartbeats 4000000

/-- One call that is known. -/
inductive T1 (f : FuncId) (vs : List V) (v : V) : FuncId → List V → V → Prop
  | k : T1 f vs v f vs v
theorem T1_hit {f : FuncId} {vs : List V} {v : V} {bs : List Bx} : TabP (T1 f vs v) f vs bs = some (v, bs) := TabP_hit (fun v' h => by cases h; rfl) .k
theorem T1_good {f : FuncId} {vs : List V} {v : V} (h : FnOk Tryd.prog f vs [] (fun r bs' => fr bs' r = v)) (h1 : vs.all clean = true) (h2 : clean v = true) (he : Enters Tryd.prog f) : Good Tryd.prog (TabP (T1 f vs v)) := TabP_good fun f' vs' v' h' => by
  cases h' with
  | k => exact ⟨h, h1, h2, he⟩


/-- What is no longer needed is let go; the temporaries that stay, told. -/
theorem Ok.gcE {P : Program} {m : Nat} {c : Code} {Q : Ex → List V → List Bx → Prop} {ts ts2 : List V} {bs bs2 : List Bx} (ks live : List Nat) (hb : rnBs bs ks ks = some bs2) (hn : ks.Nodup) (hm : ∀ k, k < m → k < bs.length → ks[k]? = some k)
    (ht : rnTs ks live 0 ts = ts2) (h : Ok P m c Q ts2 bs2) : Ok P m c Q ts bs := Ok.gc ks live hb hn hm (ht ▸ h)
/-- One value for each call. -/
def Uniq (R : FuncId → List V → V → Prop) : Prop := ∀ f vs v v', R f vs v → R f vs v' → v' = v
theorem TabP_use {R : FuncId → List V → V → Prop} {f : FuncId} {vs : List V} {v : V} {bs : List Bx} (hu : Uniq R) (h : R f vs v) : TabP R f vs bs = some (v, bs) := TabP_hit (fun v' h' => hu f vs v v' h h') h

theorem name37 (s : List UInt8) : FnOk Tryd.prog 37 [T s] [] (fun r bs' => fr bs' r = bV (nameB s)) := by
  by_cases e0 : s = []
  · subst e0; exact FnOk.fast (Q := fun r => r = bV (nameB [])) layOk Tryd.func37 rfl (goOut 100 (r := bV false) (by kernel_rfl) rfl)
  by_cases e1 : s = [46]
  · subst e1; exact FnOk.fast (Q := fun r => r = bV (nameB [46])) layOk Tryd.func37 rfl (goOut 100 (r := bV false) (by kernel_rfl) rfl)
  by_cases e2 : s = [46, 46]
  · subst e2; exact FnOk.fast (Q := fun r => r = bV (nameB [46, 46])) layOk Tryd.func37 rfl (goOut 100 (r := bV false) (by kernel_rfl) rfl)
  refine FnOk.fast (Q := fun r => r = bV (nameB s)) layOk Tryd.func37 rfl ?_
  have hq0 : decide (s = []) = false := by simpa using e0
  have hq1 : decide (s = [46]) = false := by simpa using e1
  have hq2 : decide (s = [46, 46]) = false := by simpa using e2
  have hpos : 1 ≤ s.length := by
    cases s with
    | nil => exact absurd rfl e0
    | cons c r => simp
  refine Ok.seq (go 10 rfl ?_)
  cases hl : decide ((s.length : Int) ≤ 32)
  · have hl' : ¬ s.length ≤ 32 := by
      have : ¬ (s.length : Int) ≤ 32 := by simpa using hl
      omega
    rw [show nameB s = false by simp [nameB, hl']]
    refine Ok.seq (Ok.regionW (G := fun _ => true) (C := TabP _) mixed layOk noT TabP_calm (.inl rfl) ?_)
    refine wstepN rfl rfl (by dsimp only [putV, List.set]) ?_
    first
      | refine wstepN rfl (neqT (by assumption) rfl rfl) (by dsimp only [putV, List.set]) ?_
      | refine wstepN rfl rfl (by dsimp only [putV, List.set]) ?_
    refine wstepN rfl rfl (by dsimp only [putV, List.set]) ?_
    first
      | refine wskipN rfl (by dsimp only [putV, List.set]) ?_
      | refine wstepN rfl rfl (by dsimp only [putV, List.set]) ?_
    first
      | refine wskipN rfl (by dsimp only [putV, List.set]) ?_
      | refine wstepN rfl (lenT rfl rfl) (by dsimp only [putV, List.set]) ?_
      | refine wstepN rfl rfl (by dsimp only [putV, List.set]) ?_
    first
      | refine wskipN rfl (by dsimp only [putV, List.set]) ?_
      | refine wstepN rfl (leqK h32 rfl rfl) (by dsimp only [putV, List.set]) ?_
      | refine wstepN rfl (leqK (by assumption) rfl rfl) (by dsimp only [putV, List.set]) ?_
      | refine wstepN rfl rfl (by dsimp only [putV, List.set]) ?_
    refine wstepN rfl rfl (by dsimp only [putV, List.set]) ?_
    refine wstepN rfl rfl (by dsimp only [putV, List.set]) ?_
    first
      | refine wskipN rfl (by dsimp only [putV, List.set]) ?_
      | refine wstepN rfl rfl (by dsimp only [putV, List.set]) ?_
    first
      | refine wskipN rfl (by dsimp only [putV, List.set]) ?_
      | refine wstepN rfl (hit61 (by first | assumption | omega)) (by dsimp only [putV, List.set]) ?_
      | refine wstepN rfl (T1_hit) (by dsimp only [putV, List.set]) ?_
      | refine wstepN rfl (TabP_use (by assumption) (by assumption)) (by dsimp only [putV, List.set]) ?_
      | refine wstepN rfl (TabP_hit (fun v' h => by cases h; rfl) (by assumption)) (by dsimp only [putV, List.set]) ?_
      | refine wstepN rfl (TabP_hit (fun v' h => by cases h; rfl) (by constructor)) (by dsimp only [putV, List.set]) ?_
      | refine wstepN rfl rfl (by dsimp only [putV, List.set]) ?_
    first
      | refine wskipN rfl (by dsimp only [putV, List.set]) ?_
      | refine wstepN rfl rfl (by dsimp only [putV, List.set]) ?_
    refine wstepN rfl rfl (by dsimp only [putV, List.set]) ?_
    refine wstepN rfl rfl (by dsimp only [putV, List.set]) ?_
    first
      | refine wskipN rfl (by dsimp only [putV, List.set]) ?_
      | refine wstepN rfl rfl (by dsimp only [putV, List.set]) ?_
    first
      | refine wskipN rfl (by dsimp only [putV, List.set]) ?_
      | refine wstepN rfl (neqT (by assumption) rfl rfl) (by dsimp only [putV, List.set]) ?_
      | refine wstepN rfl rfl (by dsimp only [putV, List.set]) ?_
    refine wstepN rfl rfl (by dsimp only [putV, List.set]) ?_
    refine wstepN rfl rfl (by dsimp only [putV, List.set]) ?_
    first
      | refine wskipN rfl (by dsimp only [putV, List.set]) ?_
      | refine wstepN rfl rfl (by dsimp only [putV, List.set]) ?_
    first
      | refine wskipN rfl (by dsimp only [putV, List.set]) ?_
      | refine wstepN rfl (neqT (by assumption) rfl rfl) (by dsimp only [putV, List.set]) ?_
      | refine wstepN rfl rfl (by dsimp only [putV, List.set]) ?_
    refine wstepN rfl rfl (by dsimp only [putV, List.set]) ?_
    refine wstepN rfl rfl (by dsimp only [putV, List.set]) ?_
    refine wnil (Ok.ret ⟨fun _ h => (by cases h), _, rfl, rfl⟩)
  · have hl' : s.length ≤ 32 := by
      have : (s.length : Int) ≤ 32 := by simpa using hl
      omega
    have hT := T1_good (has61 s (by omega)) rfl rfl Tryd.call61
    rw [show nameB s = !s.any bad by simp [nameB, hl', hpos, e1, e2]]
    cases hb : s.any bad
    · rw [hb] at hT
      refine Ok.seq (Ok.regionW (G := fun _ => true) (C := TabP _) mixed layOk hT TabP_calm (.inl rfl) ?_)
      refine wstepN rfl rfl (by dsimp only [putV, List.set]) ?_
      first
        | refine wstepN rfl (neqT (by assumption) rfl rfl) (by dsimp only [putV, List.set]) ?_
        | refine wstepN rfl rfl (by dsimp only [putV, List.set]) ?_
      refine wstepN rfl rfl (by dsimp only [putV, List.set]) ?_
      first
        | refine wskipN rfl (by dsimp only [putV, List.set]) ?_
        | refine wstepN rfl rfl (by dsimp only [putV, List.set]) ?_
      first
        | refine wskipN rfl (by dsimp only [putV, List.set]) ?_
        | refine wstepN rfl (lenT rfl rfl) (by dsimp only [putV, List.set]) ?_
        | refine wstepN rfl rfl (by dsimp only [putV, List.set]) ?_
      first
        | refine wskipN rfl (by dsimp only [putV, List.set]) ?_
        | refine wstepN rfl (leqK h32 rfl rfl) (by dsimp only [putV, List.set]) ?_
        | refine wstepN rfl (leqK (by assumption) rfl rfl) (by dsimp only [putV, List.set]) ?_
        | refine wstepN rfl rfl (by dsimp only [putV, List.set]) ?_
      refine wstepN rfl rfl (by dsimp only [putV, List.set]) ?_
      refine wstepN rfl rfl (by dsimp only [putV, List.set]) ?_
      first
        | refine wskipN rfl (by dsimp only [putV, List.set]) ?_
        | refine wstepN rfl rfl (by dsimp only [putV, List.set]) ?_
      refine wstepN rfl T1_hit (by dsimp only [putV, List.set]) ?_
      first
        | refine wskipN rfl (by dsimp only [putV, List.set]) ?_
        | refine wstepN rfl rfl (by dsimp only [putV, List.set]) ?_
      refine wstepN rfl rfl (by dsimp only [putV, List.set]) ?_
      refine wstepN rfl rfl (by dsimp only [putV, List.set]) ?_
      first
        | refine wskipN rfl (by dsimp only [putV, List.set]) ?_
        | refine wstepN rfl rfl (by dsimp only [putV, List.set]) ?_
      first
        | refine wskipN rfl (by dsimp only [putV, List.set]) ?_
        | refine wstepN rfl (neqT (by assumption) rfl rfl) (by dsimp only [putV, List.set]) ?_
        | refine wstepN rfl rfl (by dsimp only [putV, List.set]) ?_
      refine wstepN rfl rfl (by dsimp only [putV, List.set]) ?_
      refine wstepN rfl rfl (by dsimp only [putV, List.set]) ?_
      first
        | refine wskipN rfl (by dsimp only [putV, List.set]) ?_
        | refine wstepN rfl rfl (by dsimp only [putV, List.set]) ?_
      first
        | refine wskipN rfl (by dsimp only [putV, List.set]) ?_
        | refine wstepN rfl (neqT (by assumption) rfl rfl) (by dsimp only [putV, List.set]) ?_
        | refine wstepN rfl rfl (by dsimp only [putV, List.set]) ?_
      refine wstepN rfl rfl (by dsimp only [putV, List.set]) ?_
      refine wstepN rfl rfl (by dsimp only [putV, List.set]) ?_
      refine wnil (Ok.ret ⟨fun _ h => (by cases h), _, rfl, rfl⟩)
    · rw [hb] at hT
      refine Ok.seq (Ok.regionW (G := fun _ => true) (C := TabP _) mixed layOk hT TabP_calm (.inl rfl) ?_)
      refine wstepN rfl rfl (by dsimp only [putV, List.set]) ?_
      first
        | refine wstepN rfl (neqT (by assumption) rfl rfl) (by dsimp only [putV, List.set]) ?_
        | refine wstepN rfl rfl (by dsimp only [putV, List.set]) ?_
      refine wstepN rfl rfl (by dsimp only [putV, List.set]) ?_
      first
        | refine wskipN rfl (by dsimp only [putV, List.set]) ?_
        | refine wstepN rfl rfl (by dsimp only [putV, List.set]) ?_
      first
        | refine wskipN rfl (by dsimp only [putV, List.set]) ?_
        | refine wstepN rfl (lenT rfl rfl) (by dsimp only [putV, List.set]) ?_
        | refine wstepN rfl rfl (by dsimp only [putV, List.set]) ?_
      first
        | refine wskipN rfl (by dsimp only [putV, List.set]) ?_
        | refine wstepN rfl (leqK h32 rfl rfl) (by dsimp only [putV, List.set]) ?_
        | refine wstepN rfl (leqK (by assumption) rfl rfl) (by dsimp only [putV, List.set]) ?_
        | refine wstepN rfl rfl (by dsimp only [putV, List.set]) ?_
      refine wstepN rfl rfl (by dsimp only [putV, List.set]) ?_
      refine wstepN rfl rfl (by dsimp only [putV, List.set]) ?_
      first
        | refine wskipN rfl (by dsimp only [putV, List.set]) ?_
        | refine wstepN rfl rfl (by dsimp only [putV, List.set]) ?_
      refine wstepN rfl T1_hit (by dsimp only [putV, List.set]) ?_
      first
        | refine wskipN rfl (by dsimp only [putV, List.set]) ?_
        | refine wstepN rfl rfl (by dsimp only [putV, List.set]) ?_
      refine wstepN rfl rfl (by dsimp only [putV, List.set]) ?_
      refine wstepN rfl rfl (by dsimp only [putV, List.set]) ?_
      first
        | refine wskipN rfl (by dsimp only [putV, List.set]) ?_
        | refine wstepN rfl rfl (by dsimp only [putV, List.set]) ?_
      first
        | refine wskipN rfl (by dsimp only [putV, List.set]) ?_
        | refine wstepN rfl (neqT (by assumption) rfl rfl) (by dsimp only [putV, List.set]) ?_
        | refine wstepN rfl rfl (by dsimp only [putV, List.set]) ?_
      refine wstepN rfl rfl (by dsimp only [putV, List.set]) ?_
      refine wstepN rfl rfl (by dsimp only [putV, List.set]) ?_
      first
        | refine wskipN rfl (by dsimp only [putV, List.set]) ?_
        | refine wstepN rfl rfl (by dsimp only [putV, List.set]) ?_
      first
        | refine wskipN rfl (by dsimp only [putV, List.set]) ?_
        | refine wstepN rfl (neqT (by assumption) rfl rfl) (by dsimp only [putV, List.set]) ?_
        | refine wstepN rfl rfl (by dsimp only [putV, List.set]) ?_
      refine wstepN rfl rfl (by dsimp only [putV, List.set]) ?_
      refine wstepN rfl rfl (by dsimp only [putV, List.set]) ?_
      refine wnil (Ok.ret ⟨fun _ h => (by cases h), _, rfl, rfl⟩)

def lastI (s : List UInt8) : Int := match lastSlash s with
  | some i => (i : Int)
  | none => -1
theorem last70 (s : List UInt8) (hs : s.length ≤ 100000) : FnOk Tryd.prog 70 [T s, .val (.int .u8 47)] [] (fun r bs' => fr bs' r = iV (lastI s)) := by
  refine FnOk.fast (Q := fun r => r = iV (lastI s)) layOk Tryd.func70 rfl ?_
  have hsub : IntKind.i64.wrap ((s.length : Int) - 1) = (s.length : Int) - 1 := wrap64 (by omega) (by omega)
  refine Ok.seq (go 10 rfl ?_)
  refine Ok.seq ?_
  refine Ok.seq (Ok.regionW (G := fun _ => true) (C := TabP _) mixed layOk noT TabP_calm (.inl rfl) ?_)
  refine wstepN rfl rfl (by dsimp only [putV, List.set]) ?_
  first
    | refine wstepN rfl (lenT rfl rfl) (by dsimp only [putV, List.set]) ?_
    | refine wstepN rfl rfl (by dsimp only [putV, List.set]) ?_
  first
    | refine wstepN rfl (subK (by assumption) rfl rfl) (by dsimp only [putV, List.set]) ?_
    | refine wstepN rfl rfl (by dsimp only [putV, List.set]) ?_
  refine wstepN rfl rfl (by dsimp only [putV, List.set]) ?_
  refine wnil ?_
  refine Ok.gc (bs2 := []) [] [0, 1, 5] (by kernel_rfl) (by decide) (floor_ok rfl) ?_
  refine Ok.block (Ok.loop (fun n ts bs => n ≤ s.length ∧ lastSlash s = lastSlash (s.take n) ∧ bs = [] ∧ ts = (((List.replicate 19 V.gone).set 0 (T s)).set 1 (.val (.int .u8 47))).set 5 (iV ((n : Int) - 1))) s.length ?_ ?_)
  · exact ⟨Nat.le_refl _, by rw [List.take_length], rfl, rfl⟩
  rintro n _ _ ⟨hn, hl, rfl, rfl⟩
  simp only [List.replicate, List.set]
  refine Ok.seq (Ok.seq ?_)
  cases n with
  | zero =>
    have hq : decide (((0 : Nat) : Int) - 1 ≥ 0) = false := rfl
    refine Ok.regionW (G := fun _ => true) (C := TabP _) mixed layOk noT TabP_calm (.inl rfl) ?_
    refine wstepN rfl rfl (by dsimp only [putV, List.set]) ?_
    first
      | refine wstepN rfl (geqK h0 rfl rfl) (by dsimp only [putV, List.set]) ?_
      | refine wstepN rfl (geqK (by assumption) rfl rfl) (by dsimp only [putV, List.set]) ?_
      | refine wstepN rfl rfl (by dsimp only [putV, List.set]) ?_
    refine wnil (Ok.cond (b := false) rfl (fun h => by cases h) (fun _ => ?_))
    refine Ok.exit ?_
    exact go 10 rfl ⟨fun _ h => (by cases h), _, rfl, by rw [lastI, hl]; rfl⟩
  | succ k =>
    obtain ⟨c, hc⟩ : ∃ c, s[k]? = some c := ⟨_, List.getElem?_eq_getElem (by omega)⟩
    rw [last_take hc] at hl
    rw [show ((k + 1 : Nat) : Int) - 1 = (k : Int) by omega]
    have hq : decide ((k : Int) ≥ 0) = true := by simp
    have hsub : IntKind.i64.wrap ((k : Int) - 1) = (k : Int) - 1 := wrap64 (by omega) (by omega)
    refine Ok.regionW (G := fun _ => true) (C := TabP _) mixed layOk noT TabP_calm (.inl rfl) ?_
    refine wstepN rfl rfl (by dsimp only [putV, List.set]) ?_
    first
      | refine wstepN rfl (geqK h0 rfl rfl) (by dsimp only [putV, List.set]) ?_
      | refine wstepN rfl (geqK (by assumption) rfl rfl) (by dsimp only [putV, List.set]) ?_
      | refine wstepN rfl rfl (by dsimp only [putV, List.set]) ?_
    refine wnil (Ok.cond (b := true) rfl (fun _ => ?_) (fun h => by cases h))
    refine Ok.skip ?_
    refine Ok.after (Ok.seq (Ok.block (Ok.seq ?_)))
    cases h47 : decide (c = 47)
    · refine Ok.regionW (G := fun _ => true) (C := TabP _) mixed layOk noT TabP_calm (.inl rfl) ?_
      refine wstepN rfl rfl (by dsimp only [putV, List.set]) ?_
      refine wstepN rfl rfl (by dsimp only [putV, List.set]) ?_
      first
        | refine wstepN rfl (idxT rfl rfl rfl (by assumption)) (by dsimp only [putV, List.set]) ?_
        | refine wstepN rfl rfl (by dsimp only [putV, List.set]) ?_
      refine wstepN rfl rfl (by dsimp only [putV, List.set]) ?_
      first
        | refine wstepN rfl (eqC (by first | rfl | assumption) (by assumption) rfl rfl) (by dsimp only [putV, List.set]) ?_
        | refine wstepN rfl (eqC (d := 47) rfl (by assumption) rfl rfl) (by dsimp only [putV, List.set]) ?_
        | refine wstepN rfl (eqC (d := 0) rfl (by assumption) rfl rfl) (by dsimp only [putV, List.set]) ?_
        | refine wstepN rfl (eqlK (by assumption) rfl rfl) (by dsimp only [putV, List.set]) ?_
        | refine wstepN rfl rfl (by dsimp only [putV, List.set]) ?_
      refine wnil (Ok.cond (b := false) rfl (fun h => by cases h) (fun _ => ?_))
      refine Ok.skip ?_
      refine Ok.regionW (G := fun _ => true) (C := TabP _) mixed layOk noT TabP_calm (.inl rfl) ?_
      refine wstepN rfl rfl (by dsimp only [putV, List.set]) ?_
      first
        | refine wstepN rfl (subK (by assumption) rfl rfl) (by dsimp only [putV, List.set]) ?_
        | refine wstepN rfl rfl (by dsimp only [putV, List.set]) ?_
      refine wstepN rfl rfl (by dsimp only [putV, List.set]) ?_
      refine wnil ?_
      rw [if_neg (by simpa using h47)] at hl
      exact ⟨[], [0, 1, 5], [], by kernel_rfl, by decide, floor_ok rfl, k, by omega, by omega, hl, rfl, rfl⟩
    · refine Ok.regionW (G := fun _ => true) (C := TabP _) mixed layOk noT TabP_calm (.inl rfl) ?_
      refine wstepN rfl rfl (by dsimp only [putV, List.set]) ?_
      refine wstepN rfl rfl (by dsimp only [putV, List.set]) ?_
      first
        | refine wstepN rfl (idxT rfl rfl rfl (by assumption)) (by dsimp only [putV, List.set]) ?_
        | refine wstepN rfl rfl (by dsimp only [putV, List.set]) ?_
      refine wstepN rfl rfl (by dsimp only [putV, List.set]) ?_
      first
        | refine wstepN rfl (eqC (by first | rfl | assumption) (by assumption) rfl rfl) (by dsimp only [putV, List.set]) ?_
        | refine wstepN rfl (eqC (d := 47) rfl (by assumption) rfl rfl) (by dsimp only [putV, List.set]) ?_
        | refine wstepN rfl (eqC (d := 0) rfl (by assumption) rfl rfl) (by dsimp only [putV, List.set]) ?_
        | refine wstepN rfl (eqlK (by assumption) rfl rfl) (by dsimp only [putV, List.set]) ?_
        | refine wstepN rfl rfl (by dsimp only [putV, List.set]) ?_
      refine wnil (Ok.cond (b := true) rfl (fun _ => ?_) (fun h => by cases h))
      rw [if_pos (by simpa using h47)] at hl
      rw [show lastI s = (k : Int) by rw [lastI, hl]]
      refine Ok.seq (Ok.regionW (G := fun _ => true) (C := TabP _) mixed layOk noT TabP_calm (.inl rfl) ?_)
      refine wstepN rfl rfl (by dsimp only [putV, List.set]) ?_
      refine wstepN rfl rfl (by dsimp only [putV, List.set]) ?_
      refine wnil (Ok.ret ?_)
      exact ⟨[], [0, 1, 4, 5], [], by kernel_rfl, by decide, floor_ok rfl, fun _ h => (by cases h), _, rfl, rfl⟩

theorem last52 (s : List UInt8) (hs : s.length ≤ 100000) : FnOk Tryd.prog 52 [T s, .val (.int .u8 47)] [] (fun r bs' => fr bs' r = iV (lastI s)) := by
  refine FnOk.fast (Q := fun r => r = iV (lastI s)) layOk Tryd.func52 rfl ?_
  have hT := T1_good (last70 s hs) rfl rfl Tryd.call70
  refine Ok.seq (go 10 rfl ?_)
  refine Ok.seq (Ok.regionW (G := fun _ => true) (C := TabP _) mixed layOk hT TabP_calm (.inl rfl) ?_)
  refine wstepN rfl rfl (by dsimp only [putV, List.set]) ?_
  refine wstepN rfl rfl (by dsimp only [putV, List.set]) ?_
  refine wstepN rfl T1_hit (by dsimp only [putV, List.set]) ?_
  refine wstepN rfl rfl (by dsimp only [putV, List.set]) ?_
  refine wnil (Ok.ret ⟨fun _ h => (by cases h), _, rfl, rfl⟩)

theorem parent36 (s : List UInt8) (hs : s.length ≤ 100000) : FnOk Tryd.prog 36 [T s] [] (fun r bs' => fr bs' r = T (parentB s)) := by
  refine FnOk.fast (Q := fun r => r = T (parentB s)) layOk Tryd.func36 rfl ?_
  have hT := T1_good (last52 s hs) rfl rfl Tryd.call52
  refine Ok.seq (go 10 rfl ?_)
  refine Ok.seq ?_
  refine Ok.seq (Ok.regionW (G := fun _ => true) (C := TabP _) mixed layOk hT TabP_calm (.inl rfl) ?_)
  refine wstepN rfl rfl (by dsimp only [putV, List.set]) ?_
  refine wstepN rfl T1_hit (by dsimp only [putV, List.set]) ?_
  refine wstepN rfl rfl (by dsimp only [putV, List.set]) ?_
  refine wnil ?_
  cases hl : lastSlash s with
  | none =>
    have hq : decide (lastI s > 0) = false := by simp [lastI, hl]
    rw [show parentB s = [47] by simp [parentB, hl]]
    refine Ok.seq (Ok.regionW (G := fun _ => true) (C := TabP _) mixed layOk noT TabP_calm (.inl rfl) ?_)
    refine wstepN rfl rfl (by dsimp only [putV, List.set]) ?_
    first
      | refine wstepN rfl (gtrK h0 rfl rfl) (by dsimp only [putV, List.set]) ?_
      | refine wstepN rfl (gtrK (by assumption) rfl rfl) (by dsimp only [putV, List.set]) ?_
      | refine wstepN rfl rfl (by dsimp only [putV, List.set]) ?_
    refine wnil (Ok.cond (b := false) rfl (fun h => by cases h) (fun _ => ?_))
    refine Ok.skip ?_
    exact go 10 rfl ⟨fun _ h => (by cases h), _, rfl, rfl⟩
  | some i =>
    cases i with
    | zero =>
      have hq : decide (lastI s > 0) = false := by simp [lastI, hl]
      rw [show parentB s = [47] by simp [parentB, hl]]
      refine Ok.seq (Ok.regionW (G := fun _ => true) (C := TabP _) mixed layOk noT TabP_calm (.inl rfl) ?_)
      refine wstepN rfl rfl (by dsimp only [putV, List.set]) ?_
      first
        | refine wstepN rfl (gtrK h0 rfl rfl) (by dsimp only [putV, List.set]) ?_
        | refine wstepN rfl (gtrK (by assumption) rfl rfl) (by dsimp only [putV, List.set]) ?_
        | refine wstepN rfl rfl (by dsimp only [putV, List.set]) ?_
      refine wnil (Ok.cond (b := false) rfl (fun h => by cases h) (fun _ => ?_))
      refine Ok.skip ?_
      exact go 10 rfl ⟨fun _ h => (by cases h), _, rfl, rfl⟩
    | succ j =>
      have hj : j + 1 < s.length := (List.getElem?_eq_some_iff.1 (last_lt hl)).1
      have hi : lastI s = ((j + 1 : Nat) : Int) := by simp [lastI, hl]
      rw [hi]
      have hq : decide (((j + 1 : Nat) : Int) > 0) = true := decide_eq_true (by omega)
      rw [show parentB s = s.take (j + 1) by simp [parentB, hl]]
      refine Ok.seq (Ok.regionW (G := fun _ => true) (C := TabP _) mixed layOk noT TabP_calm (.inl rfl) ?_)
      refine wstepN rfl rfl (by dsimp only [putV, List.set]) ?_
      first
        | refine wstepN rfl (gtrK h0 rfl rfl) (by dsimp only [putV, List.set]) ?_
        | refine wstepN rfl (gtrK (by assumption) rfl rfl) (by dsimp only [putV, List.set]) ?_
        | refine wstepN rfl rfl (by dsimp only [putV, List.set]) ?_
      refine wnil (Ok.cond (b := true) rfl (fun _ => ?_) (fun h => by cases h))
      refine Ok.seq (Ok.regionW (G := fun _ => true) (C := TabP _) mixed layOk noT TabP_calm (.inl rfl) ?_)
      refine wstepN rfl rfl (by dsimp only [putV, List.set]) ?_
      refine wstepN rfl rfl (by dsimp only [putV, List.set]) ?_
      first
        | refine wstepN rfl (cutToT rfl rfl rfl (by omega)) (by dsimp only [putV, List.set]) ?_
        | refine wstepN rfl (cutToT rfl rfl rfl (by assumption)) (by dsimp only [putV, List.set]) ?_
        | refine wstepN rfl rfl (by dsimp only [putV, List.set]) ?_
      refine wstepN rfl rfl (by dsimp only [putV, List.set]) ?_
      refine wnil (Ok.ret ⟨fun _ h => (by cases h), _, rfl, rfl⟩)

theorem suf78 (a : List UInt8) (c : UInt8) (hs : a.length ≤ 100000) : FnOk Tryd.prog 78 [T (a ++ [c]), T [47]] [] (fun r bs' => fr bs' r = bV (decide ([c] = [(47 : UInt8)]))) := by
  refine FnOk.fast (Q := fun r => r = bV (decide ([c] = [(47 : UInt8)]))) layOk Tryd.func78 rfl ?_
  have hq : decide ((((a ++ [c]).length : Nat) : Int) ≥ ((([47] : List UInt8).length : Nat) : Int)) = true := decide_eq_true (by simp; omega)
  have hsub : IntKind.i64.wrap ((((a ++ [c]).length : Nat) : Int) - ((([47] : List UInt8).length : Nat) : Int)) = ((a.length : Nat) : Int) := by
    rw [wrap64 (by simp <;> omega) (by simp <;> omega)]
    simp
  generalize hv : decide ([c] = [(47 : UInt8)]) = v
  refine Ok.seq (go 10 rfl ?_)
  refine Ok.seq (Ok.regionW (G := fun _ => true) (C := TabP _) mixed layOk noT TabP_calm (.inl rfl) ?_)
  refine wstepN rfl rfl (by dsimp only [putV, List.set]) ?_
  first
    | refine wstepN rfl (lenT rfl rfl) (by dsimp only [putV, List.set]) ?_
    | refine wstepN rfl rfl (by dsimp only [putV, List.set]) ?_
  refine wstepN rfl rfl (by dsimp only [putV, List.set]) ?_
  first
    | refine wstepN rfl (lenT rfl rfl) (by dsimp only [putV, List.set]) ?_
    | refine wstepN rfl rfl (by dsimp only [putV, List.set]) ?_
  first
    | refine wstepN rfl (geqK (by assumption) rfl rfl) (by dsimp only [putV, List.set]) ?_
    | refine wstepN rfl rfl (by dsimp only [putV, List.set]) ?_
  refine wstepN rfl rfl (by dsimp only [putV, List.set]) ?_
  first
    | refine wskipN rfl (by dsimp only [putV, List.set]) ?_
    | refine wstepN rfl rfl (by dsimp only [putV, List.set]) ?_
  first
    | refine wskipN rfl (by dsimp only [putV, List.set]) ?_
    | refine wstepN rfl rfl (by dsimp only [putV, List.set]) ?_
  first
    | refine wskipN rfl (by dsimp only [putV, List.set]) ?_
    | refine wstepN rfl (lenT rfl rfl) (by dsimp only [putV, List.set]) ?_
    | refine wstepN rfl rfl (by dsimp only [putV, List.set]) ?_
  first
    | refine wskipN rfl (by dsimp only [putV, List.set]) ?_
    | refine wstepN rfl rfl (by dsimp only [putV, List.set]) ?_
  first
    | refine wskipN rfl (by dsimp only [putV, List.set]) ?_
    | refine wstepN rfl (lenT rfl rfl) (by dsimp only [putV, List.set]) ?_
    | refine wstepN rfl rfl (by dsimp only [putV, List.set]) ?_
  first
    | refine wskipN rfl (by dsimp only [putV, List.set]) ?_
    | refine wstepN rfl (subK (by assumption) rfl rfl) (by dsimp only [putV, List.set]) ?_
    | refine wstepN rfl rfl (by dsimp only [putV, List.set]) ?_
  refine wstepN rfl (cutFromR (l' := [c]) (a := a.length) (by simp) (by simp) rfl rfl rfl) (by dsimp only [putV, List.set]) ?_
  first
    | refine wskipN rfl (by dsimp only [putV, List.set]) ?_
    | refine wstepN rfl rfl (by dsimp only [putV, List.set]) ?_
  first
    | refine wskipN rfl (by dsimp only [putV, List.set]) ?_
    | refine wstepN rfl (eqT (by assumption) rfl rfl) (by dsimp only [putV, List.set]) ?_
    | refine wstepN rfl rfl (by dsimp only [putV, List.set]) ?_
  refine wstepN rfl rfl (by dsimp only [putV, List.set]) ?_
  refine wstepN rfl rfl (by dsimp only [putV, List.set]) ?_
  refine wnil (Ok.ret ⟨fun _ h => (by cases h), _, rfl, rfl⟩)

theorem trim62 (s : List UInt8) (hs : s.length ≤ 100000) : FnOk Tryd.prog 62 [T s, T [47]] [] (fun r bs' => fr bs' r = T (trimP s)) := by
  rcases List.eq_nil_or_concat s with rfl | ⟨a, c, rfl⟩
  · exact FnOk.fast (Q := fun r => r = T (trimP [])) layOk Tryd.func62 rfl (goOut 100 (r := T []) (by kernel_rfl) rfl)
  rw [List.concat_eq_append] at hs ⊢
  simp only [List.length_append, List.length_cons, List.length_nil] at hs
  refine FnOk.fast (Q := fun r => r = T (trimP (a ++ [c]))) layOk Tryd.func62 rfl ?_
  have hT := T1_good (suf78 a c (by omega)) rfl rfl Tryd.call78
  have hsub : IntKind.i64.wrap ((((a ++ [c]).length : Nat) : Int) - ((([47] : List UInt8).length : Nat) : Int)) = ((a.length : Nat) : Int) := by
    rw [wrap64 (by simp <;> omega) (by simp <;> omega)]
    simp
  refine Ok.seq (go 10 rfl ?_)
  refine Ok.seq ?_
  cases hv : decide ([c] = [(47 : UInt8)])
  · rw [hv] at hT
    rw [show trimP (a ++ [c]) = a ++ [c] by
      have : ¬ c = 47 := by simpa using hv
      simp [trimP, this]]
    refine Ok.seq (Ok.regionW (G := fun _ => true) (C := TabP _) mixed layOk hT TabP_calm (.inl rfl) ?_)
    refine wstepN rfl rfl (by dsimp only [putV, List.set]) ?_
    refine wstepN rfl rfl (by dsimp only [putV, List.set]) ?_
    refine wstepN rfl T1_hit (by dsimp only [putV, List.set]) ?_
    refine wnil (Ok.cond (b := false) rfl (fun h => by cases h) (fun _ => ?_))
    refine Ok.skip ?_
    exact go 10 rfl ⟨fun _ h => (by cases h), _, rfl, rfl⟩
  · rw [hv] at hT
    rw [show trimP (a ++ [c]) = a by
      have : c = 47 := by simpa using hv
      simp [trimP, this]]
    refine Ok.seq (Ok.regionW (G := fun _ => true) (C := TabP _) mixed layOk hT TabP_calm (.inl rfl) ?_)
    refine wstepN rfl rfl (by dsimp only [putV, List.set]) ?_
    refine wstepN rfl rfl (by dsimp only [putV, List.set]) ?_
    refine wstepN rfl T1_hit (by dsimp only [putV, List.set]) ?_
    refine wnil (Ok.cond (b := true) rfl (fun _ => ?_) (fun h => by cases h))
    refine Ok.seq (Ok.regionW (G := fun _ => true) (C := TabP _) mixed layOk noT TabP_calm (.inl rfl) ?_)
    refine wstepN rfl rfl (by dsimp only [putV, List.set]) ?_
    refine wstepN rfl rfl (by dsimp only [putV, List.set]) ?_
    first
      | refine wstepN rfl (lenT rfl rfl) (by dsimp only [putV, List.set]) ?_
      | refine wstepN rfl rfl (by dsimp only [putV, List.set]) ?_
    refine wstepN rfl rfl (by dsimp only [putV, List.set]) ?_
    first
      | refine wstepN rfl (lenT rfl rfl) (by dsimp only [putV, List.set]) ?_
      | refine wstepN rfl rfl (by dsimp only [putV, List.set]) ?_
    first
      | refine wstepN rfl (subK (by assumption) rfl rfl) (by dsimp only [putV, List.set]) ?_
      | refine wstepN rfl rfl (by dsimp only [putV, List.set]) ?_
    refine wstepN rfl (cutToR (l' := a) (b := a.length) (by simp) (by simp) rfl rfl rfl) (by dsimp only [putV, List.set]) ?_
    refine wstepN rfl rfl (by dsimp only [putV, List.set]) ?_
    refine wnil (Ok.ret ⟨fun _ h => (by cases h), _, rfl, rfl⟩)

theorem trim38 (s : List UInt8) (hs : s.length ≤ 100000) : FnOk Tryd.prog 38 [T s, T [47]] [] (fun r bs' => fr bs' r = T (trimP s)) := by
  refine FnOk.fast (Q := fun r => r = T (trimP s)) layOk Tryd.func38 rfl ?_
  have hT := T1_good (trim62 s hs) rfl rfl Tryd.call62
  refine Ok.seq (go 10 rfl ?_)
  refine Ok.seq (Ok.regionW (G := fun _ => true) (C := TabP _) mixed layOk hT TabP_calm (.inl rfl) ?_)
  refine wstepN rfl rfl (by dsimp only [putV, List.set]) ?_
  refine wstepN rfl rfl (by dsimp only [putV, List.set]) ?_
  refine wstepN rfl T1_hit (by dsimp only [putV, List.set]) ?_
  refine wstepN rfl rfl (by dsimp only [putV, List.set]) ?_
  refine wnil (Ok.ret ⟨fun _ h => (by cases h), _, rfl, rfl⟩)

theorem pre73 (s : List UInt8) (hs : s.length ≤ 100000) : FnOk Tryd.prog 73 [T s, T [47]] [] (fun r bs' => fr bs' r = bV (decide (s.head? = some 47))) := by
  cases s with
  | nil => exact FnOk.fast (Q := fun r => r = bV (decide (([] : List UInt8).head? = some 47))) layOk Tryd.func73 rfl (goOut 100 (r := bV false) (by kernel_rfl) rfl)
  | cons c r =>
    refine FnOk.fast (Q := fun q => q = bV (decide ((c :: r).head? = some 47))) layOk Tryd.func73 rfl ?_
    have hq : decide ((((c :: r).length : Nat) : Int) ≥ ((([47] : List UInt8).length : Nat) : Int)) = true := decide_eq_true (by simp; omega)
    rw [show decide ((c :: r).head? = some 47) = decide ([c] = [(47 : UInt8)]) by simp]
    generalize hv : decide ([c] = [(47 : UInt8)]) = v
    refine Ok.seq (go 10 rfl ?_)
    refine Ok.seq (Ok.regionW (G := fun _ => true) (C := TabP _) mixed layOk noT TabP_calm (.inl rfl) ?_)
    refine wstepN rfl rfl (by dsimp only [putV, List.set]) ?_
    first
      | refine wstepN rfl (lenT rfl rfl) (by dsimp only [putV, List.set]) ?_
      | refine wstepN rfl rfl (by dsimp only [putV, List.set]) ?_
    refine wstepN rfl rfl (by dsimp only [putV, List.set]) ?_
    first
      | refine wstepN rfl (lenT rfl rfl) (by dsimp only [putV, List.set]) ?_
      | refine wstepN rfl rfl (by dsimp only [putV, List.set]) ?_
    first
      | refine wstepN rfl (geqK (by assumption) rfl rfl) (by dsimp only [putV, List.set]) ?_
      | refine wstepN rfl rfl (by dsimp only [putV, List.set]) ?_
    refine wstepN rfl rfl (by dsimp only [putV, List.set]) ?_
    first
      | refine wskipN rfl (by dsimp only [putV, List.set]) ?_
      | refine wstepN rfl rfl (by dsimp only [putV, List.set]) ?_
    first
      | refine wskipN rfl (by dsimp only [putV, List.set]) ?_
      | refine wstepN rfl rfl (by dsimp only [putV, List.set]) ?_
    first
      | refine wskipN rfl (by dsimp only [putV, List.set]) ?_
      | refine wstepN rfl (lenT rfl rfl) (by dsimp only [putV, List.set]) ?_
      | refine wstepN rfl rfl (by dsimp only [putV, List.set]) ?_
    refine wstepN rfl (cutToR (l' := [c]) (b := ([47] : List UInt8).length) (by simp) (by simp) rfl rfl rfl) (by dsimp only [putV, List.set]) ?_
    first
      | refine wskipN rfl (by dsimp only [putV, List.set]) ?_
      | refine wstepN rfl rfl (by dsimp only [putV, List.set]) ?_
    first
      | refine wskipN rfl (by dsimp only [putV, List.set]) ?_
      | refine wstepN rfl (eqT (by assumption) rfl rfl) (by dsimp only [putV, List.set]) ?_
      | refine wstepN rfl rfl (by dsimp only [putV, List.set]) ?_
    refine wstepN rfl rfl (by dsimp only [putV, List.set]) ?_
    refine wstepN rfl rfl (by dsimp only [putV, List.set]) ?_
    refine wnil (Ok.ret ⟨fun _ h => (by cases h), _, rfl, rfl⟩)

theorem pre59 (s : List UInt8) (hs : s.length ≤ 100000) : FnOk Tryd.prog 59 [T s, T [47]] [] (fun r bs' => fr bs' r = bV (decide (s.head? = some 47))) := by
  refine FnOk.fast (Q := fun r => r = bV (decide (s.head? = some 47))) layOk Tryd.func59 rfl ?_
  have hT := T1_good (pre73 s hs) rfl rfl Tryd.call73
  refine Ok.seq (go 10 rfl ?_)
  refine Ok.seq (Ok.regionW (G := fun _ => true) (C := TabP _) mixed layOk hT TabP_calm (.inl rfl) ?_)
  refine wstepN rfl rfl (by dsimp only [putV, List.set]) ?_
  refine wstepN rfl rfl (by dsimp only [putV, List.set]) ?_
  refine wstepN rfl T1_hit (by dsimp only [putV, List.set]) ?_
  refine wstepN rfl rfl (by dsimp only [putV, List.set]) ?_
  refine wnil (Ok.ret ⟨fun _ h => (by cases h), _, rfl, rfl⟩)

end Go.Proofs.YtiefcnghjcafbaaDoorV
