/- The reference's paths. -/
import Derived.Test.YtiefcnghjcafbaaDoorPaths
namespace Go.Proofs.YtiefcnghjcafbaaDoorV
open Go Go.RowKit Go.Proofs.YtiefcnghjcafbaaDoor
set_option maxRecDepth 20000
set_option maxHeartbeats 4000000

section
variable {L : Lay} {C : CallT} {ts : List V} {bs : List Bx} {t t' : TypeId} {x y : Operand} {v : Bool}
theorem neqC {c d : UInt8} {z : Int} (hz : z = d.toNat) (h : decide (c = d) = v) (hx : evO ts x = some (.val (.int .u8 c.toNat))) (hy : evO ts y = some (.val (.int .u8 z))) : evX L C (.binOp .neq t x y t') ts bs = some (bV !v, bs) :=
  neqK (by
    subst hz
    rw [← h]
    by_cases he : c = d
    · simp [he]
    · have : c.toNat ≠ d.toNat := fun e => he (UInt8.toNat_inj.1 e)
      simp [he]
      omega) hx hy
theorem appT {s : Operand} {k k2 : Nat} {done : List (List UInt8)} {p : List UInt8} {e2 : TypeId} (hl : done.length ≤ 1000000) (hs0 : evO ts s = some (.row k)) (hx0 : evO ts x = some (.row k2)) (hs : L.sl t = some (9, 1)) (hb : L.byt 9 = some 16) (h2 : bs[k2]? = some (.row e2 1 [[S.val (.string (B p))]])) (h1 : bs[k]? = some (.row 9 1 (rowsT done))) :
    evX L C (.call { callee := .builtin .append, args := #[s, x], argTypes := #[t, t] }) ts bs = some (.row bs.length, bs.set k .dead ++ [.row 9 1 (rowsT (done ++ [p]))]) := by
  have := ev_app (C := C) hs0 hx0 hs hb h2 rfl h1 (by rw [rowsT_len]; simp; omega) (by rw [rowsT_len]; simp; omega)
  rw [this, rowsT, rowsT, List.map_append]
  rfl
end

theorem rname41 (s : List UInt8) (hs : s.length ≤ 100000) : FnOk Tryd.prog 41 [T s] [] (fun r bs' => fr bs' r = bV (nameB s)) := by
  by_cases e0 : s = []
  · subst e0; exact FnOk.fast (Q := fun r => r = bV (nameB [])) layOk Tryd.func41 rfl (goOut 100 (r := bV false) (by kernel_rfl) rfl)
  by_cases e1 : s = [46]
  · subst e1; exact FnOk.fast (Q := fun r => r = bV (nameB [46])) layOk Tryd.func41 rfl (goOut 100 (r := bV false) (by kernel_rfl) rfl)
  by_cases e2 : s = [46, 46]
  · subst e2; exact FnOk.fast (Q := fun r => r = bV (nameB [46, 46])) layOk Tryd.func41 rfl (goOut 100 (r := bV false) (by kernel_rfl) rfl)
  refine FnOk.fast (Q := fun r => r = bV (nameB s)) layOk Tryd.func41 rfl ?_
  have hq1 : decide (s = [46]) = false := decide_eq_false e1
  have hq2 : decide (s = [46, 46]) = false := decide_eq_false e2
  have hpos : 1 ≤ s.length := by
    cases s with
    | nil => exact absurd rfl e0
    | cons c r => simp
  have hq0 : decide ((s.length : Int) < 1) = false := decide_eq_false (by omega)
  refine Ok.seq (go 10 rfl ?_)
  refine Ok.seq ?_
  cases hl : decide ((s.length : Int) > 32)
  · have hl' : s.length ≤ 32 := by
      have := of_decide_eq_false hl
      omega
    rw [show nameB s = !s.any bad by simp [nameB, hl', hpos, e1, e2]]
    refine Ok.seq (Ok.regionW (G := fun _ => true) (C := TabP _) mixed layOk noT TabP_calm (.inl rfl) ?_)
    refine wstepN rfl rfl (by dsimp only [putV, List.set]) ?_
    first
      | refine wstepN rfl (lenT rfl rfl) (by dsimp only [putV, List.set]) ?_
      | refine wstepN rfl rfl (by dsimp only [putV, List.set]) ?_
    first
      | refine wstepN rfl (ltT (by assumption) rfl rfl) (by dsimp only [putV, List.set]) ?_
      | refine wstepN rfl (lssK (by assumption) rfl rfl) (by dsimp only [putV, List.set]) ?_
      | refine wstepN rfl rfl (by dsimp only [putV, List.set]) ?_
    refine wstepN rfl rfl (by dsimp only [putV, List.set]) ?_
    first
      | refine wskipN rfl (by dsimp only [putV, List.set]) ?_
      | refine wstepN rfl rfl (by dsimp only [putV, List.set]) ?_
    first
      | refine wskipN rfl (by dsimp only [putV, List.set]) ?_
      | refine wstepN rfl (lenT rfl rfl) (by dsimp only [putV, List.set]) ?_
      | refine wstepN rfl rfl (by dsimp only [putV, List.set]) ?_
    first
      | refine wskipN rfl (by dsimp only [putV, List.set]) ?_
      | refine wstepN rfl (gtrK (by assumption) rfl rfl) (by dsimp only [putV, List.set]) ?_
      | refine wstepN rfl rfl (by dsimp only [putV, List.set]) ?_
    refine wstepN rfl rfl (by dsimp only [putV, List.set]) ?_
    refine wstepN rfl rfl (by dsimp only [putV, List.set]) ?_
    first
      | refine wskipN rfl (by dsimp only [putV, List.set]) ?_
      | refine wstepN rfl rfl (by dsimp only [putV, List.set]) ?_
    first
      | refine wskipN rfl (by dsimp only [putV, List.set]) ?_
      | refine wstepN rfl (eqT (by assumption) rfl rfl) (by dsimp only [putV, List.set]) ?_
      | refine wstepN rfl rfl (by dsimp only [putV, List.set]) ?_
    refine wstepN rfl rfl (by dsimp only [putV, List.set]) ?_
    refine wstepN rfl rfl (by dsimp only [putV, List.set]) ?_
    first
      | refine wskipN rfl (by dsimp only [putV, List.set]) ?_
      | refine wstepN rfl rfl (by dsimp only [putV, List.set]) ?_
    first
      | refine wskipN rfl (by dsimp only [putV, List.set]) ?_
      | refine wstepN rfl (eqT (by assumption) rfl rfl) (by dsimp only [putV, List.set]) ?_
      | refine wstepN rfl rfl (by dsimp only [putV, List.set]) ?_
    refine wstepN rfl rfl (by dsimp only [putV, List.set]) ?_
    refine wnil (Ok.cond (b := false) rfl (fun h => by cases h) (fun _ => ?_))
    refine Ok.skip ?_
    refine Ok.seq (Ok.seq (go 10 rfl ?_))
    refine Ok.gc (bs2 := []) [] [0, 3] (by kernel_rfl) (by decide) (floor_ok rfl) ?_
    refine Ok.count s.length (fun k ts bs => (s.take k).any bad = false ∧ k ≤ s.length ∧ bs = [] ∧ ts = ((List.replicate 36 V.gone).set 0 (T s)).set 3 (iV (k : Int))) ?_ ?_
    · exact ⟨rfl, Nat.zero_le _, rfl, rfl⟩
    rintro k _ _ ⟨hno, hk, rfl, rfl⟩
    simp only [List.replicate, List.set]
    refine Ok.seq (Ok.seq ?_)
    cases hlt : decide (k < s.length)
    · refine Ok.regionW (G := fun _ => true) (C := TabP _) mixed layOk noT TabP_calm (.inl rfl) ?_
      refine wstepN rfl rfl (by dsimp only [putV, List.set]) ?_
      refine wstepN rfl rfl (by dsimp only [putV, List.set]) ?_
      first
        | refine wstepN rfl (lenT rfl rfl) (by dsimp only [putV, List.set]) ?_
        | refine wstepN rfl rfl (by dsimp only [putV, List.set]) ?_
      first
        | refine wstepN rfl (ltT (by assumption) rfl rfl) (by dsimp only [putV, List.set]) ?_
        | refine wstepN rfl (lssK (by assumption) rfl rfl) (by dsimp only [putV, List.set]) ?_
        | refine wstepN rfl rfl (by dsimp only [putV, List.set]) ?_
      refine wnil (Ok.cond (b := false) rfl (fun h => by cases h) (fun _ => ?_))
      refine Ok.exit ?_
      have := of_decide_eq_false hlt
      rw [List.take_of_length_le (by omega)] at hno
      rw [hno]
      exact go 10 rfl ⟨fun _ h => (by cases h), _, rfl, rfl⟩
    · have hlt' : k < s.length := of_decide_eq_true hlt
      obtain ⟨c, hc⟩ : ∃ c, s[k]? = some c := ⟨_, List.getElem?_eq_getElem hlt'⟩
      refine Ok.regionW (G := fun _ => true) (C := TabP _) mixed layOk noT TabP_calm (.inl rfl) ?_
      refine wstepN rfl rfl (by dsimp only [putV, List.set]) ?_
      refine wstepN rfl rfl (by dsimp only [putV, List.set]) ?_
      first
        | refine wstepN rfl (lenT rfl rfl) (by dsimp only [putV, List.set]) ?_
        | refine wstepN rfl rfl (by dsimp only [putV, List.set]) ?_
      first
        | refine wstepN rfl (ltT (by assumption) rfl rfl) (by dsimp only [putV, List.set]) ?_
        | refine wstepN rfl (lssK (by assumption) rfl rfl) (by dsimp only [putV, List.set]) ?_
        | refine wstepN rfl rfl (by dsimp only [putV, List.set]) ?_
      refine wnil (Ok.cond (b := true) rfl (fun _ => ?_) (fun h => by cases h))
      refine Ok.skip ?_
      refine Ok.after (Ok.seq (Ok.block (Ok.seq ?_)))
      have hmem := List.mem_of_getElem? hc
      by_cases c47 : c = 47
      · have hq3 : decide (c = 47) = true := decide_eq_true c47
        rw [show s.any bad = true from List.any_eq_true.2 ⟨c, hmem, by simp [bad, c47]⟩]
        refine Ok.regionW (G := fun _ => true) (C := TabP _) mixed layOk noT TabP_calm (.inl rfl) ?_
        refine wstepN rfl rfl (by dsimp only [putV, List.set]) ?_
        refine wstepN rfl rfl (by dsimp only [putV, List.set]) ?_
        first
          | refine wstepN rfl (idxT rfl rfl rfl (by assumption)) (by dsimp only [putV, List.set]) ?_
          | refine wstepN rfl rfl (by dsimp only [putV, List.set]) ?_
        first
          | refine wstepN rfl (eqC (by first | rfl | assumption) (by assumption) rfl rfl) (by dsimp only [putV, List.set]) ?_
          | refine wstepN rfl (eqC (d := 47) rfl (by assumption) rfl rfl) (by dsimp only [putV, List.set]) ?_
          | refine wstepN rfl (eqC (d := 0) rfl (by assumption) rfl rfl) (by dsimp only [putV, List.set]) ?_
          | refine wstepN rfl (eqlK (by assumption) rfl rfl) (by dsimp only [putV, List.set]) ?_
          | refine wstepN rfl rfl (by dsimp only [putV, List.set]) ?_
        refine wstepN rfl rfl (by dsimp only [putV, List.set]) ?_
        first
          | refine wskipN rfl (by dsimp only [putV, List.set]) ?_
          | refine wstepN rfl rfl (by dsimp only [putV, List.set]) ?_
        first
          | refine wskipN rfl (by dsimp only [putV, List.set]) ?_
          | refine wstepN rfl rfl (by dsimp only [putV, List.set]) ?_
        first
          | refine wskipN rfl (by dsimp only [putV, List.set]) ?_
          | refine wstepN rfl (idxT rfl rfl rfl (by assumption)) (by dsimp only [putV, List.set]) ?_
          | refine wstepN rfl rfl (by dsimp only [putV, List.set]) ?_
        first
          | refine wskipN rfl (by dsimp only [putV, List.set]) ?_
          | refine wstepN rfl (eqC (by first | rfl | assumption) (by assumption) rfl rfl) (by dsimp only [putV, List.set]) ?_
          | refine wstepN rfl (eqC (d := 47) rfl (by assumption) rfl rfl) (by dsimp only [putV, List.set]) ?_
          | refine wstepN rfl (eqC (d := 0) rfl (by assumption) rfl rfl) (by dsimp only [putV, List.set]) ?_
          | refine wstepN rfl (eqlK (by assumption) rfl rfl) (by dsimp only [putV, List.set]) ?_
          | refine wstepN rfl rfl (by dsimp only [putV, List.set]) ?_
        refine wstepN rfl rfl (by dsimp only [putV, List.set]) ?_
        refine wnil (Ok.cond (b := true) rfl (fun _ => ?_) (fun h => by cases h))
        refine Ok.seq (Ok.regionW (G := fun _ => true) (C := TabP _) mixed layOk noT TabP_calm (.inl rfl) ?_)
        refine wstepN rfl rfl (by dsimp only [putV, List.set]) ?_
        refine wnil (Ok.ret ?_)
        exact ⟨[], [2], [], by kernel_rfl, by decide, floor_ok rfl, fun _ h => (by cases h), _, rfl, rfl⟩
      have hq3 : decide (c = 47) = false := decide_eq_false c47
      by_cases c0 : c = 0
      · have hq4 : decide (c = 0) = true := decide_eq_true c0
        rw [show s.any bad = true from List.any_eq_true.2 ⟨c, hmem, by simp [bad, c0]⟩]
        refine Ok.regionW (G := fun _ => true) (C := TabP _) mixed layOk noT TabP_calm (.inl rfl) ?_
        refine wstepN rfl rfl (by dsimp only [putV, List.set]) ?_
        refine wstepN rfl rfl (by dsimp only [putV, List.set]) ?_
        first
          | refine wstepN rfl (idxT rfl rfl rfl (by assumption)) (by dsimp only [putV, List.set]) ?_
          | refine wstepN rfl rfl (by dsimp only [putV, List.set]) ?_
        first
          | refine wstepN rfl (eqC (by first | rfl | assumption) (by assumption) rfl rfl) (by dsimp only [putV, List.set]) ?_
          | refine wstepN rfl (eqC (d := 47) rfl (by assumption) rfl rfl) (by dsimp only [putV, List.set]) ?_
          | refine wstepN rfl (eqC (d := 0) rfl (by assumption) rfl rfl) (by dsimp only [putV, List.set]) ?_
          | refine wstepN rfl (eqlK (by assumption) rfl rfl) (by dsimp only [putV, List.set]) ?_
          | refine wstepN rfl rfl (by dsimp only [putV, List.set]) ?_
        refine wstepN rfl rfl (by dsimp only [putV, List.set]) ?_
        first
          | refine wskipN rfl (by dsimp only [putV, List.set]) ?_
          | refine wstepN rfl rfl (by dsimp only [putV, List.set]) ?_
        first
          | refine wskipN rfl (by dsimp only [putV, List.set]) ?_
          | refine wstepN rfl rfl (by dsimp only [putV, List.set]) ?_
        first
          | refine wskipN rfl (by dsimp only [putV, List.set]) ?_
          | refine wstepN rfl (idxT rfl rfl rfl (by assumption)) (by dsimp only [putV, List.set]) ?_
          | refine wstepN rfl rfl (by dsimp only [putV, List.set]) ?_
        first
          | refine wskipN rfl (by dsimp only [putV, List.set]) ?_
          | refine wstepN rfl (eqC (by first | rfl | assumption) (by assumption) rfl rfl) (by dsimp only [putV, List.set]) ?_
          | refine wstepN rfl (eqC (d := 47) rfl (by assumption) rfl rfl) (by dsimp only [putV, List.set]) ?_
          | refine wstepN rfl (eqC (d := 0) rfl (by assumption) rfl rfl) (by dsimp only [putV, List.set]) ?_
          | refine wstepN rfl (eqlK (by assumption) rfl rfl) (by dsimp only [putV, List.set]) ?_
          | refine wstepN rfl rfl (by dsimp only [putV, List.set]) ?_
        refine wstepN rfl rfl (by dsimp only [putV, List.set]) ?_
        refine wnil (Ok.cond (b := true) rfl (fun _ => ?_) (fun h => by cases h))
        refine Ok.seq (Ok.regionW (G := fun _ => true) (C := TabP _) mixed layOk noT TabP_calm (.inl rfl) ?_)
        refine wstepN rfl rfl (by dsimp only [putV, List.set]) ?_
        refine wnil (Ok.ret ?_)
        exact ⟨[], [2], [], by kernel_rfl, by decide, floor_ok rfl, fun _ h => (by cases h), _, rfl, rfl⟩
      · have hq4 : decide (c = 0) = false := decide_eq_false c0
        refine Ok.regionW (G := fun _ => true) (C := TabP _) mixed layOk noT TabP_calm (.inl rfl) ?_
        refine wstepN rfl rfl (by dsimp only [putV, List.set]) ?_
        refine wstepN rfl rfl (by dsimp only [putV, List.set]) ?_
        first
          | refine wstepN rfl (idxT rfl rfl rfl (by assumption)) (by dsimp only [putV, List.set]) ?_
          | refine wstepN rfl rfl (by dsimp only [putV, List.set]) ?_
        first
          | refine wstepN rfl (eqC (by first | rfl | assumption) (by assumption) rfl rfl) (by dsimp only [putV, List.set]) ?_
          | refine wstepN rfl (eqC (d := 47) rfl (by assumption) rfl rfl) (by dsimp only [putV, List.set]) ?_
          | refine wstepN rfl (eqC (d := 0) rfl (by assumption) rfl rfl) (by dsimp only [putV, List.set]) ?_
          | refine wstepN rfl (eqlK (by assumption) rfl rfl) (by dsimp only [putV, List.set]) ?_
          | refine wstepN rfl rfl (by dsimp only [putV, List.set]) ?_
        refine wstepN rfl rfl (by dsimp only [putV, List.set]) ?_
        first
          | refine wskipN rfl (by dsimp only [putV, List.set]) ?_
          | refine wstepN rfl rfl (by dsimp only [putV, List.set]) ?_
        first
          | refine wskipN rfl (by dsimp only [putV, List.set]) ?_
          | refine wstepN rfl rfl (by dsimp only [putV, List.set]) ?_
        first
          | refine wskipN rfl (by dsimp only [putV, List.set]) ?_
          | refine wstepN rfl (idxT rfl rfl rfl (by assumption)) (by dsimp only [putV, List.set]) ?_
          | refine wstepN rfl rfl (by dsimp only [putV, List.set]) ?_
        first
          | refine wskipN rfl (by dsimp only [putV, List.set]) ?_
          | refine wstepN rfl (eqC (by first | rfl | assumption) (by assumption) rfl rfl) (by dsimp only [putV, List.set]) ?_
          | refine wstepN rfl (eqC (d := 47) rfl (by assumption) rfl rfl) (by dsimp only [putV, List.set]) ?_
          | refine wstepN rfl (eqC (d := 0) rfl (by assumption) rfl rfl) (by dsimp only [putV, List.set]) ?_
          | refine wstepN rfl (eqlK (by assumption) rfl rfl) (by dsimp only [putV, List.set]) ?_
          | refine wstepN rfl rfl (by dsimp only [putV, List.set]) ?_
        refine wstepN rfl rfl (by dsimp only [putV, List.set]) ?_
        refine wnil (Ok.cond (b := false) rfl (fun h => by cases h) (fun _ => ?_))
        refine Ok.skip ?_
        refine Ok.regionW (G := fun _ => true) (C := TabP _) mixed layOk noT TabP_calm (.inl rfl) ?_
        refine wstepN rfl rfl (by dsimp only [putV, List.set]) ?_
        first
          | refine wstepN rfl (incT (by omega) rfl rfl) (by dsimp only [putV, List.set]) ?_
          | refine wstepN rfl (addK (by assumption) rfl rfl) (by dsimp only [putV, List.set]) ?_
          | refine wstepN rfl rfl (by dsimp only [putV, List.set]) ?_
        refine wstepN rfl rfl (by dsimp only [putV, List.set]) ?_
        refine wnil ⟨[], [0, 3], [], by kernel_rfl, by decide, floor_ok rfl, hlt', take_any hno hc (by simp [bad, c47, c0]), hlt', rfl, rfl⟩
  · have hl' : ¬ s.length ≤ 32 := by
      have := of_decide_eq_true hl
      omega
    rw [show nameB s = false by simp [nameB, hl']]
    refine Ok.seq (Ok.regionW (G := fun _ => true) (C := TabP _) mixed layOk noT TabP_calm (.inl rfl) ?_)
    refine wstepN rfl rfl (by dsimp only [putV, List.set]) ?_
    first
      | refine wstepN rfl (lenT rfl rfl) (by dsimp only [putV, List.set]) ?_
      | refine wstepN rfl rfl (by dsimp only [putV, List.set]) ?_
    first
      | refine wstepN rfl (ltT (by assumption) rfl rfl) (by dsimp only [putV, List.set]) ?_
      | refine wstepN rfl (lssK (by assumption) rfl rfl) (by dsimp only [putV, List.set]) ?_
      | refine wstepN rfl rfl (by dsimp only [putV, List.set]) ?_
    refine wstepN rfl rfl (by dsimp only [putV, List.set]) ?_
    first
      | refine wskipN rfl (by dsimp only [putV, List.set]) ?_
      | refine wstepN rfl rfl (by dsimp only [putV, List.set]) ?_
    first
      | refine wskipN rfl (by dsimp only [putV, List.set]) ?_
      | refine wstepN rfl (lenT rfl rfl) (by dsimp only [putV, List.set]) ?_
      | refine wstepN rfl rfl (by dsimp only [putV, List.set]) ?_
    first
      | refine wskipN rfl (by dsimp only [putV, List.set]) ?_
      | refine wstepN rfl (gtrK (by assumption) rfl rfl) (by dsimp only [putV, List.set]) ?_
      | refine wstepN rfl rfl (by dsimp only [putV, List.set]) ?_
    refine wstepN rfl rfl (by dsimp only [putV, List.set]) ?_
    refine wstepN rfl rfl (by dsimp only [putV, List.set]) ?_
    first
      | refine wskipN rfl (by dsimp only [putV, List.set]) ?_
      | refine wstepN rfl rfl (by dsimp only [putV, List.set]) ?_
    first
      | refine wskipN rfl (by dsimp only [putV, List.set]) ?_
      | refine wstepN rfl (eqT (by assumption) rfl rfl) (by dsimp only [putV, List.set]) ?_
      | refine wstepN rfl rfl (by dsimp only [putV, List.set]) ?_
    refine wstepN rfl rfl (by dsimp only [putV, List.set]) ?_
    refine wstepN rfl rfl (by dsimp only [putV, List.set]) ?_
    first
      | refine wskipN rfl (by dsimp only [putV, List.set]) ?_
      | refine wstepN rfl rfl (by dsimp only [putV, List.set]) ?_
    first
      | refine wskipN rfl (by dsimp only [putV, List.set]) ?_
      | refine wstepN rfl (eqT (by assumption) rfl rfl) (by dsimp only [putV, List.set]) ?_
      | refine wstepN rfl rfl (by dsimp only [putV, List.set]) ?_
    refine wstepN rfl rfl (by dsimp only [putV, List.set]) ?_
    refine wnil (Ok.cond (b := true) rfl (fun _ => ?_) (fun h => by cases h))
    exact go 10 rfl ⟨fun _ h => (by cases h), _, rfl, rfl⟩

def cutI (s : List UInt8) : Nat := (lastSlash s).getD 0
theorem cut_take {s : List UInt8} {k : Nat} {c : UInt8} (h : s[k]? = some c) : cutI (s.take (k + 1)) = if c = 47 then k else cutI (s.take k) := by
  unfold cutI
  rw [last_take h]
  split <;> rfl
theorem rcut63 (s : List UInt8) (hs : s.length ≤ 100000) : FnOk Tryd.prog 63 [T s] [] (fun r bs' => fr bs' r = iV (cutI s : Int)) := by
  refine FnOk.fast (Q := fun r => r = iV (cutI s : Int)) layOk Tryd.func63 rfl ?_
  refine Ok.seq (go 10 rfl ?_)
  refine Ok.seq (go 10 rfl ?_)
  refine Ok.seq (Ok.seq (go 10 rfl ?_))
  refine Ok.gc (bs2 := []) [] [0, 3, 4] (by kernel_rfl) (by decide) (floor_ok rfl) ?_
  refine Ok.count s.length (fun k ts bs => k ≤ s.length ∧ bs = [] ∧ ts = (((List.replicate 17 V.gone).set 0 (T s)).set 3 (iV (cutI (s.take k) : Int))).set 4 (iV (k : Int))) ?_ ?_
  · exact ⟨Nat.zero_le _, rfl, rfl⟩
  rintro k _ _ ⟨hk, rfl, rfl⟩
  simp only [List.replicate, List.set]
  refine Ok.seq (Ok.seq ?_)
  cases hlt : decide (k < s.length)
  · refine Ok.regionW (G := fun _ => true) (C := TabP _) mixed layOk noT TabP_calm (.inl rfl) ?_
    refine wstepN rfl rfl (by dsimp only [putV, List.set]) ?_
    refine wstepN rfl rfl (by dsimp only [putV, List.set]) ?_
    first
      | refine wstepN rfl (lenT rfl rfl) (by dsimp only [putV, List.set]) ?_
      | refine wstepN rfl rfl (by dsimp only [putV, List.set]) ?_
    first
      | refine wstepN rfl (ltT (by assumption) rfl rfl) (by dsimp only [putV, List.set]) ?_
      | refine wstepN rfl (lssK (by assumption) rfl rfl) (by dsimp only [putV, List.set]) ?_
      | refine wstepN rfl rfl (by dsimp only [putV, List.set]) ?_
    refine wnil (Ok.cond (b := false) rfl (fun h => by cases h) (fun _ => ?_))
    refine Ok.exit ?_
    have := of_decide_eq_false hlt
    rw [List.take_of_length_le (by omega)]
    exact go 10 rfl ⟨fun _ h => (by cases h), _, rfl, rfl⟩
  · have hlt' : k < s.length := of_decide_eq_true hlt
    obtain ⟨c, hc⟩ : ∃ c, s[k]? = some c := ⟨_, List.getElem?_eq_getElem hlt'⟩
    have hcut := cut_take hc
    refine Ok.regionW (G := fun _ => true) (C := TabP _) mixed layOk noT TabP_calm (.inl rfl) ?_
    refine wstepN rfl rfl (by dsimp only [putV, List.set]) ?_
    refine wstepN rfl rfl (by dsimp only [putV, List.set]) ?_
    first
      | refine wstepN rfl (lenT rfl rfl) (by dsimp only [putV, List.set]) ?_
      | refine wstepN rfl rfl (by dsimp only [putV, List.set]) ?_
    first
      | refine wstepN rfl (ltT (by assumption) rfl rfl) (by dsimp only [putV, List.set]) ?_
      | refine wstepN rfl (lssK (by assumption) rfl rfl) (by dsimp only [putV, List.set]) ?_
      | refine wstepN rfl rfl (by dsimp only [putV, List.set]) ?_
    refine wnil (Ok.cond (b := true) rfl (fun _ => ?_) (fun h => by cases h))
    refine Ok.skip ?_
    refine Ok.after (Ok.seq (Ok.block (Ok.seq ?_)))
    by_cases c47 : c = 47
    · have hq3 : decide (c = 47) = true := decide_eq_true c47
      rw [if_pos c47] at hcut
      refine Ok.regionW (G := fun _ => true) (C := TabP _) mixed layOk noT TabP_calm (.inl rfl) ?_
      refine wstepN rfl rfl (by dsimp only [putV, List.set]) ?_
      refine wstepN rfl rfl (by dsimp only [putV, List.set]) ?_
      first
        | refine wstepN rfl (idxT rfl rfl rfl (by assumption)) (by dsimp only [putV, List.set]) ?_
        | refine wstepN rfl rfl (by dsimp only [putV, List.set]) ?_
      first
        | refine wstepN rfl (eqC (by first | rfl | assumption) (by assumption) rfl rfl) (by dsimp only [putV, List.set]) ?_
        | refine wstepN rfl (eqC (d := 47) rfl (by assumption) rfl rfl) (by dsimp only [putV, List.set]) ?_
        | refine wstepN rfl (eqC (d := 0) rfl (by assumption) rfl rfl) (by dsimp only [putV, List.set]) ?_
        | refine wstepN rfl (eqlK (by assumption) rfl rfl) (by dsimp only [putV, List.set]) ?_
        | refine wstepN rfl rfl (by dsimp only [putV, List.set]) ?_
      refine wnil (Ok.cond (b := true) rfl (fun _ => ?_) (fun h => by cases h))
      refine Ok.regionW (G := fun _ => true) (C := TabP _) mixed layOk noT TabP_calm (.inl rfl) ?_
      refine wstepN rfl rfl (by dsimp only [putV, List.set]) ?_
      refine wstepN rfl rfl (by dsimp only [putV, List.set]) ?_
      refine wnil ?_
      refine Ok.regionW (G := fun _ => true) (C := TabP _) mixed layOk noT TabP_calm (.inl rfl) ?_
      refine wstepN rfl rfl (by dsimp only [putV, List.set]) ?_
      first
        | refine wstepN rfl (incT (by omega) rfl rfl) (by dsimp only [putV, List.set]) ?_
        | refine wstepN rfl (addK (by assumption) rfl rfl) (by dsimp only [putV, List.set]) ?_
        | refine wstepN rfl rfl (by dsimp only [putV, List.set]) ?_
      refine wstepN rfl rfl (by dsimp only [putV, List.set]) ?_
      refine wnil ⟨[], [0, 3, 4], [], by kernel_rfl, by decide, floor_ok rfl, hlt', hlt', rfl, by rw [hcut]; rfl⟩
    · have hq3 : decide (c = 47) = false := decide_eq_false c47
      rw [if_neg c47] at hcut
      refine Ok.regionW (G := fun _ => true) (C := TabP _) mixed layOk noT TabP_calm (.inl rfl) ?_
      refine wstepN rfl rfl (by dsimp only [putV, List.set]) ?_
      refine wstepN rfl rfl (by dsimp only [putV, List.set]) ?_
      first
        | refine wstepN rfl (idxT rfl rfl rfl (by assumption)) (by dsimp only [putV, List.set]) ?_
        | refine wstepN rfl rfl (by dsimp only [putV, List.set]) ?_
      first
        | refine wstepN rfl (eqC (by first | rfl | assumption) (by assumption) rfl rfl) (by dsimp only [putV, List.set]) ?_
        | refine wstepN rfl (eqC (d := 47) rfl (by assumption) rfl rfl) (by dsimp only [putV, List.set]) ?_
        | refine wstepN rfl (eqC (d := 0) rfl (by assumption) rfl rfl) (by dsimp only [putV, List.set]) ?_
        | refine wstepN rfl (eqlK (by assumption) rfl rfl) (by dsimp only [putV, List.set]) ?_
        | refine wstepN rfl rfl (by dsimp only [putV, List.set]) ?_
      refine wnil (Ok.cond (b := false) rfl (fun h => by cases h) (fun _ => ?_))
      refine Ok.skip ?_
      refine Ok.regionW (G := fun _ => true) (C := TabP _) mixed layOk noT TabP_calm (.inl rfl) ?_
      refine wstepN rfl rfl (by dsimp only [putV, List.set]) ?_
      first
        | refine wstepN rfl (incT (by omega) rfl rfl) (by dsimp only [putV, List.set]) ?_
        | refine wstepN rfl (addK (by assumption) rfl rfl) (by dsimp only [putV, List.set]) ?_
        | refine wstepN rfl rfl (by dsimp only [putV, List.set]) ?_
      refine wstepN rfl rfl (by dsimp only [putV, List.set]) ?_
      refine wnil ⟨[], [0, 3, 4], [], by kernel_rfl, by decide, floor_ok rfl, hlt', hlt', rfl, by rw [hcut]; rfl⟩

theorem rparent40 (s : List UInt8) (hs : s.length ≤ 100000) : FnOk Tryd.prog 40 [T s] [] (fun r bs' => fr bs' r = T (parentB s)) := by
  refine FnOk.fast (Q := fun r => r = T (parentB s)) layOk Tryd.func40 rfl ?_
  have hT := T1_good (rcut63 s hs) rfl rfl Tryd.call63
  refine Ok.seq (go 10 rfl ?_)
  refine Ok.seq (Ok.regionW (G := fun _ => true) (C := TabP _) mixed layOk hT TabP_calm (.inl rfl) ?_)
  refine wstepN rfl rfl (by dsimp only [putV, List.set]) ?_
  first
    | refine wstepN rfl (hit63 (by first | assumption | omega)) (by dsimp only [putV, List.set]) ?_
    | refine wstepN rfl (T1_hit) (by dsimp only [putV, List.set]) ?_
    | refine wstepN rfl (TabP_use (by assumption) (by assumption)) (by dsimp only [putV, List.set]) ?_
    | refine wstepN rfl (TabP_hit (fun v' h => by cases h; rfl) (by assumption)) (by dsimp only [putV, List.set]) ?_
    | refine wstepN rfl (TabP_hit (fun v' h => by cases h; rfl) (by constructor)) (by dsimp only [putV, List.set]) ?_
    | refine wstepN rfl rfl (by dsimp only [putV, List.set]) ?_
  refine wstepN rfl rfl (by dsimp only [putV, List.set]) ?_
  refine wnil ?_
  refine Ok.seq ?_
  cases hl : lastSlash s with
  | none =>
    have hz : cutI s = 0 := by simp [cutI, hl]
    have hq : (((0 : Nat) : Int) == 0) = true := rfl
    rw [show parentB s = [47] by simp [parentB, hl], hz]
    refine Ok.seq (Ok.regionW (G := fun _ => true) (C := TabP _) mixed layOk noT TabP_calm (.inl rfl) ?_)
    refine wstepN rfl rfl (by dsimp only [putV, List.set]) ?_
    first
      | refine wstepN rfl (eqlK (by assumption) rfl rfl) (by dsimp only [putV, List.set]) ?_
      | refine wstepN rfl rfl (by dsimp only [putV, List.set]) ?_
    refine wnil (Ok.cond (b := true) rfl (fun _ => ?_) (fun h => by cases h))
    exact go 10 rfl ⟨fun _ h => (by cases h), _, rfl, rfl⟩
  | some i =>
    cases i with
    | zero =>
      have hz : cutI s = 0 := by simp [cutI, hl]
      have hq : (((0 : Nat) : Int) == 0) = true := rfl
      rw [show parentB s = [47] by simp [parentB, hl], hz]
      refine Ok.seq (Ok.regionW (G := fun _ => true) (C := TabP _) mixed layOk noT TabP_calm (.inl rfl) ?_)
      refine wstepN rfl rfl (by dsimp only [putV, List.set]) ?_
      first
        | refine wstepN rfl (eqlK (by assumption) rfl rfl) (by dsimp only [putV, List.set]) ?_
        | refine wstepN rfl rfl (by dsimp only [putV, List.set]) ?_
      refine wnil (Ok.cond (b := true) rfl (fun _ => ?_) (fun h => by cases h))
      exact go 10 rfl ⟨fun _ h => (by cases h), _, rfl, rfl⟩
    | succ j =>
      have hj : j + 1 < s.length := (List.getElem?_eq_some_iff.1 (last_lt hl)).1
      have hz : cutI s = j + 1 := by simp [cutI, hl]
      have hq : (((j + 1 : Nat) : Int) == 0) = false := by simp; omega
      rw [show parentB s = s.take (j + 1) by simp [parentB, hl], hz]
      refine Ok.seq (Ok.regionW (G := fun _ => true) (C := TabP _) mixed layOk noT TabP_calm (.inl rfl) ?_)
      refine wstepN rfl rfl (by dsimp only [putV, List.set]) ?_
      first
        | refine wstepN rfl (eqlK (by assumption) rfl rfl) (by dsimp only [putV, List.set]) ?_
        | refine wstepN rfl rfl (by dsimp only [putV, List.set]) ?_
      refine wnil (Ok.cond (b := false) rfl (fun h => by cases h) (fun _ => ?_))
      refine Ok.skip ?_
      refine Ok.seq (Ok.regionW (G := fun _ => true) (C := TabP _) mixed layOk noT TabP_calm (.inl rfl) ?_)
      refine wstepN rfl rfl (by dsimp only [putV, List.set]) ?_
      refine wstepN rfl rfl (by dsimp only [putV, List.set]) ?_
      first
        | refine wstepN rfl (cutToT rfl rfl rfl (by omega)) (by dsimp only [putV, List.set]) ?_
        | refine wstepN rfl (cutToT rfl rfl rfl (by assumption)) (by dsimp only [putV, List.set]) ?_
        | refine wstepN rfl rfl (by dsimp only [putV, List.set]) ?_
      refine wstepN rfl rfl (by dsimp only [putV, List.set]) ?_
      refine wnil (Ok.ret ⟨fun _ h => (by cases h), _, rfl, rfl⟩)

theorem rparts39 (s : List UInt8) (hs : s.length ≤ 100000) : FnOk Tryd.prog 39 [T s] [] (fun r bs' => fr bs' r = .sl (rowsT (splitB s))) := by
  refine FnOk.fast (Q := fun r => r = .sl (rowsT (splitB s))) layOk Tryd.func39 rfl ?_
  refine Ok.seq (go 10 rfl ?_)
  refine Ok.seq (go 10 rfl ?_)
  refine Ok.nilT 3 9 1 rfl ?_
  refine Ok.seq (go 10 rfl ?_)
  refine Ok.seq (Ok.seq (go 10 rfl ?_))
  refine Ok.gc (bs2 := [.row 9 1 []]) [0] [0, 3, 4, 5] (by kernel_rfl) (by decide) (floor_ok rfl) ?_
  refine Ok.count s.length (fun k ts bs => ∃ done from', k ≤ s.length ∧ from' ≤ k ∧ done.length ≤ k ∧ splitB s = done ++ splitB (s.drop from') ∧ 47 ∉ (s.take k).drop from' ∧ bs = [.row 9 1 (rowsT done)] ∧ ts = ((((List.replicate 31 V.gone).set 0 (T s)).set 3 (.row 0)).set 4 (iV (from' : Int))).set 5 (iV (k : Int))) ?_ ?_
  · exact ⟨[], 0, Nat.zero_le _, Nat.le_refl _, Nat.le_refl _, rfl, by simp, rfl, rfl⟩
  rintro k _ _ ⟨done, from', hk, hfk, hdk, hsp, hno, rfl, rfl⟩
  simp only [List.replicate, List.set]
  refine Ok.seq (Ok.seq ?_)
  cases hlt : decide (k < s.length)
  · refine Ok.regionW (G := fun _ => true) (C := TabP _) mixed layOk noT TabP_calm (.inl rfl) ?_
    refine wstepN rfl rfl (by dsimp only [putV, List.set]) ?_
    refine wstepN rfl rfl (by dsimp only [putV, List.set]) ?_
    first
      | refine wstepN rfl (lenT rfl rfl) (by dsimp only [putV, List.set]) ?_
      | refine wstepN rfl rfl (by dsimp only [putV, List.set]) ?_
    first
      | refine wstepN rfl (ltT (by assumption) rfl rfl) (by dsimp only [putV, List.set]) ?_
      | refine wstepN rfl (lssK (by assumption) rfl rfl) (by dsimp only [putV, List.set]) ?_
      | refine wstepN rfl rfl (by dsimp only [putV, List.set]) ?_
    refine wnil (Ok.cond (b := false) rfl (fun h => by cases h) (fun _ => ?_))
    refine Ok.exit ?_
    have hge := of_decide_eq_false hlt
    rw [List.take_of_length_le (by omega)] at hno
    rw [splitB_one hno] at hsp
    refine Ok.seq (Ok.regionW (G := fun _ => true) (C := TabP _) mixed layOk noT TabP_calm (.inl rfl) ?_)
    refine wstepN rfl rfl (by dsimp only [putV, List.set]) ?_
    refine wstepN rfl rfl (by dsimp only [putV, List.set]) ?_
    refine wstepN rfl rfl (by dsimp only [putV, List.set]) ?_
    first
      | refine wstepN rfl (cutFromT rfl rfl rfl (by omega)) (by dsimp only [putV, List.set]) ?_
      | refine wstepN rfl (cutFromT rfl rfl rfl (by assumption)) (by dsimp only [putV, List.set]) ?_
      | refine wstepN rfl rfl (by dsimp only [putV, List.set]) ?_
    refine wstepN rfl rfl (by dsimp only [putV, List.set]) ?_
    refine wstepN rfl (appT (p := s.drop from') (by omega) rfl rfl rfl rfl rfl rfl) (by dsimp only [putV, List.set]) ?_
    refine wstepN rfl rfl (by dsimp only [putV, List.set]) ?_
    refine wnil (Ok.ret ⟨fun _ h => (by cases h), _, rfl, ?_⟩)
    rw [hsp]
    rfl
  · have hlt' : k < s.length := of_decide_eq_true hlt
    obtain ⟨c, hc⟩ : ∃ c, s[k]? = some c := ⟨_, List.getElem?_eq_getElem hlt'⟩
    have htk : (s.take (k + 1)).drop from' = (s.take k).drop from' ++ [c] := by
      rw [List.take_add_one, hc, List.drop_append_of_le_length (by simp; omega)]
      rfl
    have hdr : s.drop from' = (s.take k).drop from' ++ c :: s.drop (k + 1) := by
      conv => lhs; rw [← List.take_append_drop k s]
      rw [List.drop_append_of_le_length (by simp; omega), ← List.getElem_cons_drop (h := hlt')]
      rw [show s[k] = c by rw [List.getElem?_eq_getElem hlt'] at hc; exact Option.some.inj hc]
    refine Ok.regionW (G := fun _ => true) (C := TabP _) mixed layOk noT TabP_calm (.inl rfl) ?_
    refine wstepN rfl rfl (by dsimp only [putV, List.set]) ?_
    refine wstepN rfl rfl (by dsimp only [putV, List.set]) ?_
    first
      | refine wstepN rfl (lenT rfl rfl) (by dsimp only [putV, List.set]) ?_
      | refine wstepN rfl rfl (by dsimp only [putV, List.set]) ?_
    first
      | refine wstepN rfl (ltT (by assumption) rfl rfl) (by dsimp only [putV, List.set]) ?_
      | refine wstepN rfl (lssK (by assumption) rfl rfl) (by dsimp only [putV, List.set]) ?_
      | refine wstepN rfl rfl (by dsimp only [putV, List.set]) ?_
    refine wnil (Ok.cond (b := true) rfl (fun _ => ?_) (fun h => by cases h))
    refine Ok.skip ?_
    refine Ok.after (Ok.seq (Ok.block (Ok.seq ?_)))
    by_cases c47 : c = 47
    · have hq3 : decide (c = 47) = true := decide_eq_true c47
      rw [hdr, c47, splitB_app hno] at hsp
      refine Ok.regionW (G := fun _ => true) (C := TabP _) mixed layOk noT TabP_calm (.inl rfl) ?_
      refine wstepN rfl rfl (by dsimp only [putV, List.set]) ?_
      refine wstepN rfl rfl (by dsimp only [putV, List.set]) ?_
      first
        | refine wstepN rfl (idxT rfl rfl rfl (by assumption)) (by dsimp only [putV, List.set]) ?_
        | refine wstepN rfl rfl (by dsimp only [putV, List.set]) ?_
      first
        | refine wstepN rfl (eqC (by first | rfl | assumption) (by assumption) rfl rfl) (by dsimp only [putV, List.set]) ?_
        | refine wstepN rfl (eqC (d := 47) rfl (by assumption) rfl rfl) (by dsimp only [putV, List.set]) ?_
        | refine wstepN rfl (eqC (d := 0) rfl (by assumption) rfl rfl) (by dsimp only [putV, List.set]) ?_
        | refine wstepN rfl (eqlK (by assumption) rfl rfl) (by dsimp only [putV, List.set]) ?_
        | refine wstepN rfl rfl (by dsimp only [putV, List.set]) ?_
      refine wnil (Ok.cond (b := true) rfl (fun _ => ?_) (fun h => by cases h))
      refine Ok.seq (Ok.regionW (G := fun _ => true) (C := TabP _) mixed layOk noT TabP_calm (.inl rfl) ?_)
      refine wstepN rfl rfl (by dsimp only [putV, List.set]) ?_
      refine wstepN rfl rfl (by dsimp only [putV, List.set]) ?_
      refine wstepN rfl rfl (by dsimp only [putV, List.set]) ?_
      refine wstepN rfl rfl (by dsimp only [putV, List.set]) ?_
      first
        | refine wstepN rfl (cutT rfl rfl rfl rfl (by omega)) (by dsimp only [putV, List.set]) ?_
        | refine wstepN rfl (cutT rfl rfl rfl rfl (by assumption)) (by dsimp only [putV, List.set]) ?_
        | refine wstepN rfl rfl (by dsimp only [putV, List.set]) ?_
      refine wstepN rfl rfl (by dsimp only [putV, List.set]) ?_
      refine wstepN rfl (appT (p := (s.take k).drop from') (by omega) rfl rfl rfl rfl rfl rfl) (by dsimp only [putV, List.set]) ?_
      refine wstepN rfl rfl (by dsimp only [putV, List.set]) ?_
      refine wnil ?_
      refine Ok.regionW (G := fun _ => true) (C := TabP _) mixed layOk noT TabP_calm (.inl rfl) ?_
      refine wstepN rfl rfl (by dsimp only [putV, List.set]) ?_
      first
        | refine wstepN rfl (incT (by omega) rfl rfl) (by dsimp only [putV, List.set]) ?_
        | refine wstepN rfl (addK (by assumption) rfl rfl) (by dsimp only [putV, List.set]) ?_
        | refine wstepN rfl rfl (by dsimp only [putV, List.set]) ?_
      refine wstepN rfl rfl (by dsimp only [putV, List.set]) ?_
      refine wnil ?_
      refine Ok.regionW (G := fun _ => true) (C := TabP _) mixed layOk noT TabP_calm (.inl rfl) ?_
      refine wstepN rfl rfl (by dsimp only [putV, List.set]) ?_
      first
        | refine wstepN rfl (incT (by omega) rfl rfl) (by dsimp only [putV, List.set]) ?_
        | refine wstepN rfl (addK (by assumption) rfl rfl) (by dsimp only [putV, List.set]) ?_
        | refine wstepN rfl rfl (by dsimp only [putV, List.set]) ?_
      refine wstepN rfl rfl (by dsimp only [putV, List.set]) ?_
      refine wnil ⟨[2], [0, 3, 4, 5], [.row 9 1 (rowsT (done ++ [(s.take k).drop from']))], by kernel_rfl, by decide, floor_ok rfl, hlt', done ++ [(s.take k).drop from'], k + 1, hlt', Nat.le_refl _, by simp; omega, by rw [hsp]; simp, ?_, rfl, rfl⟩
      rw [List.drop_of_length_le (by simp; omega)]
      simp
    · have hq3 : decide (c = 47) = false := decide_eq_false c47
      refine Ok.regionW (G := fun _ => true) (C := TabP _) mixed layOk noT TabP_calm (.inl rfl) ?_
      refine wstepN rfl rfl (by dsimp only [putV, List.set]) ?_
      refine wstepN rfl rfl (by dsimp only [putV, List.set]) ?_
      first
        | refine wstepN rfl (idxT rfl rfl rfl (by assumption)) (by dsimp only [putV, List.set]) ?_
        | refine wstepN rfl rfl (by dsimp only [putV, List.set]) ?_
      first
        | refine wstepN rfl (eqC (by first | rfl | assumption) (by assumption) rfl rfl) (by dsimp only [putV, List.set]) ?_
        | refine wstepN rfl (eqC (d := 47) rfl (by assumption) rfl rfl) (by dsimp only [putV, List.set]) ?_
        | refine wstepN rfl (eqC (d := 0) rfl (by assumption) rfl rfl) (by dsimp only [putV, List.set]) ?_
        | refine wstepN rfl (eqlK (by assumption) rfl rfl) (by dsimp only [putV, List.set]) ?_
        | refine wstepN rfl rfl (by dsimp only [putV, List.set]) ?_
      refine wnil (Ok.cond (b := false) rfl (fun h => by cases h) (fun _ => ?_))
      refine Ok.skip ?_
      refine Ok.regionW (G := fun _ => true) (C := TabP _) mixed layOk noT TabP_calm (.inl rfl) ?_
      refine wstepN rfl rfl (by dsimp only [putV, List.set]) ?_
      first
        | refine wstepN rfl (incT (by omega) rfl rfl) (by dsimp only [putV, List.set]) ?_
        | refine wstepN rfl (addK (by assumption) rfl rfl) (by dsimp only [putV, List.set]) ?_
        | refine wstepN rfl rfl (by dsimp only [putV, List.set]) ?_
      refine wstepN rfl rfl (by dsimp only [putV, List.set]) ?_
      refine wnil ⟨[0], [0, 3, 4, 5], [.row 9 1 (rowsT done)], by kernel_rfl, by decide, floor_ok rfl, hlt', done, from', hlt', by omega, by omega, hsp, ?_, rfl, rfl⟩
      rw [htk]
      simp only [List.mem_append, List.mem_singleton, not_or]
      exact ⟨hno, fun e => c47 e.symm⟩

end Go.Proofs.YtiefcnghjcafbaaDoorV
