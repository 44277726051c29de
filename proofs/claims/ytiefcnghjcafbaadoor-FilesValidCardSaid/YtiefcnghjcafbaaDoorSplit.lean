/- Strings cut at slashes: strings.Split. -/
import Derived.Lib.Bytealg
import Derived.Test.YtiefcnghjcafbaaDoorStr
import Derived.Test.YtiefcnghjcafbaaDoorAny
namespace Go.Proofs.YtiefcnghjcafbaaDoorV
open Go Go.RowKit Go.Proofs.YtiefcnghjcafbaaDoor
set_option maxRecDepth 20000
set_option maxHeartbeats 4000000

/-- Up to the first slash, and what follows it. -/
def brk : List UInt8 → List UInt8 × Option (List UInt8)
  | [] => ([], none)
  | c :: r => if c = 47 then ([], some r) else (c :: (brk r).1, (brk r).2)
def cnt (s : List UInt8) : Nat := Lib.countByte s 47
def splitB : List UInt8 → List (List UInt8)
  | [] => [[]]
  | c :: r => if c = 47 then [] :: splitB r else match splitB r with
    | p :: q => (c :: p) :: q
    | [] => [[c]]

theorem brk_none : ∀ {s p : List UInt8}, brk s = (p, none) → p = s ∧ cnt s = 0 ∧ splitB s = [s] ∧ firstIdx (B s) 47 = -1
  | [], p, h => by cases h; exact ⟨rfl, rfl, rfl, rfl⟩
  | c :: r, p, h => by
    unfold brk at h
    split at h
    · cases h
    · rename_i hc
      obtain ⟨p', hp'⟩ : ∃ p', brk r = (p', none) := ⟨(brk r).1, Prod.ext rfl (by have := congrArg Prod.snd h; exact this)⟩
      obtain ⟨h1, h2, h3, h4⟩ := brk_none hp'
      rw [hp'] at h
      cases h
      subst h1
      refine ⟨rfl, ?_, ?_, ?_⟩
      · unfold cnt Lib.countByte at h2 ⊢
        rw [List.count_cons, h2]
        simp [hc]
      · unfold splitB
        rw [if_neg hc, h3]
      · rw [Lib.firstIdx_eq] at h4 ⊢
        simp only [B] at h4 ⊢
        unfold Lib.indexByte
        simp [hc, h4]
theorem brk_some : ∀ {s p r : List UInt8}, brk s = (p, some r) → s = p ++ 47 :: r ∧ cnt s = cnt r + 1 ∧ splitB s = p :: splitB r ∧ firstIdx (B s) 47 = (p.length : Int)
  | [], p, r, h => by cases h
  | c :: s, p, r, h => by
    unfold brk at h
    split at h
    · rename_i hc
      cases h
      subst hc
      refine ⟨rfl, ?_, ?_, ?_⟩
      · unfold cnt Lib.countByte
        rw [List.count_cons]
        simp
      · rw [splitB]
        simp
      · rw [Lib.firstIdx_eq]
        simp only [B]
        unfold Lib.indexByte
        simp
    · rename_i hc
      obtain ⟨p', hp'⟩ : ∃ p', brk s = (p', some r) := ⟨(brk s).1, Prod.ext rfl (by have := congrArg Prod.snd h; exact this)⟩
      obtain ⟨h1, h2, h3, h4⟩ := brk_some hp'
      rw [hp'] at h
      cases h
      refine ⟨by rw [h1]; rfl, ?_, ?_, ?_⟩
      · unfold cnt Lib.countByte at h2 ⊢
        rw [List.count_cons, h2]
        simp [hc]
      · rw [splitB, if_neg hc, h3]
      · rw [Lib.firstIdx_eq] at h4 ⊢
        simp only [B] at h4 ⊢
        unfold Lib.indexByte
        simp [hc, h4]

theorem rnL_vals {ks : List Nat} : ∀ {l : List V}, (∀ x ∈ l, ∃ v, x = .val v) → rnL ks l = some l
  | [], _ => rfl
  | x :: l, h => by
    obtain ⟨v, rfl⟩ := h x List.mem_cons_self
    rw [rnL, rnL_vals fun y hy => h y (List.mem_cons_of_mem _ hy)]
    rfl
theorem gcB {cs : List V} {r : List Bx} (h : ∀ x ∈ cs, ∃ v, x = .val v) : rnBs (.cells cs :: r) [0] [0] = some [.cells cs] := by
  have h1 : rnB [0] (.cells cs) = some (.cells cs) := by simp only [rnB, rnL_vals h, Option.map_some]
  have h2 : ((Bx.cells cs :: r)[0]?).bind (rnB [0]) = some (.cells cs) := h1
  rw [rnBs, h2]
  rfl
theorem minV {L : Lay} {C : CallT} {ts : List V} {bs : List Bx} {t t' : TypeId} {x y : Operand} {k : IntKind} {a b n : Int} (h : (if b < a then b else a) = n) (hx : evO ts x = some (.val (.int k a))) (hy : evO ts y = some (.val (.int k b))) : evX L C (.call { callee := .builtin .min, args := #[x, y], argTypes := #[t, t'] }) ts bs = some (.val (.int k n), bs) := by
  subst h
  simp only [evX, evCall, hx, hy]

theorem T_vals (done : List (List UInt8)) (n : Nat) : ∀ x ∈ done.map T ++ List.replicate n (T []), ∃ v, x = .val v := fun x hx => by
  rcases List.mem_append.1 hx with h | h
  · obtain ⟨a, _, rfl⟩ := List.mem_map.1 h
    exact ⟨_, rfl⟩
  · rw [(List.mem_replicate.1 h).2]
    exact ⟨_, rfl⟩
theorem put_T {done : List (List UInt8)} {k n : Nat} {p : List UInt8} (hk : done.length = k) (hn : k < n) : (done.map T ++ List.replicate (n - k) (T [])).set k (T p) = (done ++ [p]).map T ++ List.replicate (n - (k + 1)) (T []) := by
  obtain ⟨m, rfl⟩ : ∃ m, n = k + (m + 1) := ⟨n - k - 1, by omega⟩
  rw [show k + (m + 1) - k = m + 1 by omega, show k + (m + 1) - (k + 1) = m by omega, List.set_append_right _ _ (by simp [hk]), List.replicate_succ]
  simp [hk]

inductive T60 (s : List UInt8) : FuncId → List V → V → Prop
  | c : T60 s 75 [T s, T [47]] (iV (cnt s : Int))
  | i (r : List UInt8) : T60 s 76 [T r, T [47]] (iV (firstIdx (B r) 47))
theorem T60_good (s : List UInt8) : Good Tryd.prog (TabP (T60 s)) := TabP_good fun f vs v h => by
  cases h with
  | c => exact ⟨count75 (B s), rfl, rfl, Tryd.call75⟩
  | i r => exact ⟨index76 (B r), rfl, rfl, Tryd.call76⟩

theorem gen60 (s : List UInt8) (hs : s.length ≤ 100000) : FnOk Tryd.prog 60 [T s, T [47], iV 0, iV (-1)] [] (fun r bs' => fr bs' r = .sl (rowsT (splitB s))) := by
  refine FnOk.fast (Q := fun r => r = .sl (rowsT (splitB s))) layOk Tryd.func60 rfl ?_
  have hT := T60_good s
  have hq0 : ((-1 : Int) == 0) = false := rfl
  have hq1 : decide (([47] : List UInt8) = []) = false := rfl
  have hq2 : decide ((-1 : Int) < 0) = true := rfl
  have hNl : cnt s ≤ s.length := List.count_le_length
  generalize hN : cnt s = N at hNl
  have hsub : IntKind.i64.wrap (((N + 1 : Nat) : Int) - 1) = (N : Int) := by rw [wrap64 (by omega) (by omega)]; omega
  have hmin : (if ((s.length + 1 : Nat) : Int) < ((N + 1 : Nat) : Int) then ((s.length + 1 : Nat) : Int) else ((N + 1 : Nat) : Int)) = ((N + 1 : Nat) : Int) := if_neg (by omega)
  refine Ok.seq (go 10 rfl ?_)
  refine Ok.seq ?_
  refine Ok.seq (Ok.regionW (G := fun _ => true) (C := TabP _) mixed layOk noT TabP_calm (.inl rfl) ?_)
  refine wstepN rfl rfl (by dsimp only [putV, List.set]) ?_
  first
    | refine wstepN rfl (eqlK (by assumption) rfl rfl) (by dsimp only [putV, List.set]) ?_
    | refine wstepN rfl rfl (by dsimp only [putV, List.set]) ?_
  refine wnil (Ok.cond (b := false) rfl (fun h => by cases h) (fun _ => ?_))
  refine Ok.skip ?_
  refine Ok.seq ?_
  refine Ok.seq (Ok.regionW (G := fun _ => true) (C := TabP _) mixed layOk noT TabP_calm (.inl rfl) ?_)
  refine wstepN rfl rfl (by dsimp only [putV, List.set]) ?_
  first
    | refine wstepN rfl (eqT (by assumption) rfl rfl) (by dsimp only [putV, List.set]) ?_
    | refine wstepN rfl rfl (by dsimp only [putV, List.set]) ?_
  refine wnil (Ok.cond (b := false) rfl (fun h => by cases h) (fun _ => ?_))
  refine Ok.skip ?_
  refine Ok.seq ?_
  refine Ok.seq (Ok.regionW (G := fun _ => true) (C := TabP _) mixed layOk noT TabP_calm (.inl rfl) ?_)
  refine wstepN rfl rfl (by dsimp only [putV, List.set]) ?_
  first
    | refine wstepN rfl (ltT (by assumption) rfl rfl) (by dsimp only [putV, List.set]) ?_
    | refine wstepN rfl (lssK (by assumption) rfl rfl) (by dsimp only [putV, List.set]) ?_
    | refine wstepN rfl rfl (by dsimp only [putV, List.set]) ?_
  refine wnil (Ok.cond (b := true) rfl (fun _ => ?_) (fun h => by cases h))
  refine Ok.regionW (G := fun _ => true) (C := TabP _) mixed layOk hT TabP_calm (.inl rfl) ?_
  refine wstepN rfl rfl (by dsimp only [putV, List.set]) ?_
  refine wstepN rfl rfl (by dsimp only [putV, List.set]) ?_
  refine wstepN rfl (TabP_hit (v := iV (N : Int)) (fun v' h => by cases h; rw [hN]) (hN ▸ .c)) (by dsimp only [putV, List.set]) ?_
  first
    | refine wstepN rfl (incT (by omega) rfl rfl) (by dsimp only [putV, List.set]) ?_
    | refine wstepN rfl (addK (by assumption) rfl rfl) (by dsimp only [putV, List.set]) ?_
    | refine wstepN rfl rfl (by dsimp only [putV, List.set]) ?_
  refine wstepN rfl rfl (by dsimp only [putV, List.set]) ?_
  refine wnil ?_
  refine Ok.seq (Ok.regionW (G := fun _ => true) (C := TabP _) mixed layOk noT TabP_calm (.inl rfl) ?_)
  refine wstepN rfl rfl (by dsimp only [putV, List.set]) ?_
  refine wstepN rfl rfl (by dsimp only [putV, List.set]) ?_
  first
    | refine wstepN rfl (lenT rfl rfl) (by dsimp only [putV, List.set]) ?_
    | refine wstepN rfl rfl (by dsimp only [putV, List.set]) ?_
  first
    | refine wstepN rfl (incT (by omega) rfl rfl) (by dsimp only [putV, List.set]) ?_
    | refine wstepN rfl (addK (by assumption) rfl rfl) (by dsimp only [putV, List.set]) ?_
    | refine wstepN rfl rfl (by dsimp only [putV, List.set]) ?_
  refine wstepN rfl (minV hmin rfl rfl) (by dsimp only [putV, List.set]) ?_
  refine wstepN rfl rfl (by dsimp only [putV, List.set]) ?_
  refine wnil ?_
  refine Ok.seq (Ok.regionW (G := fun _ => true) (C := TabP _) mixed layOk noT TabP_calm (.inl rfl) ?_)
  refine wstepN rfl rfl (by dsimp only [putV, List.set]) ?_
  refine wstepN rfl (mkW (n := N + 1) (z := T []) (by omega) (by omega) rfl rfl rfl rfl rfl) (by dsimp only [putV, List.set]) ?_
  refine wstepN rfl rfl (by dsimp only [putV, List.set]) ?_
  refine wnil ?_
  refine Ok.seq (Ok.regionW (G := fun _ => true) (C := TabP _) mixed layOk noT TabP_calm (.inl rfl) ?_)
  refine wstepN rfl rfl (by dsimp only [putV, List.set]) ?_
  first
    | refine wstepN rfl (subK (by assumption) rfl rfl) (by dsimp only [putV, List.set]) ?_
    | refine wstepN rfl rfl (by dsimp only [putV, List.set]) ?_
  refine wstepN rfl rfl (by dsimp only [putV, List.set]) ?_
  refine wnil ?_
  refine Ok.seq (Ok.regionW (G := fun _ => true) (C := TabP _) mixed layOk noT TabP_calm (.inl rfl) ?_)
  refine wstepN rfl rfl (by dsimp only [putV, List.set]) ?_
  refine wnil ?_
  refine Ok.seq ?_
  refine Ok.gc (bs2 := [.cells (List.replicate (N + 1) (T []))]) [0] [0, 1, 2, 3, 9, 10] (gcB (T_vals [] (N + 1))) (by decide) (floor_ok rfl) ?_
  refine Ok.count N (fun k ts bs => ∃ done rest, splitB s = done ++ splitB rest ∧ done.length = k ∧ k + cnt rest = N ∧ rest.length ≤ s.length ∧ bs = [.cells (done.map T ++ List.replicate (N + 1 - k) (T []))] ∧ ts = ((((((List.replicate 66 V.gone).set 0 (T rest)).set 1 (T [47])).set 2 (iV 0)).set 3 (iV (N : Int))).set 9 (.win 0 1 0 (N + 1) (N + 1))).set 10 (iV (k : Int))) ?_ ?_
  · exact ⟨[], s, rfl, rfl, by omega, Nat.le_refl _, rfl, rfl⟩
  rintro k _ _ ⟨done, rest, hsp, hdl, hcn, hrl, rfl, rfl⟩
  simp only [List.replicate, List.set]
  refine Ok.seq (Ok.seq ?_)
  cases hlt : decide (k < N)
  · have hk : k = N := by
      have : ¬ k < N := by simpa using hlt
      omega
    subst hk
    obtain ⟨p, o, hb⟩ : ∃ p o, brk rest = (p, o) := ⟨_, _, rfl⟩
    cases o with
    | some r => exact absurd (brk_some hb).2.1 (by omega)
    | none =>
      obtain ⟨_, _, h3, _⟩ := brk_none hb
      refine Ok.regionW (G := fun _ => true) (C := TabP _) mixed layOk noT TabP_calm (.inl rfl) ?_
      refine wstepN rfl rfl (by dsimp only [putV, List.set]) ?_
      refine wstepN rfl rfl (by dsimp only [putV, List.set]) ?_
      first
        | refine wstepN rfl (ltT (by assumption) rfl rfl) (by dsimp only [putV, List.set]) ?_
        | refine wstepN rfl (lssK (by assumption) rfl rfl) (by dsimp only [putV, List.set]) ?_
        | refine wstepN rfl rfl (by dsimp only [putV, List.set]) ?_
      refine wnil (Ok.cond (b := false) rfl (fun h => by cases h) (fun _ => ?_))
      refine Ok.exit ?_
      refine Ok.seq (Ok.regionW (G := fun _ => true) (C := TabP _) mixed layOk noT TabP_calm (.inl rfl) ?_)
      refine wstepN rfl rfl (by dsimp only [putV, List.set]) ?_
      refine wstepN rfl rfl (by dsimp only [putV, List.set]) ?_
      refine wstepN rfl rfl (by dsimp only [putV, List.set]) ?_
      refine wstepN rfl (ixW (z := k) (by omega) rfl rfl rfl) (by dsimp only [putV, List.set]) ?_
      refine wstepN rfl (stC (u := T rest) (cs' := (done ++ [rest]).map T ++ List.replicate (k + 1 - (k + 1)) (T [])) (by simp [hdl]) (put_T hdl (by omega)) rfl rfl rfl rfl rfl) (by dsimp only [putV, List.set]) ?_
      refine wnil ?_
      refine Ok.seq (Ok.regionW (G := fun _ => true) (C := TabP _) mixed layOk noT TabP_calm (.inl rfl) ?_)
      refine wstepN rfl rfl (by dsimp only [putV, List.set]) ?_
      refine wstepN rfl rfl (by dsimp only [putV, List.set]) ?_
      first
        | refine wstepN rfl (incT (by omega) rfl rfl) (by dsimp only [putV, List.set]) ?_
        | refine wstepN rfl (addK (by assumption) rfl rfl) (by dsimp only [putV, List.set]) ?_
        | refine wstepN rfl rfl (by dsimp only [putV, List.set]) ?_
      refine wstepN rfl (toW (h := k + 1) (by omega) rfl rfl rfl) (by dsimp only [putV, List.set]) ?_
      refine wstepN rfl rfl (by dsimp only [putV, List.set]) ?_
      refine wnil (Ok.ret ⟨fun _ h => (by cases h), _, rfl, ?_⟩)
      rw [hsp, h3]
      refine fr_rowsT (q := 0) (l := done ++ [rest]) ?_ (by simp [hdl])
      simp
  · have hlt' : k < N := by simpa using hlt
    obtain ⟨p, o, hb⟩ : ∃ p o, brk rest = (p, o) := ⟨_, _, rfl⟩
    cases o with
    | none => exact absurd (brk_none hb).2.1 (by omega)
    | some r =>
      obtain ⟨h1, h2, h3, h4⟩ := brk_some hb
      have hpl : p.length + 1 + r.length = rest.length := by rw [h1]; simp; omega
      have hdr : rest.drop (p.length + 1) = r := by rw [h1, show p ++ 47 :: r = (p ++ [47]) ++ r by simp]; exact List.drop_left' (by simp)
      have hneg : decide (firstIdx (B rest) 47 < 0) = false := by rw [h4]; simp
      have ha14 : IntKind.i64.wrap (firstIdx (B rest) 47 + 0) = ((p.length : Nat) : Int) := by rw [h4, wrap64 (by omega) (by omega)]; omega
      have ha15 : IntKind.i64.wrap (firstIdx (B rest) 47 + ((([47] : List UInt8).length : Nat) : Int)) = ((p.length + 1 : Nat) : Int) := by
        rw [h4, wrap64 (by simp; omega) (by simp; omega)]
        simp
      refine Ok.regionW (G := fun _ => true) (C := TabP _) mixed layOk noT TabP_calm (.inl rfl) ?_
      refine wstepN rfl rfl (by dsimp only [putV, List.set]) ?_
      refine wstepN rfl rfl (by dsimp only [putV, List.set]) ?_
      first
        | refine wstepN rfl (ltT (by assumption) rfl rfl) (by dsimp only [putV, List.set]) ?_
        | refine wstepN rfl (lssK (by assumption) rfl rfl) (by dsimp only [putV, List.set]) ?_
        | refine wstepN rfl rfl (by dsimp only [putV, List.set]) ?_
      refine wnil (Ok.cond (b := true) rfl (fun _ => ?_) (fun h => by cases h))
      refine Ok.skip ?_
      refine Ok.after (Ok.block ?_)
      refine Ok.seq (Ok.regionW (G := fun _ => true) (C := TabP _) mixed layOk hT TabP_calm (.inl rfl) ?_)
      refine wstepN rfl rfl (by dsimp only [putV, List.set]) ?_
      refine wstepN rfl rfl (by dsimp only [putV, List.set]) ?_
      refine wstepN rfl (TabP_hit (fun v' h => by cases h; rfl) (.i rest)) (by dsimp only [putV, List.set]) ?_
      refine wstepN rfl rfl (by dsimp only [putV, List.set]) ?_
      refine wnil ?_
      refine Ok.seq ?_
      refine Ok.seq (Ok.regionW (G := fun _ => true) (C := TabP _) mixed layOk noT TabP_calm (.inl rfl) ?_)
      refine wstepN rfl rfl (by dsimp only [putV, List.set]) ?_
      first
        | refine wstepN rfl (ltT (by assumption) rfl rfl) (by dsimp only [putV, List.set]) ?_
        | refine wstepN rfl (lssK (by assumption) rfl rfl) (by dsimp only [putV, List.set]) ?_
        | refine wstepN rfl rfl (by dsimp only [putV, List.set]) ?_
      refine wnil (Ok.cond (b := false) rfl (fun h => by cases h) (fun _ => ?_))
      refine Ok.skip ?_
      refine Ok.seq (Ok.regionW (G := fun _ => true) (C := TabP _) mixed layOk noT TabP_calm (.inl rfl) ?_)
      refine wstepN rfl rfl (by dsimp only [putV, List.set]) ?_
      refine wstepN rfl rfl (by dsimp only [putV, List.set]) ?_
      refine wstepN rfl rfl (by dsimp only [putV, List.set]) ?_
      refine wstepN rfl rfl (by dsimp only [putV, List.set]) ?_
      refine wstepN rfl rfl (by dsimp only [putV, List.set]) ?_
      first
        | refine wstepN rfl (addK (by assumption) rfl rfl) (by dsimp only [putV, List.set]) ?_
        | refine wstepN rfl rfl (by dsimp only [putV, List.set]) ?_
      refine wstepN rfl (cutToR (l' := p) (b := p.length) (by omega) (by rw [h1, List.take_left]) rfl rfl rfl) (by dsimp only [putV, List.set]) ?_
      refine wstepN rfl (ixW (z := k) (by omega) rfl rfl rfl) (by dsimp only [putV, List.set]) ?_
      refine wstepN rfl (stC (u := T p) (cs' := (done ++ [p]).map T ++ List.replicate (N + 1 - (k + 1)) (T [])) (by simp [hdl]; omega) (put_T hdl (by omega)) rfl rfl rfl rfl rfl) (by dsimp only [putV, List.set]) ?_
      refine wnil ?_
      refine Ok.seq (Ok.regionW (G := fun _ => true) (C := TabP _) mixed layOk noT TabP_calm (.inl rfl) ?_)
      refine wstepN rfl rfl (by dsimp only [putV, List.set]) ?_
      refine wstepN rfl rfl (by dsimp only [putV, List.set]) ?_
      refine wstepN rfl rfl (by dsimp only [putV, List.set]) ?_
      first
        | refine wstepN rfl (lenT rfl rfl) (by dsimp only [putV, List.set]) ?_
        | refine wstepN rfl rfl (by dsimp only [putV, List.set]) ?_
      first
        | refine wstepN rfl (addK (by assumption) rfl rfl) (by dsimp only [putV, List.set]) ?_
        | refine wstepN rfl rfl (by dsimp only [putV, List.set]) ?_
      refine wstepN rfl (cutFromR (l' := r) (a := p.length + 1) (by omega) hdr rfl rfl rfl) (by dsimp only [putV, List.set]) ?_
      refine wstepN rfl rfl (by dsimp only [putV, List.set]) ?_
      refine wnil ?_
      refine Ok.regionW (G := fun _ => true) (C := TabP _) mixed layOk noT TabP_calm (.inl rfl) ?_
      refine wstepN rfl rfl (by dsimp only [putV, List.set]) ?_
      first
        | refine wstepN rfl (incT (by omega) rfl rfl) (by dsimp only [putV, List.set]) ?_
        | refine wstepN rfl (addK (by assumption) rfl rfl) (by dsimp only [putV, List.set]) ?_
        | refine wstepN rfl rfl (by dsimp only [putV, List.set]) ?_
      refine wstepN rfl rfl (by dsimp only [putV, List.set]) ?_
      refine wnil ?_
      exact ⟨[0], [0, 1, 2, 3, 9, 10], [.cells ((done ++ [p]).map T ++ List.replicate (N + 1 - (k + 1)) (T []))], gcB (T_vals _ _), by decide, floor_ok rfl, hlt', done ++ [p], r, by rw [hsp, h3]; simp, by simp [hdl], by omega, by omega, rfl, rfl⟩

theorem split35 (s : List UInt8) (hs : s.length ≤ 100000) : FnOk Tryd.prog 35 [T s, T [47]] [] (fun r bs' => fr bs' r = .sl (rowsT (splitB s))) := by
  refine FnOk.fast (Q := fun r => r = .sl (rowsT (splitB s))) layOk Tryd.func35 rfl ?_
  have hT : Good Tryd.prog (Tab [((60 : FuncId), [T s, T [47], iV 0, iV (-1)], V.sl (rowsT (splitB s)))]) := Tab_good fun e he => by
    obtain rfl := List.mem_singleton.1 he
    exact fact (gen60 s hs) rfl rfl Tryd.call60
  refine Ok.seq (go 10 rfl ?_)
  refine Ok.seq (Ok.regionW (G := fun _ => true) (C := Tab _) mixed layOk hT Tab_calm (.inl rfl) ?_)
  refine wstepN rfl rfl (by dsimp only [putV, List.set]) ?_
  refine wstepN rfl rfl (by dsimp only [putV, List.set]) ?_
  refine wstepN rfl Tab_hit (by dsimp only [putV, List.set]) ?_
  refine wstepN rfl rfl (by dsimp only [putV, List.set]) ?_
  refine wnil (Ok.ret ⟨fun _ h => (by cases h), _, rfl, rfl⟩)

end Go.Proofs.YtiefcnghjcafbaaDoorV
