/- Lists of files: what is read of them, and what finds an element. -/
import Derived.Test.YtiefcnghjcafbaaDoorPlainF
import Derived.Test.YtiefcnghjcafbaaDoorRefC
import Derived.Sort.Walk0
namespace Go.Proofs.YtiefcnghjcafbaaDoorV
open Go Go.RowKit Go.Proofs.YtiefcnghjcafbaaDoor
set_option maxRecDepth 20000
set_option maxHeartbeats 4000000

abbrev rowF (f : Fl) : List S := [.val (.string (B f.path)), .val (.bool f.dir), .val (.string (B f.data))]
abbrev valF (f : Fl) : V := .agg [T f.path, bV f.dir, T f.data]
def rowsF (l : List Fl) : List (List S) := l.map rowF
theorem rowsF_len (l : List Fl) : (rowsF l).length = l.length := by simp [rowsF]
theorem rowsF_at {l : List Fl} {k : Nat} {f : Fl} (h : l[k]? = some f) : (rowsF l)[k]? = some (rowF f) := by simp [rowsF, h]

theorem less_is : ∀ a b : List UInt8, Op.bytesLess a b = ltB a b
  | _, [] => by cases ‹List UInt8› <;> rfl
  | [], _ :: _ => rfl
  | a :: x, b :: y => by rw [Op.bytesLess, ltB, less_is x y]

section
variable {L : Lay} {C : CallT} {ts : List V} {bs : List Bx} {t t' : TypeId} {x y : Operand} {v : Bool}
theorem lenF {l : List Fl} {n : Nat} {q : TypeId × Nat} (h : l.length = n) (hs : L.sl t = some q) (hx : evO ts x = some (.sl (rowsF l))) : evX L C (.call { callee := .builtin .len, args := #[x], argTypes := #[t] }) ts bs = some (iV (n : Int), bs) := by
  simp only [evX, evCall, hx, hs, view, rowsF_len, h]
theorem ldE {u : Value} {r : List S} (ha : evO ts x = some (.eptr (S.val u :: r))) (hc : L.cel t = some (1, false)) : evX L C (.load t x) ts bs = some (.val u, bs) := by
  simp only [evX, ev, ha, hc, rd, List.length_cons, Nat.le_add_left, if_true]
  rfl
theorem ldF {f : Fl} (ha : evO ts x = some (.eptr (rowF f))) (hc : L.cel t = some (3, true)) : evX L C (.load t x) ts bs = some (valF f, bs) := by
  simp only [evX, ev, ha, hc, rd]
  rfl
theorem cutF {hi : Operand} {l : List Fl} {b e : Nat} {k : IntKind} (h : b ≤ l.length) (hs : L.sl t = some (e, 3)) (hx : evO ts x = some (.sl (rowsF l))) (hh : evO ts hi = some (.val (.int k (b : Int)))) :
    evX L C (.slice t x none (some hi) none) ts bs = some (.sl (rowsF (l.take b)), bs) := by
  have h1 : (rowsF l).all (fun x => x.length == 3) = true := List.all_eq_true.2 fun r hr => by
    obtain ⟨f, _, rfl⟩ := List.mem_map.1 hr
    rfl
  simp only [evX, ev, hx, hs, bd, hh, Int.natCast_nonneg, if_true, Int.toNat_natCast, h1, Nat.zero_le, rowsF_len, h, and_self, List.drop_zero]
  rw [rowsF, rowsF, List.map_take]
theorem leT {l l' : List UInt8} (h : leB l l' = v) (hx : evO ts x = some (T l)) (hy : evO ts y = some (T l')) : evX L C (.binOp .leq t x y t') ts bs = some (bV v, bs) := by
  have : (Op.bytesLess (B l).toList (B l').toList || (B l).toList == (B l').toList) = v := by
    rw [Lib.toList_data, Lib.toList_data, less_is, ← h]
    rfl
  simp only [evX, ev, hx, hy, evB, this, Option.map_some]
end

theorem same65 (f : Fl) (p : List UInt8) : FnOk Tryd.prog 65 [valF f, .ptr 0 0] [.cells [T p]] (fun r bs' => r = bV (decide (f.path = p)) ∧ bs' = [.cells [T p]]) := by
  refine FnOk.of layOk Tryd.func65 rfl ?_
  generalize h : decide (f.path = p) = v
  refine Ok.seq (go 10 rfl ?_)
  refine Ok.seq (Ok.regionW (G := fun _ => true) (C := TabP _) mixed layOk noT TabP_calm (.inl rfl) ?_)
  refine wstepN rfl rfl (by dsimp only [putV, List.set]) ?_
  first
    | refine wstepN rfl (ldT rfl rfl) (by dsimp only [putV, List.set]) ?_
    | refine wstepN rfl (ldE rfl rfl) (by dsimp only [putV, List.set]) ?_
    | refine wstepN rfl rfl (by dsimp only [putV, List.set]) ?_
  first
    | refine wstepN rfl (ldT rfl rfl) (by dsimp only [putV, List.set]) ?_
    | refine wstepN rfl (ldE rfl rfl) (by dsimp only [putV, List.set]) ?_
    | refine wstepN rfl rfl (by dsimp only [putV, List.set]) ?_
  first
    | refine wstepN rfl (eqT (by assumption) rfl rfl) (by dsimp only [putV, List.set]) ?_
    | refine wstepN rfl rfl (by dsimp only [putV, List.set]) ?_
  refine wstepN rfl rfl (by dsimp only [putV, List.set]) ?_
  refine wnil ?_
  refine Ok.gc (bs2 := [.cells [T p]]) [0] [3] (by kernel_rfl) (by decide) (floor_ok rfl) ?_
  exact Ok.ret ⟨fun _ h => (by cases h), _, rfl, rfl, rfl⟩

inductive T65 (p : List UInt8) : FuncId → List V → List Bx → V → List Bx → Prop
  | k (a : List UInt8) (d : Bool) (e : List UInt8) : T65 p 65 [.agg [T a, bV d, T e], .ptr 0 0] [.cells [T p]] (bV (decide (a = p))) [.cells [T p]]
theorem T65_good (p : List UInt8) : Good Tryd.prog (TabB (T65 p)) := TabB_good fun f vs bs v bs' h => by
  cases h with
  | k a d e => exact ⟨same65 ⟨a, d, e⟩ p, Tryd.call65⟩
theorem T65_calm (p : List UInt8) {G : FuncId → Bool} (h : G 65 = false) : Calm G (TabB (T65 p)) := by
  intro f vs hg
  refine .inl fun bs => ?_
  unfold TabB
  rw [dif_neg]
  rintro ⟨q, hp⟩
  generalize q.1 = a at hp
  generalize q.2 = b at hp
  cases hp with
  | k a d e => rw [h] at hg; cases hg
theorem T65_hit {p : List UInt8} {f : Fl} : TabB (T65 p) 65 [valF f, .ptr 0 0] [.cells [T p]] = some (bV (decide (f.path = p)), [.cells [T p]]) := TabB_hit (fun v' b' h => by cases h; exact ⟨rfl, rfl⟩) (.k f.path f.dir f.data)

theorem idxF_at {l : List Fl} {p : List UInt8} {k : Nat} {f : Fl} (h : (l.take k).any (fun f => decide (f.path = p)) = false) (hk : l[k]? = some f) (hc : f.path = p) : idxF l p = (k : Int) := by
  have hlt : k < l.length := (List.getElem?_eq_some_iff.1 hk).1
  have : l.findIdx? (fun f => decide (f.path = p)) = some k := by
    rw [List.findIdx?_eq_some_iff_getElem]
    refine ⟨hlt, ?_, fun j hj => ?_⟩
    · rw [List.getElem?_eq_getElem hlt] at hk
      obtain rfl := Option.some.inj hk
      simpa using hc
    · have h1 := List.any_eq_false.1 h l[j] (List.mem_iff_getElem.2 ⟨j, by simp; omega, by simp⟩)
      simpa using h1
  unfold idxF
  rw [this]
theorem idxF_none {l : List Fl} {p : List UInt8} (h : l.any (fun f => decide (f.path = p)) = false) : idxF l p = -1 := by
  have : l.findIdx? (fun f => decide (f.path = p)) = none := by
    rw [List.findIdx?_eq_none_iff]
    intro x hx
    have := List.any_eq_false.1 h x hx
    simpa using this
  unfold idxF
  rw [this]
theorem take_anyF {α : Type} {l : List α} {k : Nat} {c : α} {q : α → Bool} (h : l[k]? = some c) : (l.take (k + 1)).any q = ((l.take k).any q || q c) := by
  rw [List.take_add_one, h]
  simp

theorem index64 (l : List Fl) (p : List UInt8) (hl : l.length ≤ 100000) : FnOk Tryd.prog 64 [.sl (rowsF l), .fn 65 [.ptr 0 0]] [.cells [T p]] (fun r bs' => r = iV (idxF l p) ∧ bs' = [.cells [T p]]) := by
  refine FnOk.of layOk Tryd.func64 rfl ?_
  obtain ⟨N, hN⟩ : ∃ N, l.length = N := ⟨_, rfl⟩
  refine Ok.seq (go 10 rfl ?_)
  refine Ok.seq ?_
  refine Ok.seq (Ok.regionW (G := fun _ => true) (C := TabP _) mixed layOk noT TabP_calm (.inl rfl) ?_)
  refine wstepN rfl rfl (by dsimp only [putV, List.set]) ?_
  first
    | refine wstepN rfl (lenR (by assumption) rfl rfl) (by dsimp only [putV, List.set]) ?_
    | refine wstepN rfl (lenF (by assumption) rfl rfl) (by dsimp only [putV, List.set]) ?_
    | refine wstepN rfl rfl (by dsimp only [putV, List.set]) ?_
  refine wstepN rfl rfl (by dsimp only [putV, List.set]) ?_
  refine wnil ?_
  refine Ok.gc (bs2 := [.cells [T p]]) [0] [0, 1, 7, 8] (by kernel_rfl) (by decide) (floor_ok rfl) ?_
  refine Ok.count N (fun k ts bs => (l.take k).any (fun f => decide (f.path = p)) = false ∧ k ≤ N ∧ bs = [.cells [T p]] ∧ ts = ((((List.replicate 19 V.gone).set 0 (.sl (rowsF l))).set 1 (.fn 65 [.ptr 0 0])).set 7 (iV (N : Int))).set 8 (iV (k : Int))) ?_ ?_
  · exact ⟨rfl, Nat.zero_le _, rfl, rfl⟩
  rintro k _ _ ⟨hno, hk, rfl, rfl⟩
  simp only [List.replicate, List.set]
  cases hlt : decide (k < N)
  · refine Ok.seq (Ok.regionW (G := fun _ => true) (C := TabP _) mixed layOk noT TabP_calm (.inl rfl) ?_)
    first
      | refine wstepN rfl (ltT (by assumption) rfl rfl) (by dsimp only [putV, List.set]) ?_
      | refine wstepN rfl (lssK (by assumption) rfl rfl) (by dsimp only [putV, List.set]) ?_
      | refine wstepN rfl rfl (by dsimp only [putV, List.set]) ?_
    refine wnil (Ok.seq (Ok.cond (b := false) rfl (fun h => by cases h) (fun _ => ?_)))
    refine Ok.exit ?_
    have := of_decide_eq_false hlt
    rw [List.take_of_length_le (by omega)] at hno
    rw [idxF_none hno]
    exact go 10 rfl ⟨fun _ h => (by cases h), _, rfl, rfl, rfl⟩
  · have hlt' : k < N := of_decide_eq_true hlt
    obtain ⟨f, hf⟩ : ∃ f, l[k]? = some f := ⟨_, List.getElem?_eq_getElem (by omega)⟩
    have hget := rowsF_at hf
    have hnext := take_anyF (q := fun f => decide (f.path = p)) hf
    refine Ok.seq (Ok.regionW (G := fun _ => true) (C := TabP _) mixed layOk noT TabP_calm (.inl rfl) ?_)
    first
      | refine wstepN rfl (ltT (by assumption) rfl rfl) (by dsimp only [putV, List.set]) ?_
      | refine wstepN rfl (lssK (by assumption) rfl rfl) (by dsimp only [putV, List.set]) ?_
      | refine wstepN rfl rfl (by dsimp only [putV, List.set]) ?_
    refine wnil (Ok.seq (Ok.cond (b := true) rfl (fun _ => ?_) (fun h => by cases h)))
    refine Ok.skip ?_
    refine Ok.after (Ok.seq (Ok.block ?_))
    refine Ok.seq (Ok.regionW (G := fun _ => true) (C := TabP _) mixed layOk noT TabP_calm (.inl rfl) ?_)
    refine wstepN rfl rfl (by dsimp only [putV, List.set]) ?_
    refine wstepN rfl rfl (by dsimp only [putV, List.set]) ?_
    refine wnil ?_
    refine Ok.seq ?_
    refine Ok.regionW (G := fun _ => false) (C := TabB (T65 p)) mixed layOk (T65_good p) (T65_calm p rfl) (.inl rfl) ?_
    refine wstepN rfl rfl (by dsimp only [putV, List.set]) ?_
    refine wstepN rfl rfl (by dsimp only [putV, List.set]) ?_
    refine wstepN rfl rfl (by dsimp only [putV, List.set]) ?_
    first
      | refine wstepN rfl (ev_ix rfl rfl rfl (by assumption) rfl) (by dsimp only [putV, List.set]) ?_
      | refine wstepN rfl rfl (by dsimp only [putV, List.set]) ?_
    first
      | refine wstepN rfl (ldF rfl rfl) (by dsimp only [putV, List.set]) ?_
      | refine wstepN rfl rfl (by dsimp only [putV, List.set]) ?_
    refine wstepN rfl (T65_hit) (by dsimp only [putV, List.set]) ?_
    cases hq : decide (f.path = p)
    · refine wnil (Ok.cond (b := false) rfl (fun h => by cases h) (fun _ => ?_))
      refine Ok.skip ?_
      refine Ok.regionW (G := fun _ => true) (C := TabP _) mixed layOk noT TabP_calm (.inl rfl) ?_
      first
        | refine wstepN rfl (incT (by omega) rfl rfl) (by dsimp only [putV, List.set]) ?_
        | refine wstepN rfl (addK (by assumption) rfl rfl) (by dsimp only [putV, List.set]) ?_
        | refine wstepN rfl rfl (by dsimp only [putV, List.set]) ?_
      refine wstepN rfl rfl (by dsimp only [putV, List.set]) ?_
      refine wnil ⟨[0], [0, 1, 7, 8], [.cells [T p]], by kernel_rfl, by decide, floor_ok rfl, hlt', by rw [hnext, hno, hq]; rfl, hlt', rfl, rfl⟩
    · refine wnil (Ok.cond (b := true) rfl (fun _ => ?_) (fun h => by cases h))
      rw [idxF_at hno hf (of_decide_eq_true hq)]
      refine Ok.seq (Ok.regionW (G := fun _ => true) (C := TabP _) mixed layOk noT TabP_calm (.inl rfl) ?_)
      refine wstepN rfl rfl (by dsimp only [putV, List.set]) ?_
      refine wstepN rfl rfl (by dsimp only [putV, List.set]) ?_
      refine wnil (Ok.ret ?_)
      exact ⟨[0], [4], [.cells [T p]], by kernel_rfl, by decide, floor_ok rfl, fun _ h => (by cases h), _, rfl, rfl, rfl⟩

inductive T64 (l : List Fl) (p : List UInt8) : FuncId → List V → List Bx → V → List Bx → Prop
  | k : T64 l p 64 [.sl (rowsF l), .fn 65 [.ptr 0 0]] [.cells [T p]] (iV (idxF l p)) [.cells [T p]]
theorem T64_good (l : List Fl) (p : List UInt8) (hl : l.length ≤ 100000) : Good Tryd.prog (TabB (T64 l p)) := TabB_good fun f vs bs v bs' h => by
  cases h with
  | k => exact ⟨index64 l p hl, Tryd.call64⟩
theorem T64_calm (l : List Fl) (p : List UInt8) {G : FuncId → Bool} (h : G 64 = false) : Calm G (TabB (T64 l p)) := by
  intro f vs hg
  refine .inl fun bs => ?_
  unfold TabB
  rw [dif_neg]
  rintro ⟨q, hp⟩
  generalize q.1 = a at hp
  generalize q.2 = b at hp
  cases hp with
  | k => rw [h] at hg; cases hg
theorem T64_hit {l : List Fl} {p : List UInt8} : TabB (T64 l p) 64 [.sl (rowsF l), .fn 65 [.ptr 0 0]] [.cells [T p]] = some (iV (idxF l p), [.cells [T p]]) := TabB_hit (fun v' b' h => by cases h; exact ⟨rfl, rfl⟩) .k

theorem index42 (l : List Fl) (p : List UInt8) (hl : l.length ≤ 100000) : FnOk Tryd.prog 42 [.sl (rowsF l), T p] [] (fun r bs' => fr bs' r = iV (idxF l p)) := by
  refine FnOk.fast (Q := fun r => r = iV (idxF l p)) layOk Tryd.func42 rfl ?_
  refine Ok.seq (go 10 rfl ?_)
  refine Ok.gc (bs2 := [.cells [T p]]) [0] [0, 3] (by kernel_rfl) (by decide) (floor_ok rfl) ?_
  refine Ok.seq (Ok.regionW (G := fun _ => false) (C := TabB (T64 l p)) mixed layOk (T64_good l p hl) (T64_calm l p rfl) (.inl rfl) ?_)
  refine wstepN rfl rfl (by dsimp only [putV, List.set]) ?_
  refine wstepN rfl rfl (by dsimp only [putV, List.set]) ?_
  refine wstepN rfl (T64_hit) (by dsimp only [putV, List.set]) ?_
  refine wstepN rfl rfl (by dsimp only [putV, List.set]) ?_
  refine wnil (Ok.ret ⟨fun _ h => (by cases h), _, rfl, rfl⟩)

theorem rfind46 (l : List Fl) (p : List UInt8) (hl : l.length ≤ 100000) : FnOk Tryd.prog 46 [.sl (rowsF l), T p] [] (fun r bs' => fr bs' r = iV (idxF l p)) := by
  refine FnOk.fast (Q := fun r => r = iV (idxF l p)) layOk Tryd.func46 rfl ?_
  obtain ⟨N, hN⟩ : ∃ N, l.length = N := ⟨_, rfl⟩
  refine Ok.seq (go 10 rfl ?_)
  refine Ok.seq (Ok.seq (go 10 rfl ?_))
  refine Ok.gc (bs2 := []) [] [0, 1, 5] (by kernel_rfl) (by decide) (floor_ok rfl) ?_
  refine Ok.count N (fun k ts bs => (l.take k).any (fun f => decide (f.path = p)) = false ∧ k ≤ N ∧ bs = [] ∧ ts = (((List.replicate 20 V.gone).set 0 (.sl (rowsF l))).set 1 (T p)).set 5 (iV (k : Int))) ?_ ?_
  · exact ⟨rfl, Nat.zero_le _, rfl, rfl⟩
  rintro k _ _ ⟨hno, hk, rfl, rfl⟩
  simp only [List.replicate, List.set]
  refine Ok.seq (Ok.seq ?_)
  cases hlt : decide (k < N)
  · refine Ok.regionW (G := fun _ => true) (C := TabP _) mixed layOk noT TabP_calm (.inl rfl) ?_
    refine wstepN rfl rfl (by dsimp only [putV, List.set]) ?_
    refine wstepN rfl rfl (by dsimp only [putV, List.set]) ?_
    first
      | refine wstepN rfl (lenR (by assumption) rfl rfl) (by dsimp only [putV, List.set]) ?_
      | refine wstepN rfl (lenF (by assumption) rfl rfl) (by dsimp only [putV, List.set]) ?_
      | refine wstepN rfl rfl (by dsimp only [putV, List.set]) ?_
    first
      | refine wstepN rfl (ltT (by assumption) rfl rfl) (by dsimp only [putV, List.set]) ?_
      | refine wstepN rfl (lssK (by assumption) rfl rfl) (by dsimp only [putV, List.set]) ?_
      | refine wstepN rfl rfl (by dsimp only [putV, List.set]) ?_
    refine wnil (Ok.cond (b := false) rfl (fun h => by cases h) (fun _ => ?_))
    refine Ok.exit ?_
    have := of_decide_eq_false hlt
    rw [List.take_of_length_le (by omega)] at hno
    rw [idxF_none hno]
    exact go 10 rfl ⟨fun _ h => (by cases h), _, rfl, rfl⟩
  · have hlt' : k < N := of_decide_eq_true hlt
    obtain ⟨f, hf⟩ : ∃ f, l[k]? = some f := ⟨_, List.getElem?_eq_getElem (by omega)⟩
    have hget := rowsF_at hf
    have hnext := take_anyF (q := fun f => decide (f.path = p)) hf
    refine Ok.regionW (G := fun _ => true) (C := TabP _) mixed layOk noT TabP_calm (.inl rfl) ?_
    refine wstepN rfl rfl (by dsimp only [putV, List.set]) ?_
    refine wstepN rfl rfl (by dsimp only [putV, List.set]) ?_
    first
      | refine wstepN rfl (lenR (by assumption) rfl rfl) (by dsimp only [putV, List.set]) ?_
      | refine wstepN rfl (lenF (by assumption) rfl rfl) (by dsimp only [putV, List.set]) ?_
      | refine wstepN rfl rfl (by dsimp only [putV, List.set]) ?_
    first
      | refine wstepN rfl (ltT (by assumption) rfl rfl) (by dsimp only [putV, List.set]) ?_
      | refine wstepN rfl (lssK (by assumption) rfl rfl) (by dsimp only [putV, List.set]) ?_
      | refine wstepN rfl rfl (by dsimp only [putV, List.set]) ?_
    refine wnil (Ok.cond (b := true) rfl (fun _ => ?_) (fun h => by cases h))
    refine Ok.skip ?_
    refine Ok.after (Ok.seq (Ok.block (Ok.seq ?_)))
    cases hq : decide (f.path = p)
    · refine Ok.regionW (G := fun _ => true) (C := TabP _) mixed layOk noT TabP_calm (.inl rfl) ?_
      refine wstepN rfl rfl (by dsimp only [putV, List.set]) ?_
      refine wstepN rfl rfl (by dsimp only [putV, List.set]) ?_
      first
        | refine wstepN rfl (ev_ix rfl rfl rfl (by assumption) rfl) (by dsimp only [putV, List.set]) ?_
        | refine wstepN rfl rfl (by dsimp only [putV, List.set]) ?_
      refine wstepN rfl rfl (by dsimp only [putV, List.set]) ?_
      first
        | refine wstepN rfl (ldT rfl rfl) (by dsimp only [putV, List.set]) ?_
        | refine wstepN rfl (ldE rfl rfl) (by dsimp only [putV, List.set]) ?_
        | refine wstepN rfl rfl (by dsimp only [putV, List.set]) ?_
      refine wstepN rfl rfl (by dsimp only [putV, List.set]) ?_
      first
        | refine wstepN rfl (eqT (by assumption) rfl rfl) (by dsimp only [putV, List.set]) ?_
        | refine wstepN rfl rfl (by dsimp only [putV, List.set]) ?_
      refine wnil (Ok.cond (b := false) rfl (fun h => by cases h) (fun _ => ?_))
      refine Ok.skip ?_
      refine Ok.regionW (G := fun _ => true) (C := TabP _) mixed layOk noT TabP_calm (.inl rfl) ?_
      refine wstepN rfl rfl (by dsimp only [putV, List.set]) ?_
      first
        | refine wstepN rfl (incT (by omega) rfl rfl) (by dsimp only [putV, List.set]) ?_
        | refine wstepN rfl (addK (by assumption) rfl rfl) (by dsimp only [putV, List.set]) ?_
        | refine wstepN rfl rfl (by dsimp only [putV, List.set]) ?_
      refine wstepN rfl rfl (by dsimp only [putV, List.set]) ?_
      refine wnil ⟨[], [0, 1, 5], [], by kernel_rfl, by decide, floor_ok rfl, hlt', by rw [hnext, hno, hq]; rfl, hlt', rfl, rfl⟩
    · rw [idxF_at hno hf (of_decide_eq_true hq)]
      refine Ok.regionW (G := fun _ => true) (C := TabP _) mixed layOk noT TabP_calm (.inl rfl) ?_
      refine wstepN rfl rfl (by dsimp only [putV, List.set]) ?_
      refine wstepN rfl rfl (by dsimp only [putV, List.set]) ?_
      first
        | refine wstepN rfl (ev_ix rfl rfl rfl (by assumption) rfl) (by dsimp only [putV, List.set]) ?_
        | refine wstepN rfl rfl (by dsimp only [putV, List.set]) ?_
      refine wstepN rfl rfl (by dsimp only [putV, List.set]) ?_
      first
        | refine wstepN rfl (ldT rfl rfl) (by dsimp only [putV, List.set]) ?_
        | refine wstepN rfl (ldE rfl rfl) (by dsimp only [putV, List.set]) ?_
        | refine wstepN rfl rfl (by dsimp only [putV, List.set]) ?_
      refine wstepN rfl rfl (by dsimp only [putV, List.set]) ?_
      first
        | refine wstepN rfl (eqT (by assumption) rfl rfl) (by dsimp only [putV, List.set]) ?_
        | refine wstepN rfl rfl (by dsimp only [putV, List.set]) ?_
      refine wnil (Ok.cond (b := true) rfl (fun _ => ?_) (fun h => by cases h))
      refine Ok.seq (Ok.regionW (G := fun _ => true) (C := TabP _) mixed layOk noT TabP_calm (.inl rfl) ?_)
      refine wstepN rfl rfl (by dsimp only [putV, List.set]) ?_
      refine wstepN rfl rfl (by dsimp only [putV, List.set]) ?_
      refine wnil (Ok.ret ?_)
      exact ⟨[], [4], [], by kernel_rfl, by decide, floor_ok rfl, fun _ h => (by cases h), _, rfl, rfl⟩

theorem above58 (a s : List UInt8) : FnOk Tryd.prog 58 [T a, T s] [] (fun r bs' => fr bs' r = bV (aboveB a s)) := by
  refine FnOk.fast (Q := fun r => r = bV (aboveB a s)) layOk Tryd.func58 rfl ?_
  refine Ok.seq (go 10 rfl ?_)
  refine Ok.seq ?_
  by_cases e0 : a = [47]
  · have hq0 : decide (a = [47]) = true := decide_eq_true e0
    rw [show aboveB a s = !decide (s = [47]) by rw [aboveB, if_pos e0]]
    generalize hq1 : decide (s = [47]) = v
    refine Ok.seq (Ok.regionW (G := fun _ => true) (C := TabP _) mixed layOk noT TabP_calm (.inl rfl) ?_)
    refine wstepN rfl rfl (by dsimp only [putV, List.set]) ?_
    first
      | refine wstepN rfl (eqT (by assumption) rfl rfl) (by dsimp only [putV, List.set]) ?_
      | refine wstepN rfl rfl (by dsimp only [putV, List.set]) ?_
    refine wnil (Ok.cond (b := true) rfl (fun _ => ?_) (fun h => by cases h))
    refine Ok.seq (Ok.regionW (G := fun _ => true) (C := TabP _) mixed layOk noT TabP_calm (.inl rfl) ?_)
    refine wstepN rfl rfl (by dsimp only [putV, List.set]) ?_
    first
      | refine wstepN rfl (neqT (by assumption) rfl rfl) (by dsimp only [putV, List.set]) ?_
      | refine wstepN rfl rfl (by dsimp only [putV, List.set]) ?_
    refine wstepN rfl rfl (by dsimp only [putV, List.set]) ?_
    refine wnil (Ok.ret ⟨fun _ h => (by cases h), _, rfl, rfl⟩)
  · have hq0 : decide (a = [47]) = false := decide_eq_false e0
    rw [show aboveB a s = (decide (a.length < s.length) && decide (s.take a.length = a) && decide (s[a.length]? = some 47)) by rw [aboveB, if_neg e0]]
    refine Ok.seq (Ok.regionW (G := fun _ => true) (C := TabP _) mixed layOk noT TabP_calm (.inl rfl) ?_)
    refine wstepN rfl rfl (by dsimp only [putV, List.set]) ?_
    first
      | refine wstepN rfl (eqT (by assumption) rfl rfl) (by dsimp only [putV, List.set]) ?_
      | refine wstepN rfl rfl (by dsimp only [putV, List.set]) ?_
    refine wnil (Ok.cond (b := false) rfl (fun h => by cases h) (fun _ => ?_))
    refine Ok.skip ?_
    by_cases h1 : a.length < s.length
    · have hq1 : decide ((s.length : Int) > (a.length : Int)) = true := decide_eq_true (by omega)
      obtain ⟨c, hc⟩ : ∃ c, s[a.length]? = some c := ⟨_, List.getElem?_eq_getElem h1⟩
      rw [show decide (a.length < s.length) = true from decide_eq_true h1, hc, show decide (some c = some (47 : UInt8)) = decide (c = 47) by simp]
      by_cases h2 : s.take a.length = a
      · have hq2 : decide (a = a) = true := by simp
        rw [show decide (s.take a.length = a) = true from decide_eq_true h2]
        generalize hq3 : decide (c = 47) = v
        refine Ok.seq (Ok.regionW (G := fun _ => true) (C := TabP _) mixed layOk noT TabP_calm (.inl rfl) ?_)
        refine wstepN rfl rfl (by dsimp only [putV, List.set]) ?_
        first
          | refine wstepN rfl (lenT rfl rfl) (by dsimp only [putV, List.set]) ?_
          | refine wstepN rfl rfl (by dsimp only [putV, List.set]) ?_
        refine wstepN rfl rfl (by dsimp only [putV, List.set]) ?_
        first
          | refine wstepN rfl (lenT rfl rfl) (by dsimp only [putV, List.set]) ?_
          | refine wstepN rfl rfl (by dsimp only [putV, List.set]) ?_
        first
          | refine wstepN rfl (gtrK (by assumption) rfl rfl) (by dsimp only [putV, List.set]) ?_
          | refine wstepN rfl rfl (by dsimp only [putV, List.set]) ?_
        refine wstepN rfl rfl (by dsimp only [putV, List.set]) ?_
        first
          | refine wskipN rfl (by dsimp only [putV, List.set]) ?_
          | refine wstepN rfl rfl (by dsimp only [putV, List.set]) ?_
        first
          | refine wskipN rfl (by dsimp only [putV, List.set]) ?_
          | refine wstepN rfl rfl (by dsimp only [putV, List.set]) ?_
        first
          | refine wskipN rfl (by dsimp only [putV, List.set]) ?_
          | refine wstepN rfl (lenT rfl rfl) (by dsimp only [putV, List.set]) ?_
          | refine wstepN rfl rfl (by dsimp only [putV, List.set]) ?_
        refine wstepN rfl (cutToR (l' := a) (b := a.length) (by omega) h2 rfl rfl rfl) (by dsimp only [putV, List.set]) ?_
        first
          | refine wskipN rfl (by dsimp only [putV, List.set]) ?_
          | refine wstepN rfl rfl (by dsimp only [putV, List.set]) ?_
        first
          | refine wskipN rfl (by dsimp only [putV, List.set]) ?_
          | refine wstepN rfl (eqT (by assumption) rfl rfl) (by dsimp only [putV, List.set]) ?_
          | refine wstepN rfl rfl (by dsimp only [putV, List.set]) ?_
        refine wstepN rfl rfl (by dsimp only [putV, List.set]) ?_
        refine wstepN rfl rfl (by dsimp only [putV, List.set]) ?_
        first
          | refine wskipN rfl (by dsimp only [putV, List.set]) ?_
          | refine wstepN rfl rfl (by dsimp only [putV, List.set]) ?_
        first
          | refine wskipN rfl (by dsimp only [putV, List.set]) ?_
          | refine wstepN rfl rfl (by dsimp only [putV, List.set]) ?_
        first
          | refine wskipN rfl (by dsimp only [putV, List.set]) ?_
          | refine wstepN rfl (lenT rfl rfl) (by dsimp only [putV, List.set]) ?_
          | refine wstepN rfl rfl (by dsimp only [putV, List.set]) ?_
        first
          | refine wskipN rfl (by dsimp only [putV, List.set]) ?_
          | refine wstepN rfl (idxT rfl rfl rfl (by assumption)) (by dsimp only [putV, List.set]) ?_
          | refine wstepN rfl rfl (by dsimp only [putV, List.set]) ?_
        first
          | refine wskipN rfl (by dsimp only [putV, List.set]) ?_
          | refine wstepN rfl (eqC (by first | rfl | assumption) (by assumption) rfl rfl) (by dsimp only [putV, List.set]) ?_
          | refine wstepN rfl (eqC (d := 47) rfl (by assumption) rfl rfl) (by dsimp only [putV, List.set]) ?_
          | refine wstepN rfl (eqC (d := 0) rfl (by assumption) rfl rfl) (by dsimp only [putV, List.set]) ?_
          | refine wstepN rfl (eqlK (by assumption) rfl rfl) (by dsimp only [putV, List.set]) ?_
          | refine wstepN rfl rfl (by dsimp only [putV, List.set]) ?_
        refine wstepN rfl rfl (by dsimp only [putV, List.set]) ?_
        refine wstepN rfl rfl (by dsimp only [putV, List.set]) ?_
        refine wnil (Ok.ret ⟨fun _ h => (by cases h), _, rfl, rfl⟩)
      · have hq2 : decide (s.take a.length = a) = false := decide_eq_false h2
        rw [hq2]
        refine Ok.seq (Ok.regionW (G := fun _ => true) (C := TabP _) mixed layOk noT TabP_calm (.inl rfl) ?_)
        refine wstepN rfl rfl (by dsimp only [putV, List.set]) ?_
        first
          | refine wstepN rfl (lenT rfl rfl) (by dsimp only [putV, List.set]) ?_
          | refine wstepN rfl rfl (by dsimp only [putV, List.set]) ?_
        refine wstepN rfl rfl (by dsimp only [putV, List.set]) ?_
        first
          | refine wstepN rfl (lenT rfl rfl) (by dsimp only [putV, List.set]) ?_
          | refine wstepN rfl rfl (by dsimp only [putV, List.set]) ?_
        first
          | refine wstepN rfl (gtrK (by assumption) rfl rfl) (by dsimp only [putV, List.set]) ?_
          | refine wstepN rfl rfl (by dsimp only [putV, List.set]) ?_
        refine wstepN rfl rfl (by dsimp only [putV, List.set]) ?_
        first
          | refine wskipN rfl (by dsimp only [putV, List.set]) ?_
          | refine wstepN rfl rfl (by dsimp only [putV, List.set]) ?_
        first
          | refine wskipN rfl (by dsimp only [putV, List.set]) ?_
          | refine wstepN rfl rfl (by dsimp only [putV, List.set]) ?_
        first
          | refine wskipN rfl (by dsimp only [putV, List.set]) ?_
          | refine wstepN rfl (lenT rfl rfl) (by dsimp only [putV, List.set]) ?_
          | refine wstepN rfl rfl (by dsimp only [putV, List.set]) ?_
        first
          | refine wskipN rfl (by dsimp only [putV, List.set]) ?_
          | refine wstepN rfl (cutToT rfl rfl rfl (by omega)) (by dsimp only [putV, List.set]) ?_
          | refine wstepN rfl (cutToT rfl rfl rfl (by assumption)) (by dsimp only [putV, List.set]) ?_
          | refine wstepN rfl rfl (by dsimp only [putV, List.set]) ?_
        first
          | refine wskipN rfl (by dsimp only [putV, List.set]) ?_
          | refine wstepN rfl rfl (by dsimp only [putV, List.set]) ?_
        first
          | refine wskipN rfl (by dsimp only [putV, List.set]) ?_
          | refine wstepN rfl (eqT (by assumption) rfl rfl) (by dsimp only [putV, List.set]) ?_
          | refine wstepN rfl rfl (by dsimp only [putV, List.set]) ?_
        refine wstepN rfl rfl (by dsimp only [putV, List.set]) ?_
        refine wstepN rfl rfl (by dsimp only [putV, List.set]) ?_
        first
          | refine wskipN rfl (by dsimp only [putV, List.set]) ?_
          | refine wstepN rfl rfl (by dsimp only [putV, List.set]) ?_
        first
          | refine wskipN rfl (by dsimp only [putV, List.set]) ?_
          | refine wstepN rfl rfl (by dsimp only [putV, List.set]) ?_
        first
          | refine wskipN rfl (by dsimp only [putV, List.set]) ?_
          | refine wstepN rfl (lenT rfl rfl) (by dsimp only [putV, List.set]) ?_
          | refine wstepN rfl rfl (by dsimp only [putV, List.set]) ?_
        first
          | refine wskipN rfl (by dsimp only [putV, List.set]) ?_
          | refine wstepN rfl (idxT rfl rfl rfl (by assumption)) (by dsimp only [putV, List.set]) ?_
          | refine wstepN rfl rfl (by dsimp only [putV, List.set]) ?_
        first
          | refine wskipN rfl (by dsimp only [putV, List.set]) ?_
          | refine wstepN rfl (eqC (by first | rfl | assumption) (by assumption) rfl rfl) (by dsimp only [putV, List.set]) ?_
          | refine wstepN rfl (eqC (d := 47) rfl (by assumption) rfl rfl) (by dsimp only [putV, List.set]) ?_
          | refine wstepN rfl (eqC (d := 0) rfl (by assumption) rfl rfl) (by dsimp only [putV, List.set]) ?_
          | refine wstepN rfl (eqlK (by assumption) rfl rfl) (by dsimp only [putV, List.set]) ?_
          | refine wstepN rfl rfl (by dsimp only [putV, List.set]) ?_
        refine wstepN rfl rfl (by dsimp only [putV, List.set]) ?_
        refine wstepN rfl rfl (by dsimp only [putV, List.set]) ?_
        refine wnil (Ok.ret ⟨fun _ h => (by cases h), _, rfl, rfl⟩)
    · have hq1 : decide ((s.length : Int) > (a.length : Int)) = false := decide_eq_false (by omega)
      rw [show decide (a.length < s.length) = false from decide_eq_false h1]
      refine Ok.seq (Ok.regionW (G := fun _ => true) (C := TabP _) mixed layOk noT TabP_calm (.inl rfl) ?_)
      refine wstepN rfl rfl (by dsimp only [putV, List.set]) ?_
      first
        | refine wstepN rfl (lenT rfl rfl) (by dsimp only [putV, List.set]) ?_
        | refine wstepN rfl rfl (by dsimp only [putV, List.set]) ?_
      refine wstepN rfl rfl (by dsimp only [putV, List.set]) ?_
      first
        | refine wstepN rfl (lenT rfl rfl) (by dsimp only [putV, List.set]) ?_
        | refine wstepN rfl rfl (by dsimp only [putV, List.set]) ?_
      first
        | refine wstepN rfl (gtrK (by assumption) rfl rfl) (by dsimp only [putV, List.set]) ?_
        | refine wstepN rfl rfl (by dsimp only [putV, List.set]) ?_
      refine wstepN rfl rfl (by dsimp only [putV, List.set]) ?_
      first
        | refine wskipN rfl (by dsimp only [putV, List.set]) ?_
        | refine wstepN rfl rfl (by dsimp only [putV, List.set]) ?_
      first
        | refine wskipN rfl (by dsimp only [putV, List.set]) ?_
        | refine wstepN rfl rfl (by dsimp only [putV, List.set]) ?_
      first
        | refine wskipN rfl (by dsimp only [putV, List.set]) ?_
        | refine wstepN rfl (lenT rfl rfl) (by dsimp only [putV, List.set]) ?_
        | refine wstepN rfl rfl (by dsimp only [putV, List.set]) ?_
      first
        | refine wskipN rfl (by dsimp only [putV, List.set]) ?_
        | refine wstepN rfl (cutToT rfl rfl rfl (by omega)) (by dsimp only [putV, List.set]) ?_
        | refine wstepN rfl (cutToT rfl rfl rfl (by assumption)) (by dsimp only [putV, List.set]) ?_
        | refine wstepN rfl rfl (by dsimp only [putV, List.set]) ?_
      first
        | refine wskipN rfl (by dsimp only [putV, List.set]) ?_
        | refine wstepN rfl rfl (by dsimp only [putV, List.set]) ?_
      first
        | refine wskipN rfl (by dsimp only [putV, List.set]) ?_
        | refine wstepN rfl (eqT (by assumption) rfl rfl) (by dsimp only [putV, List.set]) ?_
        | refine wstepN rfl rfl (by dsimp only [putV, List.set]) ?_
      refine wstepN rfl rfl (by dsimp only [putV, List.set]) ?_
      refine wstepN rfl rfl (by dsimp only [putV, List.set]) ?_
      first
        | refine wskipN rfl (by dsimp only [putV, List.set]) ?_
        | refine wstepN rfl rfl (by dsimp only [putV, List.set]) ?_
      first
        | refine wskipN rfl (by dsimp only [putV, List.set]) ?_
        | refine wstepN rfl rfl (by dsimp only [putV, List.set]) ?_
      first
        | refine wskipN rfl (by dsimp only [putV, List.set]) ?_
        | refine wstepN rfl (lenT rfl rfl) (by dsimp only [putV, List.set]) ?_
        | refine wstepN rfl rfl (by dsimp only [putV, List.set]) ?_
      first
        | refine wskipN rfl (by dsimp only [putV, List.set]) ?_
        | refine wstepN rfl (idxT rfl rfl rfl (by assumption)) (by dsimp only [putV, List.set]) ?_
        | refine wstepN rfl rfl (by dsimp only [putV, List.set]) ?_
      first
        | refine wskipN rfl (by dsimp only [putV, List.set]) ?_
        | refine wstepN rfl (eqC (by first | rfl | assumption) (by assumption) rfl rfl) (by dsimp only [putV, List.set]) ?_
        | refine wstepN rfl (eqC (d := 47) rfl (by assumption) rfl rfl) (by dsimp only [putV, List.set]) ?_
        | refine wstepN rfl (eqC (d := 0) rfl (by assumption) rfl rfl) (by dsimp only [putV, List.set]) ?_
        | refine wstepN rfl (eqlK (by assumption) rfl rfl) (by dsimp only [putV, List.set]) ?_
        | refine wstepN rfl rfl (by dsimp only [putV, List.set]) ?_
      refine wstepN rfl rfl (by dsimp only [putV, List.set]) ?_
      refine wstepN rfl rfl (by dsimp only [putV, List.set]) ?_
      refine wnil (Ok.ret ⟨fun _ h => (by cases h), _, rfl, rfl⟩)

end Go.Proofs.YtiefcnghjcafbaaDoorV
