/- The calculus of values, sixth text: writing through pointers. -/
import Derived.Test.YtiefcnghjcafbaaDoorV5
namespace Go.Proofs.YtiefcnghjcafbaaDoorV
open Go Go.RowKit

/-- A list with a stretch written anew. -/
def spl {α : Type} (l : List α) (off : Nat) (cs : List α) : List α := l.take off ++ cs ++ l.drop (off + cs.length)

theorem spl_length {α : Type} {l : List α} {off : Nat} {cs : List α} (h : off + cs.length ≤ l.length) : (spl l off cs).length = l.length := by
  simp [spl]
  omega

theorem spl_get {α : Type} {l : List α} {off : Nat} {cs : List α} (h : off + cs.length ≤ l.length) (j : Nat) : (spl l off cs)[j]? = if off ≤ j ∧ j < off + cs.length then cs[j - off]? else l[j]? := by
  unfold spl
  by_cases h1 : j < off
  · rw [if_neg (by omega), List.append_assoc, List.getElem?_append_left (by simp; omega), List.getElem?_take_of_lt h1]
  · by_cases h2 : j < off + cs.length
    · rw [if_pos (by omega), List.getElem?_append_left (by simp; omega), List.getElem?_append_right (by simp; omega)]
      simp only [List.length_take]
      rw [Nat.min_eq_left (by omega)]
    · rw [if_neg (by omega), List.getElem?_append_right (by simp; omega), List.getElem?_drop]
      simp only [List.length_append, List.length_take]
      rw [Nat.min_eq_left (by omega)]
      congr 1
      omega

theorem store_cells (P : Program) (g off : Nat) (t : TypeId) : ∀ (vs : List Value) (i : Nat) (w : World) (arr : Array Value), w.heap[g]? = some (.cells arr t (0, 0)) → off + i + vs.length ≤ arr.size → (∀ v ∈ vs, v.oneCell' = true) →
    ∃ w', (storeCells ⟨g, off, none⟩ vs i).run P w = .ok () w' ∧ w'.heap[g]? = some (.cells (spl arr.toList (off + i) vs).toArray t (0, 0)) ∧ w'.os = w.os ∧ w'.tape = w.tape ∧ w'.output = w.output ∧ w'.heap.size = w.heap.size ∧
      ∀ q, q ≠ g → w'.heap[q]? = w.heap[q]?
  | [], i, w, arr, hh, hb, h1 => by
    refine ⟨w, rfl, ?_, rfl, rfl, rfl, rfl, fun _ _ => rfl⟩
    rw [hh]
    simp [spl]
  | v :: vs, i, w, arr, hh, hb, h1 => by
    have hlt : off + i < arr.size := by simp at hb; omega
    have hc : w.cell? ⟨g, off + i, none⟩ = some arr[off + i] := by rw [cell_of hh]; simp [hlt]
    have hf : w.frozen? ⟨g, off + i, none⟩ = false := by simp [World.frozen?, hh]
    have hs : (store ((⟨g, off, none⟩ : Addr).add i) v).run P w = .ok () (w.setCell ⟨g, off + i, none⟩ v) := by
      rw [add_plain, run_store P w _ v _ (h1 v (by simp)), hc]
      simp [hf]
    have hh' : (w.setCell ⟨g, off + i, none⟩ v).heap[g]? = some (.cells (arr.setIfInBounds (off + i) v) t (0, 0)) := by
      simp [World.setCell, Array.getElem?_modify, hh]
    obtain ⟨w', k1, k2, k3, k4, k5, k6, k7⟩ := store_cells P g off t vs (i + 1) (w.setCell ⟨g, off + i, none⟩ v) _ hh' (by simp at hb ⊢; omega) (fun u hu => h1 u (List.mem_cons_of_mem _ hu))
    refine ⟨w', ?_, ?_, k3, k4, k5, ?_, fun q hq => (k7 q hq).trans (Below.heap_setCell _ _ _ _ hq)⟩
    · simp only [storeCells, Sem.run_bind, hs, Result.andThen]
      exact k1
    · rw [k2]
      congr 3
      apply List.ext_getElem?
      intro j
      have e1 : off + (i + 1) + vs.length ≤ (arr.setIfInBounds (off + i) v).toList.length := by simp at hb ⊢; omega
      have e2 : off + i + (v :: vs).length ≤ arr.toList.length := by simpa using hb
      rw [spl_get e1, spl_get e2]
      by_cases hj : j = off + i
      · subst hj
        rw [if_neg (by omega), if_pos (by simp)]
        simp [hlt]
      · by_cases hj2 : off + i ≤ j ∧ j < off + i + (v :: vs).length
        · rw [if_pos (by simp at hj2 ⊢; omega), if_pos hj2]
          obtain ⟨m, hm⟩ : ∃ m, j - (off + i) = m + 1 := ⟨j - (off + i) - 1, by omega⟩
          rw [hm, List.getElem?_cons_succ]
          congr 1
          omega
        · rw [if_neg (by simp at hj2 ⊢; omega), if_neg hj2]
          simp only [Array.toList_setIfInBounds]
          rw [List.getElem?_set_ne (by omega)]
    · rw [k6]
      simp [World.setCell]

section
variable {P : Program} {L : Lay} {ts : List V} {bs : List Bx} {o : Oper}

theorem run_storeAt (hL : LayOk P L) {t n : Nat} {b : Bool} (hc : L.cel t = some (n, b)) {g off : Nat} {v : Value} {w : World} {arr : Array Value} {e : TypeId} (hh : w.heap[g]? = some (.cells arr e (0, 0))) (hn : v.cells.size = n) (hb : off + n ≤ arr.size)
    (h1 : ∀ u ∈ v.cells.toList, u.oneCell' = true) : ∃ w', (Instr.storeAt t (.pointer (some ⟨g, off, none⟩)) v).run P w = .ok () w' ∧ w'.heap[g]? = some (.cells (spl arr.toList off v.cells.toList).toArray e (0, 0)) ∧
      w'.os = w.os ∧ w'.tape = w.tape ∧ w'.output = w.output ∧ w'.heap.size = w.heap.size ∧ ∀ q, q ≠ g → w'.heap[q]? = w.heap[q]? := by
  obtain ⟨w', k1, k2, k3⟩ := store_cells P g off e v.cells.toList 0 w arr hh (by simp [hn]; exact hb) h1
  refine ⟨w', ?_, by simpa using k2, k3⟩
  obtain ⟨_, h2⟩ := run_cel hL hc w
  simp [Instr.storeAt, Instr.sureAddr, storeVar, h2, hn, k1, Result.andThen]

/-- A variable is written. -/
theorem op_store (hL : LayOk P L) {t : TypeId} {a0 v0 : Operand} {x : V} {n k off : Nat} {b : Bool} {l cs : List V} (ho : o.op = .store t a0 v0) (hp : evO ts a0 = some (.ptr k off)) (hx : evO ts v0 = some x)
    (hc : L.cel t = some (n, b)) (hcs : x.cs = some cs) (hb : bs[k]? = some (.cells l)) (hn : cs.length = n) (hle : off + n ≤ l.length) :
    OpOk P o (fun ts' bs' => ts' = putV o.dst (.tup []) ts ∧ bs' = bs.set k (.cells (spl l off cs))) ts bs := by
  refine OpOk.write hb rfl fun T φ w a v hs ht hv hbo => ?_
  obtain ⟨g, arr, e, rfl, hh, hsz, hcell⟩ := hbo
  have hpp := evO_sound ht hp
  have hea : a.eval a0 = .pointer (some ⟨g, off, none⟩) := by
    generalize a.eval a0 = u at hpp
    cases hpp with
    | ptr k off g' hg =>
      have := hg.symm.trans hv
      simp only [Option.some.injEq, Value.pointer.injEq, Addr.mk.injEq] at this
      obtain ⟨rfl, _⟩ := this
      rfl
  have hxv := (evO_sound ht hx).cells hcs
  obtain ⟨w', k1, k2, k3, k4, k5, k6, k7⟩ := run_storeAt (P := P) hL hc (v := a.eval v0) hh (by rw [hxv.1]; exact hn) (by rw [hsz]; exact hle) hxv.one
  refine ⟨w', ?_, k3, k4, k5, by omega, fun q hq hne => k7 q (fun e => hne (by rw [e]; rfl)), fun he => ?_⟩
  · simp [execOp, ho, hea, k1, Result.andThen]
  · have e1 : off + cs.length ≤ l.length := by omega
    have e2 : off + (a.eval v0).cells.toList.length ≤ arr.toList.length := by simp [hxv.1, hsz]; omega
    refine ⟨g, _, e, rfl, k2, ?_, fun j c hj => ?_⟩
    · rw [List.size_toArray, spl_length e2, spl_length e1]
      simpa using hsz
    · rw [spl_get e1] at hj
      have hg2 : ∀ u, (spl arr.toList off (a.eval v0).cells.toList)[j]? = some u → (spl arr.toList off (a.eval v0).cells.toList).toArray.getD j Go.undef = u := by
        intro u hu
        simp [Array.getD_eq_getD_getElem?, hu]
      by_cases hin : off ≤ j ∧ j < off + cs.length
      · rw [if_pos hin] at hj
        obtain ⟨h1, h2⟩ := hxv.2 _ c hj
        refine ⟨h1, ?_⟩
        rw [hg2 ((a.eval v0).cells.getD (j - off) Go.undef)]
        · exact h2.ext he
        · rw [spl_get e2, if_pos (by simp [hxv.1]; exact hin)]
          have : j - off < (a.eval v0).cells.size := by rw [hxv.1]; omega
          simp [Array.getD, this]
      · rw [if_neg hin] at hj
        obtain ⟨h1, h2⟩ := hcell _ c hj
        refine ⟨h1, ?_⟩
        rw [hg2 (arr.getD j Go.undef)]
        · exact h2.ext he
        · rw [spl_get e2, if_neg (by simp [hxv.1]; simpa using hin)]
          have : j < arr.size := by rw [hsz]; exact (List.getElem?_eq_some_iff.1 hj).1
          simp [Array.getD, this]

def V.down : V → Option S
  | .val v => some (.val v)
  | .sl xs => some (.sl xs)
  | .nils => some (.sl [])
  | _ => none

theorem RV.down {ok : Nat → Prop} {w : World} {φ : List Value} {x : V} {v : Value} {s : S} (h : RV ok w φ x v) (hd : x.down = some s) : RS ok w s v := by
  cases h with
  | val v h => obtain rfl := Option.some.inj hd; exact .val v h
  | nils => obtain rfl := Option.some.inj hd; exact .nil none 0 (Nat.zero_le _)
  | sl xs v h => obtain rfl := Option.some.inj hd; exact h
  | eptr => cases hd
  | row => cases hd
  | ptr => cases hd
  | rptr => cases hd
  | win => cases hd
  | fn => cases hd
  | agg => cases hd
  | tup => cases hd
  | gone => cases hd

def downs : List V → Option (List S)
  | [] => some []
  | x :: r => match x.down, downs r with
    | some s, some l => some (s :: l)
    | _, _ => none

theorem downs_get : ∀ {cs : List V} {l : List S}, downs cs = some l → l.length = cs.length ∧ ∀ (j : Nat) s, l[j]? = some s → ∃ x, cs[j]? = some x ∧ x.down = some s
  | [], l, h => by obtain rfl := Option.some.inj h; exact ⟨rfl, fun j s hj => by simp at hj⟩
  | x :: r, l, h => by
    unfold downs at h
    split at h
    · rename_i s l' h1 h2
      obtain rfl := Option.some.inj h
      obtain ⟨k1, k2⟩ := downs_get h2
      refine ⟨by simp [k1], fun j s' hj => ?_⟩
      cases j with
      | zero => obtain rfl : s = s' := by simpa using hj
                exact ⟨x, rfl, h1⟩
      | succ j => exact k2 j s' (by simpa using hj)
    · cases h

/-- An element of a slice of the call's own is written. -/
theorem op_storeR (hL : LayOk P L) {t : TypeId} {a0 v0 : Operand} {x : V} {n k sz i j e : Nat} {b : Bool} {xs : List (List S)} {y ss : List S} {cs : List V} (ho : o.op = .store t a0 v0) (hp : evO ts a0 = some (.rptr k sz i j)) (hx : evO ts v0 = some x)
    (hc : L.cel t = some (n, b)) (hcs : x.cs = some cs) (hss : downs cs = some ss) (hb : bs[k]? = some (.row e sz xs)) (hy : xs[i]? = some y) (hn : cs.length = n) (hle : j + n ≤ y.length) :
    OpOk P o (fun ts' bs' => ts' = putV o.dst (.tup []) ts ∧ bs' = bs.set k (.row e sz (xs.set i (spl y j ss)))) ts bs := by
  refine OpOk.write hb rfl fun T φ w a v hs ht hv hbo => ?_
  obtain ⟨hlen, vals, how, hcell⟩ := hbo
  have hpp := evO_sound ht hp
  obtain ⟨hsl, hsg⟩ := downs_get hss
  have hyl := hlen y (List.mem_of_getElem? hy)
  have hi : i < xs.length := (List.getElem?_eq_some_iff.1 hy).1
  have hmul : i * sz + sz ≤ xs.length * sz := by
    have := Nat.mul_le_mul_right sz hi
    rwa [Nat.succ_mul] at this
  have hxv := (evO_sound ht hx).cells hcs
  have hone : ∀ u ∈ (a.eval v0).cells.toList, u.oneCell' = true := hxv.one
  rcases how with ⟨hvl, hown⟩
  rcases hown with ⟨_, h0⟩ | ⟨g, cap, cur, rfl, hg0, hh, hnc, hcm, hcs2, htk⟩
  · omega
  have hea : a.eval a0 = .pointer (some ⟨g, i * sz + j, none⟩) := by
    generalize a.eval a0 = u at hpp
    cases hpp with
    | rptr k sz i j g' m c hg =>
      have := hg.symm.trans hv
      simp only [Option.some.injEq, Value.slice.injEq, Addr.mk.injEq] at this
      obtain ⟨⟨rfl, _⟩, _⟩ := this
      rfl
  have hcap : xs.length * sz ≤ cur.size := by rw [hcs2]; exact Nat.mul_le_mul_right _ hnc
  obtain ⟨w', k1, k2, k3, k4, k5, k6, k7⟩ := run_storeAt (P := P) hL hc (off := i * sz + j) (v := a.eval v0) hh (by rw [hxv.1]; exact hn) (by omega) hone
  refine ⟨w', ?_, k3, k4, k5, by omega, fun q hq hne => k7 q (fun e => hne (by rw [e]; rfl)), fun he => ?_⟩
  · simp [execOp, ho, hea, k1, Result.andThen]
  have e3 : j + ss.length ≤ y.length := by omega
  have e2 : i * sz + j + (a.eval v0).cells.toList.length ≤ cur.toList.length := by simp [hxv.1]; omega
  refine ⟨fun z hz => ?_, (spl cur.toList (i * sz + j) (a.eval v0).cells.toList).take ((xs.set i (spl y j ss)).length * sz), ?_, ?_⟩
  · rcases List.mem_or_eq_of_mem_set hz with h | rfl
    · exact hlen z h
    · rw [spl_length e3]; exact hyl
  · refine ⟨?_, .inr ⟨g, cap, _, by simp, Nat.zero_le _, k2, by simpa using hnc, hcm, ?_, rfl⟩⟩
    · rw [List.length_take, spl_length e2, List.length_set]
      simp
      omega
    · rw [List.size_toArray, spl_length e2]
      simpa using hcs2
  · intro i' x' j' y' hx' hy'
    have hi' : i' < xs.length := by
      have := (List.getElem?_eq_some_iff.1 hx').1
      simpa using this
    have hmul' : i' * sz + sz ≤ xs.length * sz := by
      have := Nat.mul_le_mul_right sz hi'
      rwa [Nat.succ_mul] at this
    have hxl' : x'.length = sz := by
      by_cases hii : i = i'
      · subst hii
        rw [List.getElem?_set_self hi] at hx'
        obtain rfl := Option.some.inj hx'
        rw [spl_length e3]; exact hyl
      · rw [List.getElem?_set_ne hii] at hx'
        exact hlen x' (List.mem_of_getElem? hx')
    have hj' : j' < sz := by rw [← hxl']; exact (List.getElem?_eq_some_iff.1 hy').1
    have hidx : i' * sz + j' < (xs.set i (spl y j ss)).length * sz := by simp; omega
    have hget : ∀ u, (spl cur.toList (i * sz + j) (a.eval v0).cells.toList)[i' * sz + j']? = some u → ((spl cur.toList (i * sz + j) (a.eval v0).cells.toList).take ((xs.set i (spl y j ss)).length * sz)).getD (i' * sz + j') Go.undef = u := by
      intro u hu
      rw [List.getD_eq_getElem?_getD, List.getElem?_take_of_lt hidx, hu]
      rfl
    have hcur : ∀ q, q < xs.length * sz → cur.toList[q]? = some (vals.getD q Go.undef) := by
      intro q hq
      rw [← htk, List.getD_eq_getElem?_getD, List.getElem?_take_of_lt hq]
      have : q < cur.size := by omega
      simp [this]
    by_cases hii : i = i'
    · subst hii
      rw [List.getElem?_set_self hi] at hx'
      obtain rfl := Option.some.inj hx'
      rw [spl_get e3] at hy'
      by_cases hin : j ≤ j' ∧ j' < j + ss.length
      · rw [if_pos hin] at hy'
        obtain ⟨c, hc1, hc2⟩ := hsg _ _ hy'
        obtain ⟨_, h2⟩ := hxv.2 _ c hc1
        rw [hget ((a.eval v0).cells.getD (j' - j) Go.undef)]
        · exact (h2.ext he).down hc2
        · rw [spl_get e2, if_pos (by simp [hxv.1]; omega)]
          have : i * sz + j' - (i * sz + j) = j' - j := by omega
          rw [this]
          have : j' - j < (a.eval v0).cells.size := by rw [hxv.1]; omega
          simp [Array.getD, this]
      · rw [if_neg hin] at hy'
        rw [hget (vals.getD (i * sz + j') Go.undef)]
        · exact (hcell i y j' y' hy hy').ext he
        · rw [spl_get e2, if_neg (by simp [hxv.1]; omega), hcur _ (by omega)]
    · rw [List.getElem?_set_ne hii] at hx'
      rw [hget (vals.getD (i' * sz + j') Go.undef)]
      · exact (hcell i' x' j' y' hx' hy').ext he
      · have hne : ¬ (i * sz + j ≤ i' * sz + j' ∧ i' * sz + j' < i * sz + j + (a.eval v0).cells.toList.length) := by
          have hl : (a.eval v0).cells.toList.length = n := by simp [hxv.1, hn]
          rw [hl]
          intro ⟨q1, q2⟩
          rcases Nat.lt_or_ge i i' with hlt | hge
          · have := Nat.mul_le_mul_right sz hlt
            rw [Nat.succ_mul] at this
            omega
          · have hlt : i' < i := by omega
            have := Nat.mul_le_mul_right sz hlt
            rw [Nat.succ_mul] at this
            omega
        rw [spl_get e2, if_neg hne, hcur _ (by omega)]
end

end Go.Proofs.YtiefcnghjcafbaaDoorV
