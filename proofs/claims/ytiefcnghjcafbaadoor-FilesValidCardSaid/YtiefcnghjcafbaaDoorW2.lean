/- The calculus of values: cells copied into an array of the call's own. -/
import Derived.Test.YtiefcnghjcafbaaDoorW1
namespace Go.Proofs.YtiefcnghjcafbaaDoorV
open Go Go.RowKit

/-- Cells to be copied: the first m elements. -/
def rowsS (sz m : Nat) (xs : List (List S)) : Option (List V) := if m ≤ xs.length ∧ xs.all (fun x => x.length == sz) = true then some ((xs.take m).flatten.map S.up) else none
def srcs (bs : List Bx) (sz m : Nat) : V → Option (List V)
  | .nils => if m = 0 then some [] else none
  | .sl xs => rowsS sz m xs
  | .row j => match bs[j]? with
    | some (.row _ s xs) => if s = sz then rowsS sz m xs else none
    | _ => none
  | .win j s q n _ => if s = sz ∧ m ≤ n then match bs[j]? with
    | some (.cells cs) => if (q + m) * sz ≤ cs.length then some ((cs.drop (q * sz)).take (m * sz)) else none
    | _ => none
    else none
  | _ => none
def lenV (bs : List Bx) : V → Option Nat
  | .nils => some 0
  | .sl xs => some xs.length
  | .row j => match bs[j]? with
    | some (.row _ _ xs) => some xs.length
    | _ => none
  | .win _ _ _ n _ => some n
  | _ => none

theorem flat_get {α : Type} {sz : Nat} : ∀ {xs : List (List α)}, (∀ x ∈ xs, x.length = sz) → ∀ (i j : Nat), j < sz → xs.flatten[i * sz + j]? = (xs[i]?).bind (·[j]?)
  | [], _, i, j, _ => by simp
  | x :: xs, h, 0, j, hj => by
    have hx := h x List.mem_cons_self
    rw [List.flatten_cons, Nat.zero_mul, Nat.zero_add, List.getElem?_append_left (by omega)]
    rfl
  | x :: xs, h, i + 1, j, hj => by
    have hx := h x List.mem_cons_self
    rw [List.flatten_cons, List.getElem?_append_right (by rw [Nat.add_mul]; omega)]
    have := flat_get (fun y hy => h y (List.mem_cons_of_mem _ hy)) i j hj (xs := xs)
    rw [show (i + 1) * sz + j - x.length = i * sz + j by rw [Nat.add_mul]; omega, this]
    simp
theorem flat_len {α : Type} {sz : Nat} : ∀ {xs : List (List α)}, (∀ x ∈ xs, x.length = sz) → xs.flatten.length = xs.length * sz
  | [], _ => by simp
  | x :: xs, h => by
    have hx := h x List.mem_cons_self
    rw [List.flatten_cons, List.length_append, flat_len fun y hy => h y (List.mem_cons_of_mem _ hy), hx, List.length_cons, Nat.add_mul]
    omega

section
variable {P : Program} {T : Nat → Prop} {bs : List Bx} {φ : List Value} {w : World}

theorem lenV_sound (hs : Sim T bs φ w) {x : V} {u : Value} {n : Nat} (h : RV (okOf T bs φ) w φ x u) (he : lenV bs x = some n) : ∃ A c, u = .slice A n c := by
  cases x with
  | win k sz q m c =>
    cases h with
    | win _ _ _ _ _ g hk hn hm =>
      obtain rfl := Option.some.inj he
      exact ⟨_, _, rfl⟩
  | nils => exact view_len hs h (by obtain rfl := Option.some.inj he; rfl) (xs := []) |> fun ⟨A, c, e⟩ => ⟨A, c, by obtain rfl := Option.some.inj he; exact e⟩
  | sl xs =>
    obtain rfl := Option.some.inj he
    exact view_len hs h rfl
  | row k =>
    simp only [lenV] at he
    split at he
    · rename_i e sz xs hb
      obtain rfl := Option.some.inj he
      exact view_len hs h (by simp [view, hb])
    · cases he
  | _ => cases he

/-- What is copied, cell by cell. -/
theorem srcs_sound (hs : Sim T bs φ w) {x : V} {u : Value} {sz m : Nat} {l : List V} (h : RV (okOf T bs φ) w φ x u) (he : srcs bs sz m x = some l) :
    l.length = m * sz ∧ ∃ vals : List Value, vals.length = m * sz ∧ (Builtin.firstCells sz m u).run P w = .ok vals.toArray w ∧ (∀ v ∈ vals, v.oneCell' = true) ∧ ∀ (j : Nat) c, l[j]? = some c → c.atomic = true ∧ RV (okOf T bs φ) w φ c (vals.getD j Go.undef) := by
  have none0 : ∀ A n c, u = .slice A n c → ∃ vals : List Value, vals.length = 0 * sz ∧ (Builtin.firstCells sz 0 u).run P w = .ok vals.toArray w ∧ (∀ v ∈ vals, v.oneCell' = true) ∧ ∀ (j : Nat) c, ([] : List V)[j]? = some c → c.atomic = true ∧ RV (okOf T bs φ) w φ c (vals.getD j Go.undef) := by
    rintro A n c rfl
    refine ⟨[], by simp, ?_, fun v hv => (by cases hv), fun j c h => by simp at h⟩
    cases A with
    | none => simp [Builtin.firstCells]
    | some a => exact run_firstCells_some w sz 0 a n c [] (by simp) (fun j v h => by simp at h)
  have rows : ∀ xs, view bs x = some xs → rowsS sz m xs = some l → l.length = m * sz ∧ ∃ vals : List Value, vals.length = m * sz ∧ (Builtin.firstCells sz m u).run P w = .ok vals.toArray w ∧ (∀ v ∈ vals, v.oneCell' = true) ∧ ∀ (j : Nat) c, l[j]? = some c → c.atomic = true ∧ RV (okOf T bs φ) w φ c (vals.getD j Go.undef) := by
    intro xs hv hr
    unfold rowsS at hr
    split at hr
    · rename_i hc
      obtain ⟨hm, hall⟩ := hc
      obtain rfl := Option.some.inj hr
      have hsz : ∀ y ∈ xs, y.length = sz := fun y hy => by
        have := List.all_eq_true.1 hall y hy
        simpa using this
      have hsz2 : ∀ y ∈ xs.take m, y.length = sz := fun y hy => hsz y (List.mem_of_mem_take hy)
      have hlen : ((xs.take m).flatten.map S.up).length = m * sz := by
        rw [List.length_map, flat_len hsz2, List.length_take, Nat.min_eq_left hm]
      refine ⟨hlen, ?_⟩
      by_cases hne : xs = []
      · subst hne
        obtain rfl : m = 0 := by simpa using hm
        obtain ⟨A, c, e⟩ := view_len hs h hv
        exact none0 A _ c e
      · obtain ⟨ad, c, news, rfl, h1, h2, h3, h4⟩ := src_cells hs h hv hne hsz
        have hle : m * sz ≤ xs.length * sz := Nat.mul_le_mul_right _ hm
        refine ⟨news.take (m * sz), by rw [List.length_take, h1]; omega, run_firstCells_some w sz m ad _ c _ (by rw [List.length_take, h1]; omega) (fun j v hj => ?_), fun v hv => h3 v (List.mem_of_mem_take hv), fun q c0 hq => ?_⟩
        · have hlt : j < m * sz := by
            have := (List.getElem?_eq_some_iff.1 hj).1
            rw [List.length_take] at this
            omega
          rw [List.getElem?_take_of_lt hlt] at hj
          exact h2 j v hj
        · have hlt : q < m * sz := by rw [← hlen]; exact (List.getElem?_eq_some_iff.1 hq).1
          obtain ⟨d1, d2, d3⟩ := div_mul_mod hlt
          rw [List.getElem?_map] at hq
          obtain ⟨y, hy, rfl⟩ := Option.map_eq_some_iff.1 hq
          rw [← d3, flat_get hsz2 _ _ d2, List.getElem?_take_of_lt d1] at hy
          obtain ⟨r, hr1, hr2⟩ := Option.bind_eq_some_iff.1 hy
          have := h4 _ r _ y hr1 hr2
          rw [d3] at this
          refine ⟨S.up_atomic y, ?_⟩
          have e : (news.take (m * sz)).getD q Go.undef = news.getD q Go.undef := by
            simp only [List.getD_eq_getElem?_getD]
            rw [List.getElem?_take_of_lt hlt]
          rw [e]
          exact this.up
    · cases hr
  cases x with
  | nils =>
    simp only [srcs] at he
    split at he
    · rename_i hm
      subst hm
      obtain rfl := Option.some.inj he
      cases h with
      | nils => exact ⟨by simp, none0 _ _ _ rfl⟩
    · cases he
  | sl xs => exact rows xs rfl he
  | row k =>
    simp only [srcs] at he
    split at he
    · rename_i e s xs hb
      split at he
      · exact rows xs (by simp [view, hb]) he
      · cases he
    · cases he
  | win k s q n c =>
    simp only [srcs] at he
    split at he
    · rename_i hc
      obtain ⟨rfl, hmn⟩ := hc
      split at he
      · rename_i cs hb
        split at he
        · rename_i hle
          obtain rfl := Option.some.inj he
          cases h with
          | win _ _ _ _ _ g hk hn hm =>
            obtain ⟨v', hv', g', arr, t, rfl, hh, hsz, hcell⟩ := hs.box k _ hb
            obtain rfl : g = g' := by
              have := hk.symm.trans hv'
              simpa using this
            have hmul : q * s + m * s ≤ cs.length := by rw [← Nat.add_mul]; exact hle
            refine ⟨by simp; omega, (arr.toList.drop (q * s)).take (m * s), by simp; omega, run_firstCells_some w s m _ _ c _ (by simp; omega) (fun j v hj => ?_), fun v hv => ?_, fun j c0 hj => ?_⟩
            · have hlt : j < m * s := by
                have := (List.getElem?_eq_some_iff.1 hj).1
                simp at this
                omega
              rw [List.getElem?_take_of_lt hlt, List.getElem?_drop] at hj
              rw [add_plain, cell_of hh]
              simpa using hj
            · obtain ⟨j, hj⟩ := List.mem_iff_getElem?.1 hv
              have hlt : j < m * s := by
                have := (List.getElem?_eq_some_iff.1 hj).1
                simp at this
                omega
              rw [List.getElem?_take_of_lt hlt, List.getElem?_drop] at hj
              obtain ⟨c0, hc0⟩ : ∃ c0, cs[q * s + j]? = some c0 := ⟨_, List.getElem?_eq_getElem (by omega)⟩
              obtain ⟨a1, a2⟩ := hcell _ c0 hc0
              have e : arr.getD (q * s + j) Go.undef = v := by
                have : arr[q * s + j]? = some v := by simpa using hj
                simp [Array.getD_eq_getD_getElem?, this]
              rw [e] at a2
              exact (a2.atom a1).1
            · have hlt : j < m * s := by
                have := (List.getElem?_eq_some_iff.1 hj).1
                simp at this
                omega
              rw [List.getElem?_take_of_lt hlt, List.getElem?_drop] at hj
              obtain ⟨a1, a2⟩ := hcell _ c0 hj
              refine ⟨a1, ?_⟩
              have e : ((arr.toList.drop (q * s)).take (m * s)).getD j Go.undef = arr.getD (q * s + j) Go.undef := by
                simp only [List.getD_eq_getElem?_getD, Array.getD_eq_getD_getElem?]
                rw [List.getElem?_take_of_lt hlt, List.getElem?_drop]
                simp
              rw [e]
              exact a2
        · cases he
      · cases he
    · cases he
  | _ => cases he
end

section
variable {P : Program} {L : Lay} {ts : List V} {bs : List Bx} {o : Oper}

/-- An operation that writes a box and yields a value. -/
theorem OpOk.writeV {k : Nat} {b b' : Bx} {x : V} (hb : bs[k]? = some b) (hl : b.live = true) (h : ∀ (T : Nat → Prop) φ w a v, Sim T bs φ w → Tm (okOf T bs φ) w φ ts a → φ[k]? = some v → BoxOk (okOf T bs φ) φ w b v → ∃ w' u, (execOp a.eval o).run P w = .ok (.value u) w' ∧
      w'.os = w.os ∧ w'.tape = w.tape ∧ w'.output = w.output ∧ w.heap.size ≤ w'.heap.size ∧ (∀ g, g < w.heap.size → blkOf v ≠ some g → w'.heap[g]? = w.heap[g]?) ∧
      (Ext bs φ w (bs.set k b') φ w' → BoxOk (okOf T (bs.set k b') φ) φ w' b' v ∧ RV (okOf T (bs.set k b') φ) w' φ x u)) :
    OpOk P o (fun ts' bs' => ts' = putV o.dst x ts ∧ bs' = bs.set k b') ts bs := by
  intro T φ w a hs ht K Qx hK
  obtain ⟨v, hv, hbo⟩ := hs.box k b hb
  obtain ⟨w', u, hr, h1, h2, h3, h4, h5, h6⟩ := h T φ w a v hs ht hv hbo
  unfold Oper.wp
  rw [hr]
  have he := ext_set (b' := b') hb hl hv h1 h2 h3 h4 h5
  obtain ⟨h7, h8⟩ := h6 he
  exact hK _ _ _ _ _ ⟨rfl, rfl⟩ he (hs.put hb hl hv he h5 h7) ((ht.ext he).put h8 _)

/-- Cells of a box, some written anew. -/
theorem cells_spl {T : Nat → Prop} {φ : List Value} {w w' : World} {g : Nat} {arr : Array Value} {e : TypeId} {cs l : List V} {vals : List Value} {off k : Nat} (hsz : arr.size = cs.length) (hcell : ∀ (j : Nat) c, cs[j]? = some c → c.atomic = true ∧ RV (okOf T bs φ) w φ c (arr.getD j Go.undef))
    (hll : vals.length = l.length) (hlv : ∀ (j : Nat) c, l[j]? = some c → c.atomic = true ∧ RV (okOf T bs φ) w φ c (vals.getD j Go.undef)) (hb : off + l.length ≤ cs.length) (k2 : w'.heap[g]? = some (.cells (spl arr.toList off vals).toArray e (0, 0)))
    (he : Ext bs φ w (bs.set k (.cells (spl cs off l))) φ w') : BoxOk (okOf T (bs.set k (.cells (spl cs off l))) φ) φ w' (.cells (spl cs off l)) (.pointer (some ⟨g, 0, none⟩)) := by
  have e2 : off + vals.length ≤ arr.toList.length := by simp; omega
  refine ⟨g, _, e, rfl, k2, ?_, fun j c hj => ?_⟩
  · rw [List.size_toArray, spl_length e2, spl_length hb]
    simpa using hsz
  · rw [spl_get hb] at hj
    have hg2 : ∀ u, (spl arr.toList off vals)[j]? = some u → (spl arr.toList off vals).toArray.getD j Go.undef = u := by
      intro u hu
      simp [Array.getD_eq_getD_getElem?, hu]
    by_cases hin : off ≤ j ∧ j < off + l.length
    · rw [if_pos hin] at hj
      obtain ⟨h1, h2⟩ := hlv _ c hj
      refine ⟨h1, ?_⟩
      rw [hg2 (vals.getD (j - off) Go.undef)]
      · exact h2.ext he
      · rw [spl_get e2, if_pos (by omega)]
        have : j - off < vals.length := by omega
        simp [List.getD_eq_getElem?_getD, this]
    · rw [if_neg hin] at hj
      obtain ⟨h1, h2⟩ := hcell _ c hj
      refine ⟨h1, ?_⟩
      rw [hg2 (arr.getD j Go.undef)]
      · exact h2.ext he
      · rw [spl_get e2, if_neg (by omega)]
        have : j < arr.size := by rw [hsz]; exact (List.getElem?_eq_some_iff.1 hj).1
        simp [Array.getD, this]

/-- Cells are copied. -/
theorem op_copyW (hL : LayOk P L) {t t' e sz k q n c len : Nat} {d0 s0 : Operand} {x : V} {cs l : List V} (ho : o.op = .call { callee := .builtin .copy, args := #[d0, s0], argTypes := #[t, t'] }) (hd : evO ts d0 = some (.win k sz q n c)) (hx : evO ts s0 = some x) (hl : L.sl t = some (e, sz)) (hm : lenV bs x = some len) (hsr : srcs bs sz (Nat.min len n) x = some l) (hb : bs[k]? = some (.cells cs)) (hle : (q + n) * sz ≤ cs.length) :
    OpOk P o (fun ts' bs' => ts' = putV o.dst (.val (.int .i64 (Nat.min len n : Nat))) ts ∧ bs' = bs.set k (.cells (spl cs (q * sz) l))) ts bs := by
  refine OpOk.writeV hb rfl fun T φ w a v hs ht hv hbo => ?_
  obtain ⟨g, arr, e', rfl, hh, hsz, hcell⟩ := hbo
  obtain ⟨hu, hinf, hsz0⟩ := hL.sl t e sz hl
  have h1 := evO_sound ht hd
  have h2 := evO_sound ht hx
  generalize hed : a.eval d0 = u1 at h1
  generalize hes : a.eval s0 = u2 at h2
  obtain ⟨A, c2, rfl⟩ := lenV_sound hs h2 hm
  obtain ⟨k1, vals, k2, k3, k4, k5⟩ := srcs_sound (P := P) hs h2 hsr
  cases h1 with
  | win _ _ _ _ _ g' hk hn hmx =>
    obtain rfl : g = g' := by
      have := hv.symm.trans hk
      simpa using this
    have hmin : Nat.min len n ≤ n := Nat.min_le_right _ _
    have hmul : q * sz + Nat.min len n * sz ≤ cs.length := by
      have := Nat.mul_le_mul_right sz (Nat.add_le_add_left hmin q)
      rw [Nat.add_mul] at this
      omega
    obtain ⟨w', s1, s2, s3, s4, s5, s6, s7⟩ := store_cells P g (q * sz) e' vals 0 w arr hh (by rw [k2, hsz]; omega) k4
    refine ⟨w', .int .i64 (Nat.min len n : Nat), ?_, s3, s4, s5, by omega, fun q' hq hne => s7 q' (fun e => hne (by rw [e]; rfl)), fun he => ⟨?_, .val _ rfl⟩⟩
    · cases hq : P.info? e with
      | none => rw [hq] at hinf; cases hinf
      | some inf =>
        rw [hq] at hinf
        have hi2 : inf.size = sz := by simpa using hinf
        have hrun : (Builtin.copy_ #[t, t'] o.type #[.slice (some ⟨g, q * sz, none⟩) n c, .slice A len c2]).run P w = .ok (.int .i64 (Nat.min len n : Nat)) w' := by
          simp [Builtin.copy_, run_underlying hu, Builtin.lenOf, sizeOf, typeInfo, hq, hi2, k3, s1, goInt]
        simp [execOp, ho, resolve, hed, hes, invoke, builtin, hrun, Result.andThen]
    · rw [Nat.add_zero] at s2
      exact cells_spl hsz hcell (by rw [k1, k2]) k5 (by rw [k1]; exact hmul) s2 he

/-- Elements are appended where there is room. -/
theorem op_appW (hL : LayOk P L) {t e sz k q n c m : Nat} {d0 s0 : Operand} {x : V} {cs l : List V} (ho : o.op = .call { callee := .builtin .append, args := #[d0, s0], argTypes := #[t, t] }) (hd : evO ts d0 = some (.win k sz q n c)) (hx : evO ts s0 = some x) (hl : L.sl t = some (e, sz)) (hm : lenV bs x = some m) (hsr : srcs bs sz m x = some l) (hroom : n + m ≤ c) (hb : bs[k]? = some (.cells cs)) (hle : (q + c) * sz ≤ cs.length) :
    OpOk P o (fun ts' bs' => ts' = putV o.dst (.win k sz q (n + m) c) ts ∧ bs' = bs.set k (.cells (spl cs ((q + n) * sz) l))) ts bs := by
  refine OpOk.writeV hb rfl fun T φ w a v hs ht hv hbo => ?_
  obtain ⟨g, arr, e', rfl, hh, hsz, hcell⟩ := hbo
  obtain ⟨hu, hinf, hsz0⟩ := hL.sl t e sz hl
  have h1 := evO_sound ht hd
  have h2 := evO_sound ht hx
  generalize hed : a.eval d0 = u1 at h1
  generalize hes : a.eval s0 = u2 at h2
  obtain ⟨A, c2, rfl⟩ := lenV_sound hs h2 hm
  obtain ⟨k1, vals, k2, k3, k4, k5⟩ := srcs_sound (P := P) hs h2 hsr
  cases h1 with
  | win _ _ _ _ _ g' hk hn hmx =>
    obtain rfl : g = g' := by
      have := hv.symm.trans hk
      simpa using this
    have hmul : (q + n) * sz + m * sz ≤ cs.length := by
      have := Nat.mul_le_mul_right sz (Nat.add_le_add_left hroom q)
      rw [← Nat.add_mul]
      rw [← Nat.add_assoc] at this
      omega
    obtain ⟨w', s1, s2, s3, s4, s5, s6, s7⟩ := store_cells P g ((q + n) * sz) e' vals 0 w arr hh (by rw [k2, hsz]; omega) k4
    refine ⟨w', .slice (some ⟨g, q * sz, none⟩) (n + m) c, ?_, s3, s4, s5, by omega, fun q' hq hne => s7 q' (fun e => hne (by rw [e]; rfl)), fun he => ⟨?_, .win k sz q _ c g hk hroom hmx⟩⟩
    · cases hq : P.info? e with
      | none => rw [hq] at hinf; cases hinf
      | some inf =>
        rw [hq] at hinf
        have hi2 : inf.size = sz := by simpa using hinf
        have ha : (⟨g, q * sz, none⟩ : Addr).add (n * sz) = ⟨g, (q + n) * sz, none⟩ := by rw [add_plain, Nat.add_mul]
        have hrun : (Builtin.append_ #[t, t] o.type #[.slice (some ⟨g, q * sz, none⟩) n c, .slice A m c2]).run P w = .ok (.slice (some ⟨g, q * sz, none⟩) (n + m) c) w' := by
          simp [Builtin.append_, run_underlying hu, Builtin.lenOf, sizeOf, typeInfo, hq, hi2, hroom, k3, ha, s1]
        simp [execOp, ho, resolve, hed, hes, invoke, builtin, hrun, Result.andThen]
    · rw [Nat.add_zero] at s2
      exact cells_spl hsz hcell (by rw [k1, k2]) k5 (by rw [k1]; exact hmul) s2 he
end

end Go.Proofs.YtiefcnghjcafbaaDoorV
