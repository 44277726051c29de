/- The calculus of values: windows on arrays of the call's own: slices with a known room. -/
import Derived.Test.YtiefcnghjcafbaaDoorV12
namespace Go.Proofs.YtiefcnghjcafbaaDoorV
open Go Go.RowKit

section
variable {P : Program} {L : Lay} {ts : List V} {bs : List Bx} {o : Oper}

/-- How long a slice is. -/
theorem op_lenW (hL : LayOk P L) {t e m : Nat} {x0 : Operand} {k sz q n c : Nat} (ho : o.op = .call { callee := .builtin .len, args := #[x0], argTypes := #[t] }) (hx : evO ts x0 = some (.win k sz q n c)) (hl : L.sl t = some (e, m)) :
    OpOk P o (fun ts' bs' => ts' = putV o.dst (.val (.int .i64 n)) ts ∧ bs' = bs) ts bs := by
  refine OpOk.value fun T φ w a hs ht => ⟨_, ?_, .val _ rfl⟩
  have h1 := evO_sound ht hx
  obtain ⟨hu, _⟩ := hL.sl t e m hl
  generalize he : a.eval x0 = u at h1
  cases h1 with
  | win _ _ _ _ _ g hk hn hm => simp [execOp, ho, resolve, he, invoke, builtin, Builtin.len_, run_underlying hu, goInt, Result.andThen]

theorem op_capW (hL : LayOk P L) {t e m : Nat} {x0 : Operand} {k sz q n c : Nat} (ho : o.op = .call { callee := .builtin .cap, args := #[x0], argTypes := #[t] }) (hx : evO ts x0 = some (.win k sz q n c)) (hl : L.sl t = some (e, m)) :
    OpOk P o (fun ts' bs' => ts' = putV o.dst (.val (.int .i64 c)) ts ∧ bs' = bs) ts bs := by
  refine OpOk.value fun T φ w a hs ht => ⟨_, ?_, .val _ rfl⟩
  have h1 := evO_sound ht hx
  obtain ⟨hu, _⟩ := hL.sl t e m hl
  generalize he : a.eval x0 = u at h1
  cases h1 with
  | win _ _ _ _ _ g hk hn hm => simp [execOp, ho, resolve, he, invoke, builtin, Builtin.cap_, run_underlying hu, goInt, Result.andThen]

/-- Bounds of a cut. -/
theorem run_cut {P : Program} {w : World} {len cap l h : Nat} {lo hi : Option Value} (hlo : match lo with | none => l = 0 | some v => ∃ k, v = .int k l) (hhi : match hi with | none => h = len | some v => ∃ k, v = .int k h) (h1 : l ≤ h) (h2 : h ≤ cap) :
    (Instr.sliceBounds true len cap lo hi none).run P w = .ok (l, h, cap) w := by
  cases lo <;> cases hi <;> simp only at hlo hhi
  · subst hlo hhi
    simp [Instr.sliceBounds]
  · obtain ⟨k, rfl⟩ := hhi
    subst hlo
    simp [Instr.sliceBounds, Instr.sliceBound, asIntOf, h2]
  · obtain ⟨k, rfl⟩ := hlo
    subst hhi
    simp [Instr.sliceBounds, Instr.sliceBound, asIntOf, h1]
  · obtain ⟨k, rfl⟩ := hlo
    obtain ⟨k', rfl⟩ := hhi
    simp [Instr.sliceBounds, Instr.sliceBound, asIntOf, h1, h2]

theorem run_sliceAt (hL : LayOk P L) {t e sz : Nat} (hl : L.sl t = some (e, sz)) {A : Option Addr} {len cap l h : Nat} {lo hi : Option Value} {w : World} (hlo : match lo with | none => l = 0 | some v => ∃ k, v = .int k l) (hhi : match hi with | none => h = len | some v => ∃ k, v = .int k h) (h1 : l ≤ h) (h2 : h ≤ cap) :
    (Instr.sliceAt t (.slice A len cap) lo hi none).run P w = .ok (.slice (if cap = l then A else A.map (·.add (l * sz))) (h - l) (cap - l)) w := by
  obtain ⟨hu, hi0, _⟩ := hL.sl t e sz hl
  cases hq : P.info? e with
  | none => rw [hq] at hi0; cases hi0
  | some inf =>
    rw [hq] at hi0
    have hi2 : inf.size = sz := by simpa using hi0
    simp [Instr.sliceAt, Instr.slice, run_underlying hu, run_cut hlo hhi h1 h2, sizeOf, typeInfo, hq, hi2]

/-- Operands of bounds. -/
def Bd (ts : List V) (q : Option Operand) (d n : Nat) : Prop := match q with
  | none => n = d
  | some q => ∃ k, evO ts q = some (.val (.int k n))
theorem Bd.val {ok : Nat → Prop} {w : World} {φ : List Value} {a : Act} (ht : Tm ok w φ ts a) {q : Option Operand} {d n : Nat} (h : Bd ts q d n) : match q.map a.eval with | none => n = d | some v => ∃ k, v = .int k n := by
  cases q with
  | none => exact h
  | some q =>
    obtain ⟨k, hk⟩ := h
    exact ⟨k, RV.bool_of (evO_sound ht hk)⟩

/-- A window is cut. -/
theorem op_cutW (hL : LayOk P L) {t e k sz q n c l h : Nat} {x0 : Operand} {lo hi : Option Operand} (ho : o.op = .slice t x0 lo hi none) (hx : evO ts x0 = some (.win k sz q n c)) (hl : L.sl t = some (e, sz)) (hlo : Bd ts lo 0 l) (hhi : Bd ts hi n h) (h1 : l ≤ h) (h2 : h ≤ c) :
    OpOk P o (fun ts' bs' => ts' = putV o.dst (if c = l then .win k sz q (h - l) (c - l) else .win k sz (q + l) (h - l) (c - l)) ts ∧ bs' = bs) ts bs := by
  refine OpOk.value fun T φ w a hs ht => ?_
  have h3 := evO_sound ht hx
  generalize he : a.eval x0 = u at h3
  cases h3 with
  | win _ _ _ _ _ g hk hn hm =>
    refine ⟨.slice (if c = l then some ⟨g, q * sz, none⟩ else some ⟨g, (q + l) * sz, none⟩) (h - l) (c - l), ?_, ?_⟩
    · have hr := run_sliceAt hL hl (A := some ⟨g, q * sz, none⟩) (len := n) (cap := c) (w := w) (hlo.val ht) (hhi.val ht) h1 h2
      simp [execOp, ho, he, hr, add_plain, Nat.add_mul]
    · split
      · exact .win k sz q _ _ g hk (by omega) (by omega)
      · exact .win k sz (q + l) _ _ g hk (by omega) (by omega)

/-- A slice that does not change is cut. -/
theorem op_cutL (hL : LayOk P L) {t e sz l h : Nat} {x0 : Operand} {lo hi : Option Operand} {xs : List (List S)} (ho : o.op = .slice t x0 lo hi none) (hx : evO ts x0 = some (.sl xs)) (hl : L.sl t = some (e, sz)) (hlo : Bd ts lo 0 l) (hhi : Bd ts hi xs.length h) (h1 : l ≤ h) (h2 : h ≤ xs.length) (hsz : ∀ x ∈ xs, x.length = sz) :
    OpOk P o (fun ts' bs' => ts' = putV o.dst (.sl ((xs.take h).drop l)) ts ∧ bs' = bs) ts bs := by
  refine OpOk.value fun T φ w a hs ht => ?_
  have h3 := evO_sound ht hx
  generalize he : a.eval x0 = u at h3
  have hlen : ((xs.take h).drop l).length = h - l := by simp; omega
  cases h3 with
  | sl _ _ hr =>
    cases hr with
    | nil A c hc =>
      have : h = 0 := by simpa using h2
      subst this
      obtain rfl : l = 0 := by omega
      have hr := run_sliceAt hL hl (A := A) (len := 0) (cap := c) (w := w) (hlo.val ht) (hhi.val ht) h1 (Nat.zero_le _)
      exact ⟨.slice (if c = 0 then A else A.map (·.add (0 * sz))) (0 - 0) (c - 0), by simp only [execOp, ho, he, Sem.run_bind, Option.map_none, hr, Result.andThen_ok]; rfl, .sl _ _ (.nil _ c hc)⟩
    | cons _ ad c sz' f h0 hs' hc hm hok hlt hcell hrr =>
      obtain rfl : sz' = sz := by
        match xs, h0 with
        | y :: r, _ => exact (hs' y List.mem_cons_self).symm.trans (hsz y List.mem_cons_self)
      have hr := run_sliceAt hL hl (A := some ad) (len := xs.length) (cap := c) (w := w) (hlo.val ht) (hhi.val ht) h1 (by omega)
      refine ⟨_, by simp [execOp, ho, he, hr]; rfl, ?_⟩
      by_cases hz : h = l
      · have hnil : (xs.take h).drop l = [] := List.eq_nil_of_length_eq_zero (by rw [hlen]; omega)
        rw [hnil, show h - l = 0 by omega]
        exact .sl _ _ (.nil _ _ (by omega))
      · rw [if_neg (by omega)]
        have hget : ∀ i, i < h - l → ((xs.take h).drop l)[i]? = xs[l + i]? := fun i hi => by
          rw [List.getElem?_drop, List.getElem?_take_of_lt (by omega)]
        have hin : ∀ (i : Nat) x, ((xs.take h).drop l)[i]? = some x → xs[l + i]? = some x := fun i x hi => by
          have : i < h - l := by rw [← hlen]; exact (List.getElem?_eq_some_iff.1 hi).1
          rwa [hget i this] at hi
        have := RS.cons (ok := okOf T bs φ) (w := w) ((xs.take h).drop l) (ad.add (l * sz')) (c - l) sz' (fun i j => f (l + i) j) (fun e => by rw [e] at hlen; simp at hlen; omega)
          (fun x hx => hs' x (List.mem_of_mem_take (List.mem_of_mem_drop hx))) (by rw [hlen]; omega) (by omega) (by rw [add_block]; exact hok) (by rw [add_block]; exact hlt)
          (fun i x j y hi hj => by
            have := hcell (l + i) x j y (hin i x hi) hj
            rw [add_add]
            rwa [show l * sz' + (i * sz' + j) = (l + i) * sz' + j by rw [Nat.add_mul]; omega])
          (fun i x j y hi hj => hrr (l + i) x j y (hin i x hi) hj)
        rw [hlen] at this
        exact .sl _ _ this

/-- An array with room. -/
theorem op_makeS (hL : LayOk P L) {t e sz b n c : Nat} {k1 k2 : IntKind} {ln cp : Operand} {zs : List V} (ho : o.op = .makeSlice t ln cp) (hx : evO ts ln = some (.val (.int k1 n))) (hy : evO ts cp = some (.val (.int k2 c))) (hl : L.sl t = some (e, sz)) (hb : L.byt e = some b) (hz : L.zero e = some zs) (hzs : zs.length = sz) (hn : n ≤ c) (hc : c ≤ 140737488355328) (hcb : c * b ≤ 140737488355328) :
    OpOk P o (fun ts' bs' => ts' = putV o.dst (.win bs.length sz 0 n c) ts ∧ bs' = bs ++ [.cells (List.replicate c zs).flatten]) ts bs := by
  refine OpOk.make fun T φ w a hs ht => ?_
  obtain ⟨hu, hinf, hsz0⟩ := hL.sl t e sz hl
  obtain ⟨i, z, h1, h2, hzc⟩ := zero_cells hL hz
  obtain ⟨i', z', h1', h2', hby, _⟩ := hL.byt e b hb
  have hii : i = i' := Option.some.inj (h1.symm.trans h1')
  subst hii
  have hisz : i.size = sz := by rw [h1] at hinf; simpa using hinf
  have hzr := hzc (okOf T bs φ) w φ
  have hzl : z.cells.size = sz := by rw [hzr.1, hzs]
  have hxv := RV.bool_of (evO_sound ht hx)
  have hyv := RV.bool_of (evO_sound ht hy)
  have hlφ : (φ ++ [Value.pointer (some ⟨w.heap.size, 0, none⟩)])[bs.length]? = some (.pointer (some ⟨w.heap.size, 0, none⟩)) := by rw [← hs.len]; simp
  have wn : IntKind.i64.wrap (n : Int) = n := by
    unfold IntKind.wrap
    simp [IntKind.bits, IntKind.signed]
    omega
  have wc : IntKind.i64.wrap (c : Int) = c := by
    unfold IntKind.wrap
    simp [IntKind.bits, IntKind.signed]
    omega
  have hcb2 : ¬ ((b : Int) * c > 2 ^ 48) := by
    have : c * b ≤ 140737488355328 := hcb
    rw [Nat.mul_comm] at this
    have h48 : (2 : Int) ^ 48 = 281474976710656 := by decide
    rw [h48]
    have h5 : ((b * c : Nat) : Int) ≤ 140737488355328 := Int.ofNat_le.2 this
    rw [Int.natCast_mul] at h5
    omega
  have harr : (if c * sz = 0 then (pure #[] : Sem (Array Value)) else do pure (← zeroValue e).cells).run P w = .ok (if c * sz = 0 then #[] else z.cells) w := by
    split
    · rfl
    · simp [zeroValue, typeInfo, h1, h2]
  refine ⟨.slice (some ⟨w.heap.size, 0, none⟩) n c, .pointer (some ⟨w.heap.size, 0, none⟩), w.alloc (.cells ((Array.range (c * sz)).map ((if c * sz = 0 then #[] else z.cells)[· % (if c * sz = 0 then #[] else z.cells).size]!)) e), ?_, below_alloc1 w _, fun g hg => ?_, fun he => ⟨⟨w.heap.size, _, e, rfl, heap_alloc_new w _, by simp [hzs], fun j c0 hj => ?_⟩, ?_⟩⟩
  · have hroom : ¬ (c * i.bytes > roomBytes) := by
      rw [hby]
      simp only [roomBytes]
      omega
    have hlow : ¬ ((n : Int) < 0) := by omega
    have hclow : ¬ ((c : Int) < 0) := by omega
    have hlc : ¬ ((n : Int) > c) := by omega
    have hrun : (Instr.makeSlice t (.int k1 n) (.int k2 c)).run P w = .ok (.slice (some ⟨w.heap.size, 0, none⟩) n c) (w.alloc (.cells ((Array.range (c * sz)).map ((if c * sz = 0 then #[] else z.cells)[· % (if c * sz = 0 then #[] else z.cells).size]!)) e)) := by
      have hb2 : ¬ (281474976710656 < (i.bytes : Int) * c) := by
        have h48 : (2 : Int) ^ 48 = 281474976710656 := by decide
        rw [hby, ← h48]
        exact hcb2
      simp only [Instr.makeSlice, Sem.run_bind, run_underlying hu, Result.andThen_ok]
      by_cases h0 : c * sz = 0
      · simp [asInt, asIntOf, typeInfo, h1, wn, wc, hlow, hclow, hlc, hb2, askRoom, hroom, sizeOf, hisz, h0, newRow]
      · simp [asInt, asIntOf, typeInfo, h1, h2, wn, wc, hlow, hclow, hlc, hb2, askRoom, hroom, sizeOf, hisz, h0, newRow, zeroValue]
    simp [execOp, ho, hxv, hyv, hrun]
  · obtain rfl : w.heap.size = g := by simpa [blkOf] using hg
    exact Nat.le_refl _
  · have hjn : j < c * sz := by
      have := (List.getElem?_eq_some_iff.1 hj).1
      simpa [hzs] using this
    have h3 := rep_get zs c j c0 hj
    rw [hzs] at h3
    obtain ⟨k3, k4⟩ := hzr.2 _ c0 h3
    refine ⟨k3, ?_⟩
    have hm : j % sz < z.cells.size := by rw [hzl]; exact Nat.mod_lt _ hsz0
    have hne : c * sz ≠ 0 := by omega
    have e1 : ((Array.range (c * sz)).map ((if c * sz = 0 then #[] else z.cells)[· % (if c * sz = 0 then #[] else z.cells).size]!)).getD j Go.undef = z.cells.getD (j % sz) Go.undef := by
      simp only [if_neg hne]
      simp [Array.getD_eq_getD_getElem?, hjn, hzl]
      rw [getElem!_pos z.cells (j % sz) hm, getElem?_pos z.cells (j % sz) hm]
      rfl
    rw [e1]
    exact k4.ext he
  · have := RV.win (ok := okOf T (bs ++ [.cells (List.replicate c zs).flatten]) (φ ++ [Value.pointer (some ⟨w.heap.size, 0, none⟩)])) (w := w.alloc (.cells ((Array.range (c * sz)).map ((if c * sz = 0 then #[] else z.cells)[· % (if c * sz = 0 then #[] else z.cells).size]!)) e)) bs.length sz 0 n c w.heap.size hlφ hn (by simp only [maxLen]; omega)
    simpa using this
end

end Go.Proofs.YtiefcnghjcafbaaDoorV
