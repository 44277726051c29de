/- The calculus of values: a region in an open order where what is read is read as it lay at the start; slices built there are made fast at once; calls that hand over a new array. -/
import Derived.Test.YtiefcnghjcafbaaDoorV17
namespace Go.Proofs.YtiefcnghjcafbaaDoorV
open Go Go.RowKit

section
variable {P : Program} {L : Lay} {C : CallT} {ts : List V} {bs : List Bx} {o : Oper}

/-- An operation that makes what no box holds. -/
theorem OpOk.fresh {x : V} (h : ∀ (T : Nat → Prop) φ w a, Sim T bs φ w → Tm (okOf T bs φ) w φ ts a → ∃ v w', (execOp a.eval o).run P w = .ok (.value v) w' ∧ Below w.heap.size w w' ∧ (Ext bs φ w bs φ w' → RV (okOf T bs φ) w' φ x v)) :
    OpOk P o (fun ts' bs' => ts' = putV o.dst x ts ∧ bs' = bs) ts bs := by
  intro T φ w a hs ht K Qx hK
  obtain ⟨v, w', hr, hw, hb⟩ := h T φ w a hs ht
  unfold Oper.wp
  rw [hr]
  have he : Ext bs φ w bs φ w' := ⟨hw.os, hw.tape, hw.output, hw.size, fun _ _ h => h, fun g hg _ => hw.block g hg, fun g hg => .inl hg⟩
  have hs' : Sim T bs φ w' := hs.step he hs.inj hs.len fun k b hb => .inl ⟨hb, fun hl v g hv hg => hw.block g (mine_lt hs ⟨k, b, v, hb, hl, hv, hg⟩)⟩
  exact hK _ _ _ _ _ ⟨rfl, rfl⟩ he hs' ((ht.ext he).put (hb he) _)

/-- A slice is built that nobody will write. -/
theorem op_rowsF (hL : LayOk P L) {t e sz n : Nat} {ps : Array (Nat × Operand)} {zs res : List V} {vs : List (Nat × V)} {l : List S} (ho : o.op = .buildSlice t n ps) (hp : evPs ts ps.toList = some vs) (hl : L.sl t = some (e, sz)) (hz : L.zero e = some zs)
    (hf : fillV (fun i => some (i * sz, sz)) (List.replicate n zs).flatten vs = some res) (hd : downs res = some l) (hzs : zs.length = sz) (hll : l.length = n * sz) (hn : n * sz ≤ 16777216) :
    OpOk P o (fun ts' bs' => ts' = putV o.dst (.sl (chunk sz n l)) ts ∧ bs' = bs) ts bs := by
  refine OpOk.fresh fun T φ w a hs ht => ?_
  obtain ⟨hu, hinf, hsz0⟩ := hL.sl t e sz hl
  obtain ⟨i, z, h1, h2, hzc⟩ := zero_cells hL hz
  have hisz : i.size = sz := by rw [h1] at hinf; simpa using hinf
  obtain ⟨k1, k2⟩ := evPs_sound ht hp
  have hsize : (sizeOf e).run P w = .ok sz w := by simp [sizeOf, typeInfo, h1, hisz]
  have hzr := hzc (okOf T bs φ) w φ
  have hzl : z.cells.size = sz := by rw [hzr.1, hzs]
  have hzrc : RCs (okOf T bs φ) w φ (List.replicate n zs).flatten ((Array.range (n * sz)).map fun q => z.cells[q % z.cells.size]!) := by
    refine ⟨by simp [hzs], fun q c hq => ?_⟩
    have h3 := rep_get zs n q c hq
    rw [hzs] at h3
    have hqn : q < n * sz := by
      have := (List.getElem?_eq_some_iff.1 hq).1
      simpa [hzs] using this
    obtain ⟨k3, k4⟩ := hzr.2 _ c h3
    refine ⟨k3, ?_⟩
    have hm : q % sz < z.cells.size := by rw [hzl]; exact Nat.mod_lt _ hsz0
    have e : ((Array.range (n * sz)).map fun q => z.cells[q % z.cells.size]!).getD q Go.undef = z.cells.getD (q % sz) Go.undef := by
      simp [Array.getD_eq_getD_getElem?, hqn, hzl]
      rw [getElem!_pos z.cells (q % sz) hm, getElem?_pos z.cells (q % sz) hm]
      rfl
    rw [e]
    exact k4
  obtain ⟨ra, hra, hrc⟩ := fill_sound vs (ps.toList.map fun q => (q.1, a.eval q.2)) _ res _ hzrc (by simp [k1]) k2 hf
  obtain ⟨hras, hrad⟩ := hrc.downs hd
  refine ⟨.slice (some ⟨w.heap.size, 0, none⟩) n n, w.alloc (.cells ra e), ?_, below_alloc1 w _, fun he => .sl _ _ ?_⟩
  · have hnot : ¬ (n * sz > 2 ^ 24) := by omega
    by_cases hn0 : n * sz = 0
    · have hra' : Instr.fill (fun i => some (i * sz, sz)) #[] (ps.toList.map fun q => (q.1, a.eval q.2)) = some ra := by
        rw [← hra, hn0, show ((Array.range 0).map fun q => z.cells[q % z.cells.size]!) = (#[] : Array Value) from Array.eq_empty_of_size_eq_zero (by simp)]
      have hrun : (Instr.buildSlice t n (ps.map fun q => (q.1, a.eval q.2))).run P w = .ok (.slice (some ⟨w.heap.size, 0, none⟩) n n) (w.alloc (.cells ra e)) := by
        simp only [Instr.buildSlice, Sem.run_bind, run_underlying hu, hsize, Result.andThen_ok]
        rw [if_neg hnot, if_pos hn0]
        have er : (Array.map (fun _ : Nat => (default : Value)) (Array.range 0)) = #[] := Array.eq_empty_of_size_eq_zero (by simp)
        simp [hra', newRow, hn0, er]
      simp [execOp, ho, hrun]
    · have hrun : (Instr.buildSlice t n (ps.map fun q => (q.1, a.eval q.2))).run P w = .ok (.slice (some ⟨w.heap.size, 0, none⟩) n n) (w.alloc (.cells ra e)) := by
        simp only [Instr.buildSlice, Sem.run_bind, run_underlying hu, hsize, Result.andThen_ok]
        rw [if_neg hnot, if_neg hn0]
        simp [zeroValue, typeInfo, h1, h2, hra, newRow]
      simp [execOp, ho, hrun]
  · by_cases h0 : n = 0
    · subst h0
      exact .nil _ 0 (Nat.zero_le _)
    · have hlt : w.heap.size < (w.alloc (.cells ra e)).heap.size := (Array.getElem?_eq_some_iff.1 (heap_alloc_new w (.cells ra e))).1
      have h1 := RS.cons (ok := okOf T bs φ) (w := w.alloc (.cells ra e)) (chunk sz n l) ⟨w.heap.size, 0, none⟩ n sz (fun i j => ra.getD (i * sz + j) Go.undef) (fun e => h0 (by have := congrArg List.length e; rwa [chunk_length] at this)) (fun x hx => ?_) (by rw [chunk_length]; exact Nat.le_refl _) (by
          simp only [maxLen]
          have := Nat.le_mul_of_pos_right n hsz0
          omega) ⟨fun ht => Nat.lt_irrefl _ (hs.tb _ ht), fun hm => Nat.lt_irrefl _ (mine_lt hs hm)⟩ hlt (fun i x j y hi hj => ?_) (fun i x j y hi hj => ?_)
      · rwa [chunk_length] at h1
      · obtain ⟨i', hi'⟩ := List.mem_iff_getElem?.1 hx
        exact (chunk_get hll hi').2.1
      · obtain ⟨_, _, h5⟩ := chunk_get hll hi
        have h6 := (List.getElem?_eq_some_iff.1 (h5 j y hj)).1
        rw [add_plain, cell_of (heap_alloc_new w _)]
        simp [Array.getD, show i * sz + j < ra.size by omega]
      · obtain ⟨_, _, h5⟩ := chunk_get hll hi
        exact (hrad _ y (h5 j y hj)).ext he
end

end Go.Proofs.YtiefcnghjcafbaaDoorV
