/- The calculus of values, eighth text: structs and slices built, appended to, cut; strings cut. -/
import Derived.Maps.AppendAt
import Derived.Test.YtiefcnghjcafbaaDoorV7
namespace Go.Proofs.YtiefcnghjcafbaaDoorV
open Go Go.RowKit

theorem fold_set (off : Nat) : ∀ (vs : List Value) (k : Nat) (cs : Array Value), off + k + vs.length ≤ cs.size →
    (vs.zipIdx k).foldl (fun (cs : Array Value) (x : Value × Nat) => cs.setIfInBounds (off + x.2) x.1) cs = (spl cs.toList (off + k) vs).toArray
  | [], k, cs, _ => by simp [spl]
  | v :: vs, k, cs, h => by
    rw [List.zipIdx_cons, List.foldl_cons, fold_set off vs (k + 1) _ (by simp at h ⊢; omega)]
    congr 1
    apply List.ext_getElem?
    intro j
    have e1 : off + (k + 1) + vs.length ≤ (cs.setIfInBounds (off + k) v).toList.length := by simp at h ⊢; omega
    have e2 : off + k + (v :: vs).length ≤ cs.toList.length := by simpa using h
    rw [spl_get e1, spl_get e2]
    by_cases hj : j = off + k
    · subst hj
      have hlt : off + k < cs.size := by simp at h; omega
      rw [if_neg (by omega), if_pos (by simp)]
      simp [hlt]
    · by_cases hj2 : off + k ≤ j ∧ j < off + k + (v :: vs).length
      · rw [if_pos (by simp at hj2 ⊢; omega), if_pos hj2]
        obtain ⟨m, hm⟩ : ∃ m, j - (off + k) = m + 1 := ⟨j - (off + k) - 1, by omega⟩
        rw [hm, List.getElem?_cons_succ]
        congr 1
        omega
      · rw [if_neg (by simp at hj2 ⊢; omega), if_neg hj2]
        simp only [Array.toList_setIfInBounds]
        rw [List.getElem?_set_ne (by omega)]

def fillV (place : Nat → Option (Nat × Nat)) (zs : List V) : List (Nat × V) → Option (List V)
  | [] => some zs
  | (i, x) :: r => match place i, x.cs with
    | some (off, n), some cs => if cs.length = n ∧ off + n ≤ zs.length then fillV place (spl zs off cs) r else none
    | _, _ => none

theorem RCs.spl {ok : Nat → Prop} {w : World} {φ : List Value} {zs cs : List V} {za ca : Array Value} (h : RCs ok w φ zs za) (hc : RCs ok w φ cs ca) {off : Nat} (hb : off + cs.length ≤ zs.length) : RCs ok w φ (spl zs off cs) (spl za.toList off ca.toList).toArray := by
  have e2 : off + ca.toList.length ≤ za.toList.length := by simp [hc.1, h.1]; exact hb
  refine ⟨by rw [List.size_toArray, spl_length e2, spl_length hb]; simpa using h.1, fun j c hj => ?_⟩
  rw [spl_get hb] at hj
  have hg2 : ∀ u, (Go.Proofs.YtiefcnghjcafbaaDoorV.spl za.toList off ca.toList)[j]? = some u → (Go.Proofs.YtiefcnghjcafbaaDoorV.spl za.toList off ca.toList).toArray.getD j Go.undef = u := by
    intro u hu
    simp [Array.getD_eq_getD_getElem?, hu]
  by_cases hin : off ≤ j ∧ j < off + cs.length
  · rw [if_pos hin] at hj
    obtain ⟨h1, h2⟩ := hc.2 _ c hj
    refine ⟨h1, ?_⟩
    rw [hg2 (ca.getD (j - off) Go.undef)]
    · exact h2
    · rw [spl_get e2, if_pos (by simp [hc.1]; exact hin)]
      have : j - off < ca.size := by rw [hc.1]; omega
      simp [Array.getD, this]
  · rw [if_neg hin] at hj
    obtain ⟨h1, h2⟩ := h.2 _ c hj
    refine ⟨h1, ?_⟩
    rw [hg2 (za.getD j Go.undef)]
    · exact h2
    · rw [spl_get e2, if_neg (by simp [hc.1]; simpa using hin)]
      have : j < za.size := by rw [h.1]; exact (List.getElem?_eq_some_iff.1 hj).1
      simp [Array.getD, this]

theorem fill_sound {ok : Nat → Prop} {w : World} {φ : List Value} {place : Nat → Option (Nat × Nat)} : ∀ (ps : List (Nat × V)) (vs : List (Nat × Value)) (zs res : List V) (za : Array Value), RCs ok w φ zs za →
    ps.length = vs.length → (∀ (k : Nat) p v, ps[k]? = some p → vs[k]? = some v → p.1 = v.1 ∧ RV ok w φ p.2 v.2) → fillV place zs ps = some res → ∃ ra, Instr.fill place za vs = some ra ∧ RCs ok w φ res ra
  | [], [], zs, res, za, hz, _, _, h => by
    obtain rfl := Option.some.inj h
    exact ⟨za, rfl, hz⟩
  | [], _ :: _, _, _, _, _, hl, _, _ => by cases hl
  | _ :: _, [], _, _, _, _, hl, _, _ => by cases hl
  | (i, x) :: ps, (i', v) :: vs, zs, res, za, hz, hl, hp, h => by
    obtain ⟨rfl, hr⟩ := hp 0 _ _ rfl rfl
    simp only at hr
    unfold fillV at h
    split at h
    · rename_i off n cs h1 h2
      split at h
      · rename_i h3
        have hc := hr.cells h2
        obtain ⟨ra, k1, k2⟩ := fill_sound ps vs _ res _ (hz.spl hc (by omega)) (by simpa using hl) (fun k p u hk hu => hp (k + 1) p u (by simpa using hk) (by simpa using hu)) h
        refine ⟨ra, ?_, k2⟩
        have hsz : v.cells.size = n := by rw [hc.1]; exact h3.1
        unfold Instr.fill
        simp only [h1]
        rw [if_neg (by simp [hsz, hz.1]; omega)]
        have := fold_set off v.cells.toList 0 za (by simp [hz.1]; omega)
        rw [← k1]
        congr 1
        rw [← Array.foldl_toList, Array.toList_zipIdx]
        simpa using this
      · cases h
    · cases h

section
variable {P : Program} {L : Lay} {ts : List V} {bs : List Bx} {o : Oper}

def evPs (ts : List V) : List (Nat × Operand) → Option (List (Nat × V))
  | [] => some []
  | (i, x) :: r => match evO ts x, evPs ts r with
    | some v, some l => some ((i, v) :: l)
    | _, _ => none

theorem evPs_sound {ok : Nat → Prop} {w : World} {φ : List Value} {a : Act} (ht : Tm ok w φ ts a) : ∀ {ps : List (Nat × Operand)} {l : List (Nat × V)}, evPs ts ps = some l →
    l.length = ps.length ∧ ∀ (k : Nat) p v, l[k]? = some p → (ps.map fun q => (q.1, a.eval q.2))[k]? = some v → p.1 = v.1 ∧ RV ok w φ p.2 v.2
  | [], l, h => by
    obtain rfl := Option.some.inj h
    exact ⟨rfl, fun k p v hk => by simp at hk⟩
  | (i, x) :: r, l, h => by
    unfold evPs at h
    split at h
    · rename_i v l' h1 h2
      obtain rfl := Option.some.inj h
      obtain ⟨k1, k2⟩ := evPs_sound ht h2
      refine ⟨by simp [k1], fun k p u hk hu => ?_⟩
      cases k with
      | zero =>
        obtain rfl : (i, v) = p := by simpa using hk
        obtain rfl : (i, a.eval x) = u := by simpa using hu
        exact ⟨rfl, evO_sound ht h1⟩
      | succ k => exact k2 k p u (by simpa using hk) (by simpa using hu)
    · cases h

theorem zero_cells (hL : LayOk P L) {t : TypeId} {zs : List V} (h : L.zero t = some zs) : ∃ i z, P.info? t = some i ∧ i.zero = some z ∧ ∀ (ok : Nat → Prop) w φ, RCs ok w φ zs z.cells := by
  obtain ⟨i, z, h1, h2, h3⟩ := hL.zero t zs h
  have hlen : z.cells.size = zs.length := by
    have := congrArg List.length h3
    simpa using this
  refine ⟨i, z, h1, h2, fun ok w φ => ⟨hlen, fun j c hj => ?_⟩⟩
  have hj2 : j < z.cells.size := by rw [hlen]; exact (List.getElem?_eq_some_iff.1 hj).1
  have h4 : conV (z.cells.getD j Go.undef) = some c := by
    have := congrArg (fun l => l[j]?) h3
    simp only [List.getElem?_map, hj, Option.map_some] at this
    rw [show z.cells.toList[j]? = some z.cells[j] by simp [hj2]] at this
    simpa [Array.getD, hj2] using this
  exact ⟨conV_atomic h4, conV_sound h4⟩

/-- A struct is built. -/
theorem op_build (hL : LayOk P L) {t : TypeId} {ps : Array (Nat × Operand)} {l : List (Nat × Nat)} {zs res : List V} {vs : List (Nat × V)} (ho : o.op = .build t ps) (hp : evPs ts ps.toList = some vs) (hl : L.off t = some l) (hz : L.zero t = some zs) (hf : fillV (l[·]?) zs vs = some res) :
    OpOk P o (fun ts' bs' => ts' = putV o.dst (.agg res) ts ∧ bs' = bs) ts bs := by
  refine OpOk.value fun T φ w a hs ht => ?_
  obtain ⟨i, z, h1, h2, hzc⟩ := zero_cells hL hz
  obtain ⟨fs, hu, hfs⟩ := hL.off t l hl
  obtain ⟨k1, k2⟩ := evPs_sound ht hp
  obtain ⟨ra, hra, hrc⟩ := fill_sound vs (ps.toList.map fun q => (q.1, a.eval q.2)) zs res z.cells (hzc _ w φ) (by simp [k1]) k2 hf
  refine ⟨.agg ra, ?_, .agg res ra hrc.1.symm (fun c hc => ?_) (fun i c hi => (hrc.2 i c hi).2)⟩
  · have hb : P.built t (ps.map fun q => (q.1, a.eval q.2)).toList = some ra := by
      unfold Program.built
      have hm : fs.toList.mapM (fun f => (P.info? f.type).map fun i => (f.offset, i.size)) = some l := by
        have : ∀ (fl : List Field) (l : List (Nat × Nat)), (fl.map fun f => (P.info? f.type).map fun i => (f.offset, i.size)) = l.map some → fl.mapM (fun f => (P.info? f.type).map fun i => (f.offset, i.size)) = some l := by
          intro fl
          induction fl with
          | nil => intro l h; cases l <;> simp_all
          | cons f fl ih =>
            intro l h
            cases l with
            | nil => simp at h
            | cons q l =>
              simp only [List.map_cons, List.cons.injEq] at h
              rw [List.mapM_cons, h.1, ih l h.2]
              rfl
        exact this _ _ hfs
      simp only [h1, hu, h2, hm]
      simpa using hra
    have := run_build (P := P) w t _ ra hb
    simp only [execOp, ho, Sem.run_bind, this, Result.andThen, Sem.run_pure]
  · obtain ⟨j, hj⟩ := List.mem_iff_getElem?.1 hc
    exact (hrc.2 j c hj).1

def chunk (sz n : Nat) (l : List S) : List (List S) := (List.range n).map fun i => (l.drop (i * sz)).take sz

theorem chunk_get {sz n : Nat} {l : List S} (hl : l.length = n * sz) {i : Nat} {x : List S} (hx : (chunk sz n l)[i]? = some x) : i < n ∧ x.length = sz ∧ ∀ j y, x[j]? = some y → l[i * sz + j]? = some y := by
  have hi : i < n := by
    have := (List.getElem?_eq_some_iff.1 hx).1
    simpa [chunk] using this
  simp only [chunk, List.getElem?_map, List.getElem?_range hi, Option.map_some, Option.some.injEq] at hx
  subst hx
  have h1 : i * sz + sz ≤ n * sz := by
    have := Nat.mul_le_mul_right sz hi
    rwa [Nat.succ_mul] at this
  refine ⟨hi, by simp; omega, fun j y hj => ?_⟩
  have hjs : j < sz := by
    have := (List.getElem?_eq_some_iff.1 hj).1
    simp at this
    omega
  rw [List.getElem?_take_of_lt hjs, List.getElem?_drop] at hj
  exact hj

theorem chunk_length {sz n : Nat} {l : List S} : (chunk sz n l).length = n := by simp [chunk]

theorem rep_get {α : Type} (zs : List α) : ∀ (n q : Nat) c, (List.replicate n zs).flatten[q]? = some c → zs[q % zs.length]? = some c
  | 0, q, c, h => by simp at h
  | n + 1, q, c, h => by
    rw [List.replicate_succ, List.flatten_cons] at h
    by_cases hq : q < zs.length
    · rw [List.getElem?_append_left hq] at h
      rwa [Nat.mod_eq_of_lt hq]
    · rw [List.getElem?_append_right (by omega)] at h
      have := rep_get zs n _ c h
      rwa [Nat.mod_eq_sub_mod (by omega)]

theorem RCs.downs {ok : Nat → Prop} {w : World} {φ : List Value} {cs : List V} {arr : Array Value} {l : List S} (h : RCs ok w φ cs arr) (hd : Go.Proofs.YtiefcnghjcafbaaDoorV.downs cs = some l) : arr.size = l.length ∧ ∀ (j : Nat) y, l[j]? = some y → RS ok w y (arr.getD j Go.undef) := by
  obtain ⟨h1, h2⟩ := downs_get hd
  refine ⟨by rw [h.1, h1], fun j y hj => ?_⟩
  obtain ⟨c, hc, hcd⟩ := h2 j y hj
  exact (h.2 j c hc).2.down hcd

/-- A slice is built. -/
theorem op_rows (hL : LayOk P L) {t e sz n : Nat} {ps : Array (Nat × Operand)} {zs res : List V} {vs : List (Nat × V)} {l : List S} (ho : o.op = .buildSlice t n ps) (hp : evPs ts ps.toList = some vs) (hl : L.sl t = some (e, sz)) (hz : L.zero e = some zs)
    (hf : fillV (fun i => some (i * sz, sz)) (List.replicate n zs).flatten vs = some res) (hd : downs res = some l) (hzs : zs.length = sz) (hll : l.length = n * sz) (hn : n * sz ≤ 16777216) :
    OpOk P o (fun ts' bs' => ts' = putV o.dst (.row bs.length) ts ∧ bs' = bs ++ [.row e sz (chunk sz n l)]) ts bs := by
  refine OpOk.make fun T φ w a hs ht => ?_
  obtain ⟨hu, hinf, hsz0⟩ := hL.sl t e sz hl
  obtain ⟨i, z, h1, h2, hzc⟩ := zero_cells hL hz
  have hisz : i.size = sz := by rw [h1] at hinf; simpa using hinf
  obtain ⟨k1, k2⟩ := evPs_sound ht hp
  have hsize : (sizeOf e).run P w = .ok sz w := by simp [sizeOf, typeInfo, h1, hisz]
  have hzr := hzc (okOf T bs φ) w φ
  have hzl : z.cells.size = sz := by rw [hzr.1, hzs]
  have hzrc : RCs (okOf T bs φ) w φ (List.replicate n zs).flatten ((Array.range (n * sz)).map fun q => z.cells[q % z.cells.size]!) := by
    refine ⟨by simp [hzs], fun q c hq => ?_⟩
    have h3 := rep_get zs n q c hq
    rw [hzs] at h3
    have hqn : q < n * sz := by
      have := (List.getElem?_eq_some_iff.1 hq).1
      simpa [hzs] using this
    obtain ⟨k3, k4⟩ := hzr.2 _ c h3
    refine ⟨k3, ?_⟩
    have hm : q % sz < z.cells.size := by rw [hzl]; exact Nat.mod_lt _ hsz0
    have e : ((Array.range (n * sz)).map fun q => z.cells[q % z.cells.size]!).getD q Go.undef = z.cells.getD (q % sz) Go.undef := by
      simp [Array.getD_eq_getD_getElem?, hqn, hzl]
      rw [getElem!_pos z.cells (q % sz) hm, getElem?_pos z.cells (q % sz) hm]
      rfl
    rw [e]
    exact k4
  obtain ⟨ra, hra, hrc⟩ := fill_sound vs (ps.toList.map fun q => (q.1, a.eval q.2)) _ res _ hzrc (by simp [k1]) k2 hf
  obtain ⟨hras, hrad⟩ := hrc.downs hd
  have hlφ : (φ ++ [Value.slice (some ⟨w.heap.size, 0, none⟩) n n])[bs.length]? = some (.slice (some ⟨w.heap.size, 0, none⟩) n n) := by rw [← hs.len]; simp
  refine ⟨.slice (some ⟨w.heap.size, 0, none⟩) n n, .slice (some ⟨w.heap.size, 0, none⟩) n n, w.alloc (.cells ra e), ?_, below_alloc1 w _, fun g hg => ?_, fun he => ⟨⟨fun x hx => ?_, ra.toList, ⟨?_, .inr ⟨w.heap.size, n, ra, by simp [chunk_length], Nat.zero_le _, heap_alloc_new w _, by simp [chunk_length], ?_, ?_, ?_⟩⟩, fun i x j y hx hy => ?_⟩, ?_⟩⟩
  · have hnot : ¬ (n * sz > 2 ^ 24) := by omega
    by_cases hn0 : n * sz = 0
    · have hra' : Instr.fill (fun i => some (i * sz, sz)) #[] (ps.toList.map fun q => (q.1, a.eval q.2)) = some ra := by
        rw [← hra, hn0, show ((Array.range 0).map fun q => z.cells[q % z.cells.size]!) = (#[] : Array Value) from Array.eq_empty_of_size_eq_zero (by simp)]
      have hrun : (Instr.buildSlice t n (ps.map fun q => (q.1, a.eval q.2))).run P w = .ok (.slice (some ⟨w.heap.size, 0, none⟩) n n) (w.alloc (.cells ra e)) := by
        simp only [Instr.buildSlice, Sem.run_bind, run_underlying hu, hsize, Result.andThen_ok]
        rw [if_neg hnot, if_pos hn0]
        have er : (Array.map (fun _ : Nat => (default : Value)) (Array.range 0)) = #[] := Array.eq_empty_of_size_eq_zero (by simp)
        simp [hra', newRow, hn0, er]
      simp [execOp, ho, hrun]
    · have hrun : (Instr.buildSlice t n (ps.map fun q => (q.1, a.eval q.2))).run P w = .ok (.slice (some ⟨w.heap.size, 0, none⟩) n n) (w.alloc (.cells ra e)) := by
        simp only [Instr.buildSlice, Sem.run_bind, run_underlying hu, hsize, Result.andThen_ok]
        rw [if_neg hnot, if_neg hn0]
        simp [zeroValue, typeInfo, h1, h2, hra, newRow]
      simp [execOp, ho, hrun]
  · obtain rfl : w.heap.size = g := by simpa [blkOf] using hg
    exact Nat.le_refl _
  · obtain ⟨i', hi'⟩ := List.mem_iff_getElem?.1 hx
    exact (chunk_get hll hi').2.1
  · simp [chunk_length, hras, hll]
  · simp only [maxLen]
    have := Nat.le_mul_of_pos_right n hsz0
    omega
  · rw [hras, hll]
  · rw [chunk_length, ← hll, ← hras]
    exact List.take_of_length_le (by simp)
  · obtain ⟨_, _, h5⟩ := chunk_get hll hx
    have h6 := hrad _ y (h5 j y hy)
    have e2 : ra.toList.getD (i * sz + j) Go.undef = ra.getD (i * sz + j) Go.undef := by
      simp [List.getD_eq_getElem?_getD, Array.getD_eq_getD_getElem?]
    rw [e2]
    exact h6.ext he
  · exact .row _ _ _ _ hlφ
end

end Go.Proofs.YtiefcnghjcafbaaDoorV
