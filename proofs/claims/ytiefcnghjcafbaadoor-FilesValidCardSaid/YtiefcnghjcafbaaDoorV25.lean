/- The calculus of values, twenty-fifth text: a law's arguments as values, and as they read behind the call. -/
import Derived.Carry
import Derived.ChangeOld
import Derived.WideShapes
import Derived.Test.YtiefcnghjcafbaaDoorV24
namespace Go.Proofs.YtiefcnghjcafbaaDoorV
open Go Go.RowKit

section
variable {H : Type} {enc : TypeId × Value → H} {P : Program} {w : World} {base : Nat} {spare : Nat → Bool} {held : Bool}

theorem stays (hl : laidOutB P = true) {W W' : World} (hb : Below W.heap.size W W') : ∀ {ts : List TypeId} {vs : List Value} {ds : List (DataW H)} {ps : List MemPlace}, (∀ t ∈ ts, P.readableRec t = true ∧ t < P.types.size) →
    DataW.TrodAll enc P W 0 (fun _ => true) true ts vs ds ps → DataW.TrodAll enc P W' 0 (fun b => decide (b < W.heap.size)) true ts vs ds ps
  | [], [], [], ps, _, h => h
  | t :: ts, v :: vs, d :: ds, ps, hr, h => by
    obtain ⟨p, q, h1, h2, rfl⟩ := h
    obtain ⟨fuel, hf⟩ := h1
    obtain ⟨k1, k2⟩ := hr t List.mem_cons_self
    exact ⟨p, q, hb.trod hl k1 k2 ⟨fuel, hf⟩ (DataW.trod_lt fuel t _ _ hf), stays hl hb (fun t ht => hr t (List.mem_cons_of_mem _ ht)) h2, rfl⟩
  | [], _ :: _, _, _, _, h => h.elim
  | [], [], _ :: _, _, _, h => h.elim
  | _ :: _, [], _, _, _, h => h.elim
  | _ :: _, _ :: _, [], _, _, h => h.elim

/-- A struct. -/
theorem arg_struct {t : TypeId} {r : List Sh} {fs : Array Field} {v : Value} {d : DataW H} {p : List MemPlace} (hs : IsSh P t r) (ht : P.underlying t = some (.struct fs)) {rc : Reach} {b0 : Nat} (hv : Value.okWide P w rc b0 t v) (h : DataW.Trod enc P w base spare held t v d p) :
    ∃ ss : List S, ss.length = r.length ∧ RV (fun _ => True) w [] (.agg (ss.map S.up)) v ∧ ∀ (i : Nat) s c, ss[i]? = some s → r[i]? = some c → TyS c s := by
  obtain ⟨fuel, hf⟩ := h
  obtain ⟨arr, rfl, _⟩ := Go.WideShapes.okWide_struct ht hv
  obtain ⟨ss, h1, h2, h3, h4⟩ := opens hs hf
  have hc : (Value.agg arr).cells = arr := rfl
  rw [hc] at h1 h3
  refine ⟨ss, h2, .agg _ arr (by simp at h1 ⊢; omega) (fun c hm => ?_) (fun i c hi => ?_), h4⟩
  · obtain ⟨s, _, rfl⟩ := List.mem_map.1 hm
    exact S.up_atomic s
  · rw [List.getElem?_map] at hi
    obtain ⟨s, hs1, rfl⟩ := Option.map_eq_some_iff.1 hi
    have hlt : i < arr.size := by
      have := (List.getElem?_eq_some_iff.1 hs1).1
      simp at h1
      omega
    have := h3 i s (arr.getD i Go.undef) hs1 (by simp [Array.getD, hlt])
    exact this.up

/-- A slice. -/
theorem arg_slice {t e : TypeId} {r : List Sh} {v : Value} {d : DataW H} {p : List MemPlace} (hs : IsSh P t [.sl r]) (hcells : v.cells = #[v]) (h : DataW.Trod enc P w base spare held t v d p) :
    ∃ xs : List (List S), RV (fun _ => True) w [] (.sl xs) v ∧ TyS (.sl r) (.sl xs) := by
  obtain ⟨fuel, hf⟩ := h
  obtain ⟨ss, h1, h2, h3, h4⟩ := opens hs hf
  rw [hcells] at h3
  match ss, h2, h3, h4 with
  | [s], _, h3, h4 =>
    have ht := h4 0 s _ rfl rfl
    cases ht with
    | sl r xs hl h => exact ⟨xs, .sl xs v (h3 0 _ v rfl rfl), .sl r xs hl h⟩
end

/-- Rows of one number each. -/
theorem ints_of {k : IntKind} {xs : List (List S)} (h : TyS (.sl [.int k]) (.sl xs)) : ∃ is : List Int, xs = is.map fun n => [.val (.int k n)] := by
  cases h with
  | sl r xs hl h =>
    induction xs with
    | nil => exact ⟨[], rfl⟩
    | cons x xs ih =>
      obtain ⟨is, rfl⟩ := ih (fun y hy => hl y (List.mem_cons_of_mem _ hy)) (fun y hy => h y (List.mem_cons_of_mem _ hy))
      have h1 := hl x List.mem_cons_self
      match x, h1 with
      | [s], _ =>
        have h2 := h [s] List.mem_cons_self 0 s _ rfl rfl
        cases h2 with
        | int k n hw => exact ⟨n :: is, rfl⟩

end Go.Proofs.YtiefcnghjcafbaaDoorV
