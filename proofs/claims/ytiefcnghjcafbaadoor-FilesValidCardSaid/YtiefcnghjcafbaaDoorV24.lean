/- The calculus of values, twenty-fourth text: a law's arguments, opened. -/
import Derived.ChangeArms
import Derived.ChangeSlices
import Derived.Test.YtiefcnghjcafbaaDoorV23
namespace Go.Proofs.YtiefcnghjcafbaaDoorV
open Go Go.RowKit

/-- The shape of a cell. -/
inductive Sh where
  | int (k : IntKind)
  | bool
  | str
  | sl (r : List Sh)
  | raw

/-- The shapes of a type's cells. -/
inductive IsSh (P : Program) : TypeId → List Sh → Prop
  | int {t : TypeId} {k : IntKind} (h : P.underlying t = some (.int k)) : IsSh P t [.int k]
  | bool {t : TypeId} (h : P.underlying t = some .bool) : IsSh P t [.bool]
  | str {t : TypeId} (h : P.underlying t = some .string) : IsSh P t [.str]
  | sl {t e : TypeId} {r : List Sh} (h : P.underlying t = some (.slice e)) (hr : IsSh P e r) (hc : P.cellsOf e = r.length) (h0 : 0 < r.length) : IsSh P t [.sl r]
  | raw {t e : TypeId} (h : P.underlying t = some (.slice e)) : IsSh P t [.raw]
  | struct {t : TypeId} {fs : Array Field} {rs : List (List Sh)} (h : P.underlying t = some (.struct fs)) (hl : rs.length = fs.size) (hf : ∀ (i : Nat) f r, fs[i]? = some f → rs[i]? = some r → IsSh P f.type r)
      (ho : ∀ (i : Nat) f, fs[i]? = some f → f.offset = (rs.take i).flatten.length) (hc : ∀ (i : Nat) f r, fs[i]? = some f → rs[i]? = some r → P.cellsOf f.type = r.length) (ht : P.cellsOf t = rs.flatten.length) : IsSh P t rs.flatten

/-- A value of a shape. -/
inductive TyS : Sh → S → Prop
  | int (k : IntKind) (n : Int) (h : (Lit.int k n).wf = true) : TyS (.int k) (.val (.int k n))
  | bool (b : Bool) : TyS .bool (.val (.bool b))
  | str (s : ByteArray) (h : s.size ≤ maxLen) : TyS .str (.val (.string s))
  | sl (r : List Sh) (xs : List (List S)) (hl : ∀ x ∈ xs, x.length = r.length) (h : ∀ x ∈ xs, ∀ (i : Nat) s c, x[i]? = some s → r[i]? = some c → TyS c s) : TyS (.sl r) (.sl xs)
  | raw (v : Value) (h : scalar v = true) : TyS .raw (.val v)

/-- Cells beside their values. -/
def Opens (w : World) (r : List Sh) (cs : List Value) (ss : List S) : Prop :=
  cs.length = r.length ∧ ss.length = r.length ∧ (∀ (i : Nat) s v, ss[i]? = some s → cs[i]? = some v → RS (fun _ => True) w s v) ∧ ∀ (i : Nat) s c, ss[i]? = some s → r[i]? = some c → TyS c s

section
variable {H : Type} {enc : TypeId × Value → H} {P : Program} {w : World} {base : Nat} {spare : Nat → Bool} {held : Bool}

theorem opens_one {c : Sh} {v : Value} {s : S} (hr : RS (fun _ => True) w s v) (ht : TyS c s) : Opens w [c] [v] [s] :=
  ⟨rfl, rfl, fun i s' v' h1 h2 => by
    cases i with
    | zero =>
      obtain rfl : s = s' := by simpa using h1
      obtain rfl : v = v' := by simpa using h2
      exact hr
    | succ i => simp at h1, fun i s' c' h1 h2 => by
    cases i with
    | zero =>
      obtain rfl : s = s' := by simpa using h1
      obtain rfl : c = c' := by simpa using h2
      exact ht
    | succ i => simp at h1⟩

theorem opens_append {r1 r2 : List Sh} {c1 c2 : List Value} {s1 s2 : List S} (h1 : Opens w r1 c1 s1) (h2 : Opens w r2 c2 s2) : Opens w (r1 ++ r2) (c1 ++ c2) (s1 ++ s2) := by
  obtain ⟨a1, a2, a3, a4⟩ := h1
  obtain ⟨b1, b2, b3, b4⟩ := h2
  refine ⟨by simp [a1, b1], by simp [a2, b2], fun i s v hs hv => ?_, fun i s c hs hc => ?_⟩
  · rcases Nat.lt_or_ge i s1.length with h | h
    · rw [List.getElem?_append_left h] at hs
      rw [List.getElem?_append_left (by omega)] at hv
      exact a3 i s v hs hv
    · rw [List.getElem?_append_right h] at hs
      rw [List.getElem?_append_right (by omega), show i - c1.length = i - s1.length by omega] at hv
      exact b3 _ s v hs hv
  · rcases Nat.lt_or_ge i s1.length with h | h
    · rw [List.getElem?_append_left h] at hs
      rw [List.getElem?_append_left (by omega)] at hc
      exact a4 i s c hs hc
    · rw [List.getElem?_append_right h] at hs
      rw [List.getElem?_append_right (by omega), show i - r1.length = i - s1.length by omega] at hc
      exact b4 _ s c hs hc

theorem choose_rows {α β : Type} {R : Nat → α → β → Prop} : ∀ (l : List α) (k : Nat), (∀ i a, l[i]? = some a → ∃ b, R (k + i) a b) → ∃ m : List β, m.length = l.length ∧ ∀ (i : Nat) a b, l[i]? = some a → m[i]? = some b → R (k + i) a b
  | [], k, h => ⟨[], rfl, fun i a b h => by simp at h⟩
  | x :: l, k, h => by
    obtain ⟨b, hb⟩ := h 0 x rfl
    obtain ⟨m, h1, h2⟩ := choose_rows l (k + 1) fun i a ha => by
      obtain ⟨b, hb⟩ := h (i + 1) a (by simpa using ha)
      exact ⟨b, by rwa [show k + 1 + i = k + (i + 1) by omega]⟩
    refine ⟨b :: m, by simp [h1], fun i a c ha hc => ?_⟩
    cases i with
    | zero =>
      obtain rfl : x = a := by simpa using ha
      obtain rfl : b = c := by simpa using hc
      exact hb
    | succ i =>
      have := h2 i a c (by simpa using ha) (by simpa using hc)
      rwa [show k + (i + 1) = k + 1 + i by omega]

theorem opens {t : TypeId} {r : List Sh} (hs : IsSh P t r) : ∀ {fuel : Nat} {cs : List Value} {x : DataW H × List MemPlace}, DataW.trod enc P w base spare held fuel t cs = some x → ∃ ss, Opens w r cs ss := by
  induction hs with
  | int h =>
    intro fuel cs x hx
    obtain ⟨n, rfl, _, hw⟩ := DataW.trod_int h hx
    exact ⟨[.val (.int _ n)], opens_one (.val _ rfl) (.int _ n hw)⟩
  | bool h =>
    intro fuel cs x hx
    obtain ⟨b, rfl, _⟩ := DataW.trod_bool h hx
    exact ⟨[.val (.bool b)], opens_one (.val _ rfl) (.bool b)⟩
  | str h =>
    intro fuel cs x hx
    obtain ⟨s, rfl, _, hl⟩ := DataW.trod_string h hx
    exact ⟨[.val (.string s)], opens_one (.val _ rfl) (.str s hl)⟩
  | raw h =>
    intro fuel cs x hx
    rcases DataW.trod_slice h hx with ⟨rfl, _⟩ | ⟨a, len, cap, elems, rest, n, _, rfl, _⟩
    · exact ⟨[.val _], opens_one (.val _ rfl) (.raw _ rfl)⟩
    · exact ⟨[.val _], opens_one (.val _ rfl) (.raw _ rfl)⟩
  | @sl t e r h hr hc h0 ih =>
    intro fuel cs x hx
    rcases DataW.trod_slice h hx with ⟨rfl, _⟩ | ⟨a, len, cap, elems, rest, n, _, rfl, _, hb, hl, hm, hlen, hel, _, _⟩
    · exact ⟨[.sl []], opens_one (.nil none 0 (Nat.zero_le _)) (.sl r [] (fun x hx => by cases hx) (fun x hx => by cases hx))⟩
    · have each : ∀ i, i < len → ∃ vs ss, w.cells? base (a.add (i * r.length)) r.length = some vs ∧ Opens w r vs ss := by
        intro i hi
        have h1 := hel i hi
        rw [hc] at h1
        have h2 : elems[i]? = some elems[i] := List.getElem?_eq_getElem (by omega)
        rw [h2, Option.bind_eq_some_iff] at h1
        obtain ⟨vs, hv, ht⟩ := h1
        obtain ⟨ss, hss⟩ := ih ht
        exact ⟨vs, ss, hv, hss⟩
      obtain ⟨rows, hrl, hrows⟩ := choose_rows (R := fun i (_ : Nat) (ss : List S) => ∃ vs, w.cells? base (a.add (i * r.length)) r.length = some vs ∧ Opens w r vs ss) (List.range len) 0 fun i q hq => by
        have hi : i < len := by
          have := (List.getElem?_eq_some_iff.1 hq).1
          simpa using this
        obtain ⟨vs, ss, h1, h2⟩ := each i hi
        exact ⟨ss, vs, by rwa [Nat.zero_add], h2⟩
      have hrl' : rows.length = len := by simpa using hrl
      have hrow : ∀ (i : Nat) ss, rows[i]? = some ss → ∃ vs, w.cells? base (a.add (i * r.length)) r.length = some vs ∧ Opens w r vs ss := fun i ss hi => by
        have hlt : i < len := by rw [← hrl']; exact (List.getElem?_eq_some_iff.1 hi).1
        have := hrows i i ss (by simp [hlt]) hi
        rwa [Nat.zero_add] at this
      have hty : TyS (.sl r) (.sl rows) := .sl r rows (fun x hx => by
        obtain ⟨i, hi⟩ := List.mem_iff_getElem?.1 hx
        obtain ⟨vs, _, ho⟩ := hrow i x hi
        exact ho.2.1) fun x hx i s c h1 h2 => by
        obtain ⟨j, hj⟩ := List.mem_iff_getElem?.1 hx
        obtain ⟨vs, _, ho⟩ := hrow j x hj
        exact ho.2.2.2 i s c h1 h2
      by_cases hx0 : rows = []
      · subst hx0
        obtain rfl : len = 0 := by simpa using hrl'.symm
        exact ⟨[.sl []], opens_one (.nil _ cap hm) hty⟩
      · have hcell : ∀ (i : Nat) x (j : Nat) y, rows[i]? = some x → x[j]? = some y → ∃ v, w.cell? (a.add (i * r.length + j)) = some v ∧ RS (fun _ => True) w y v := fun i x j y hi hj => by
          obtain ⟨vs, hv, ho⟩ := hrow i x hi
          obtain ⟨_, h1, h2⟩ := World.cells?_some hv
          have hjl : j < r.length := by rw [← ho.2.1]; exact (List.getElem?_eq_some_iff.1 hj).1
          have h3 := h2 j hjl
          rw [add_add] at h3
          have h4 : vs[j]? = some (vs.getD j Go.undef) := by simp [List.getD, List.getElem?_eq_getElem (show j < vs.length by omega)]
          exact ⟨vs.getD j Go.undef, by rw [h3, h4], ho.2.2.1 j y _ hj h4⟩
        have hlt : a.block < w.heap.size := by
          obtain ⟨x, hx⟩ := List.exists_mem_of_ne_nil _ hx0
          obtain ⟨i, hi⟩ := List.mem_iff_getElem?.1 hx
          obtain ⟨vs, hv, ho⟩ := hrow i x hi
          obtain ⟨y, hy⟩ : ∃ y, x[0]? = some y := ⟨_, List.getElem?_eq_getElem (by rw [ho.2.1]; exact h0)⟩
          obtain ⟨v, hc1, _⟩ := hcell i x 0 y hi hy
          have := cell_lt hc1
          rwa [add_block] at this
        have := RS.cons (ok := fun _ => True) (w := w) rows a cap r.length (fun i j => (w.cell? (a.add (i * r.length + j))).getD Go.undef) hx0 (fun x hx => by
            obtain ⟨i, hi⟩ := List.mem_iff_getElem?.1 hx
            obtain ⟨vs, _, ho⟩ := hrow i x hi
            exact ho.2.1) (by omega) hm trivial hlt (fun i x j y hi hj => by
            obtain ⟨v, h1, _⟩ := hcell i x j y hi hj
            rw [h1]; rfl) (fun i x j y hi hj => by
            obtain ⟨v, h1, h2⟩ := hcell i x j y hi hj
            rw [h1]; exact h2)
        rw [hrl'] at this
        exact ⟨[.sl rows], opens_one this hty⟩
  | @struct t fs rs h hl hf ho hc ht ih =>
    intro fuel cs x hx
    obtain ⟨xs, n, _, _, hcl, hxl, hread⟩ := DataW.trod_struct h hx
    have key : ∀ k, k ≤ rs.length → ∃ ss, Opens w (rs.take k).flatten (cs.take (rs.take k).flatten.length) ss := by
      intro k
      induction k with
      | zero => intro _; exact ⟨[], by simp [Opens]⟩
      | succ k ihk =>
        intro hk
        obtain ⟨ss, hss⟩ := ihk (by omega)
        obtain ⟨r, hr⟩ : ∃ r, rs[k]? = some r := ⟨_, List.getElem?_eq_getElem (by omega)⟩
        obtain ⟨f, hf1⟩ : ∃ f, fs[k]? = some f := ⟨_, Array.getElem?_eq_getElem (by omega)⟩
        obtain ⟨y, hy⟩ : ∃ y, xs[k]? = some y := ⟨_, List.getElem?_eq_getElem (by omega)⟩
        have h1 := hread k f hf1
        rw [hy, ho k f hf1, hc k f r hf1 hr] at h1
        obtain ⟨s2, hs2⟩ := ih k f r hf1 hr h1
        have e1 : (rs.take (k + 1)).flatten = (rs.take k).flatten ++ r := by
          rw [List.take_add_one, hr]
          simp
        refine ⟨ss ++ s2, ?_⟩
        rw [e1, List.length_append, List.take_add]
        exact opens_append hss hs2
    obtain ⟨ss, hss⟩ := key rs.length (Nat.le_refl _)
    rw [List.take_length, List.take_of_length_le (by omega)] at hss
    exact ⟨ss, hss⟩
end

end Go.Proofs.YtiefcnghjcafbaaDoorV
