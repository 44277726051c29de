/- The calculus of values, tenth text: a function that was shown among no boxes serves among whatever boxes. -/
import Derived.Test.YtiefcnghjcafbaaDoorV8
import Derived.Test.YtiefcnghjcafbaaDoorV9
namespace Go.Proofs.YtiefcnghjcafbaaDoorV
open Go Go.RowKit

/-- No box is named. -/
def cleanA : V → Bool
  | .val _ | .nils | .sl _ | .eptr _ => true
  | _ => false
def clean1 : V → Bool
  | .agg cs => cs.all cleanA
  | v => cleanA v
def clean : V → Bool
  | .tup vs => vs.all clean1
  | v => clean1 v

theorem cleanA_move {ok : Nat → Prop} {w : World} {φ φ' : List Value} {x : V} {v : Value} (hc : cleanA x = true) (h : RV ok w φ x v) : RV ok w φ' x v := by
  cases h <;> simp_all [cleanA]
  · exact .val _ ‹_›
  · exact .nils
  · exact .sl _ _ ‹_›
  · exact .eptr _ _ ‹_› ‹_› _ ‹_› ‹_›
theorem clean1_move {ok : Nat → Prop} {w : World} {φ φ' : List Value} {x : V} {v : Value} (hc : clean1 x = true) (h : RV ok w φ x v) : RV ok w φ' x v := by
  cases x with
  | agg cs =>
    cases h with
    | agg cs arr hl ha hr => exact .agg cs arr hl ha fun i c hi => cleanA_move (List.all_eq_true.1 hc c (List.mem_of_getElem? hi)) (hr i c hi)
  | _ => exact cleanA_move hc h
theorem clean_move {ok : Nat → Prop} {w : World} {φ φ' : List Value} {x : V} {v : Value} (hc : clean x = true) (h : RV ok w φ x v) : RV ok w φ' x v := by
  cases x with
  | tup vs =>
    cases h with
    | tup vs arr hl hr => exact .tup vs arr hl fun i c hi => clean1_move (List.all_eq_true.1 hc c (List.mem_of_getElem? hi)) (hr i c hi)
  | _ => exact clean1_move hc h

theorem RV.okm {ok ok' : Nat → Prop} {w : World} {φ : List Value} (hk : ∀ g, ok g → g < w.heap.size → ok' g) {x : V} {v : Value} (h : RV ok w φ x v) : RV ok' w φ x v :=
  h.move (Nat.le_refl _) (fun g h1 h2 => ⟨hk g h1 h2, rfl⟩) (fun _ _ h => h)
theorem RS.okm {ok ok' : Nat → Prop} {w : World} (hk : ∀ g, ok g → g < w.heap.size → ok' g) {x : S} {v : Value} (h : RS ok w x v) : RS ok' w x v :=
  h.move (Nat.le_refl _) (fun g h1 h2 => ⟨hk g h1 h2, rfl⟩)

theorem mine_nil {φ : List Value} {g : Nat} : ¬ mine [] φ g := fun ⟨k, b, v, h, _⟩ => by simp at h

theorem Sim.none {T : Nat → Prop} {bs : List Bx} {φ : List Value} {w : World} (hs : Sim T bs φ w) : Sim (fun g => T g ∨ mine bs φ g) [] [] w where
  inj := fun k k' b b' v v' g h => by simp at h
  off := fun g h => absurd h mine_nil
  tb := fun g h => h.elim (hs.tb g) (mine_lt hs)
  len := rfl
  box := fun k b h => by simp at h

/-- What a box of rows holds, made fast. -/
def frA (bs : List Bx) : V → V
  | .row k => match bs[k]? with
    | some (.row _ _ xs) => .sl xs
    | _ => .row k
  | .nils => .sl []
  | .win k sz o n c => match bs[k]? with
    | some (.cells cs) => match downs ((cs.drop (o * sz)).take (n * sz)) with
      | some l => if l.length = n * sz ∧ 0 < sz then .sl (chunk sz n l) else .win k sz o n c
      | none => .win k sz o n c
    | _ => .win k sz o n c
  | v => v
def fr1 (bs : List Bx) : V → V
  | .agg cs => .agg (cs.map (frA bs))
  | v => frA bs v
def fr (bs : List Bx) : V → V
  | .tup vs => .tup (vs.map (fr1 bs))
  | v => fr1 bs v

theorem row_fast {T : Nat → Prop} {bs : List Bx} {φ : List Value} {w : World} (hs : Sim T bs φ w) {ok : Nat → Prop} (hok : ∀ g, g < w.heap.size → okOf T bs φ g ∨ mine bs φ g → ok g) {k : Nat} {xs : List (List S)} {v : Value} (hv : φ[k]? = some v)
    (hb : ∃ e sz, bs[k]? = some (.row e sz xs)) : RS ok w (.sl xs) v := by
  obtain ⟨e, sz, hb⟩ := hb
  · obtain ⟨v', hv', hlen, vals, how, hc⟩ := hs.box k _ hb
    obtain rfl : v' = v := Option.some.inj (hv'.symm.trans hv)
    rcases how.2 with ⟨rfl, h0⟩ | ⟨g, cap, cur, rfl, hg0, hh, hn, hm, hcs, ht⟩
    · obtain rfl : xs = [] := List.eq_nil_of_length_eq_zero h0
      exact .nil none 0 (Nat.zero_le _)
    · by_cases hx : xs = []
      · subst hx
        exact .nil _ cap hm
      · have hlt : g < w.heap.size := (Array.getElem?_eq_some_iff.1 hh).1
        refine .cons xs ⟨g, 0, none⟩ cap sz (fun i j => vals.getD (i * sz + j) Go.undef) hx hlen hn hm (hok g hlt (.inr ⟨k, _, _, hb, rfl, hv, rfl⟩)) hlt (fun i x j y hi hj => ?_) (fun i x j y hi hj => (hc i x j y hi hj).okm fun g h1 h2 => hok g h2 (.inl h1))
        have h1 := hlen x (List.mem_of_getElem? hi)
        have h2 : i < xs.length := (List.getElem?_eq_some_iff.1 hi).1
        have h3 : j < sz := by rw [← h1]; exact (List.getElem?_eq_some_iff.1 hj).1
        have h4 := Nat.mul_le_mul_right sz h2
        rw [Nat.succ_mul] at h4
        rw [add_plain, Nat.zero_add]
        exact own_cell how rfl (by omega)

theorem frA_row (bs : List Bx) (k : Nat) : (∃ xs, frA bs (.row k) = .sl xs) ∨ frA bs (.row k) = .row k := by
  simp only [frA]
  split
  · exact .inl ⟨_, rfl⟩
  · exact .inr rfl

theorem frA_win (bs : List Bx) (k sz o n c : Nat) : (∃ xs, frA bs (.win k sz o n c) = .sl xs) ∨ frA bs (.win k sz o n c) = .win k sz o n c := by
  simp only [frA]
  repeat' split
  all_goals first
    | exact .inl ⟨_, rfl⟩
    | exact .inr rfl

theorem win_fast {T : Nat → Prop} {bs : List Bx} {φ : List Value} {w : World} (hs : Sim T bs φ w) {ok : Nat → Prop} (hok : ∀ g, g < w.heap.size → okOf T bs φ g ∨ mine bs φ g → ok g) {k sz o n c g : Nat} {cs : List V} {l : List S} (hv : φ[k]? = some (.pointer (some ⟨g, 0, none⟩)))
    (hb : bs[k]? = some (.cells cs)) (hd : downs ((cs.drop (o * sz)).take (n * sz)) = some l) (hl : l.length = n * sz) (hn : n ≤ c) (hm : c ≤ maxLen) : RS ok w (.sl (chunk sz n l)) (.slice (some ⟨g, o * sz, none⟩) n c) := by
  obtain ⟨v', hv', g', arr, t, rfl, hh, hsz, hc⟩ := hs.box k _ hb
  obtain rfl : g = g' := by
    have := hv.symm.trans hv'
    simpa using this
  have hlt : g < w.heap.size := (Array.getElem?_eq_some_iff.1 hh).1
  by_cases h0 : n = 0
  · subst h0
    exact .nil _ c hm
  · have h1 := RS.cons (ok := ok) (w := w) (chunk sz n l) ⟨g, o * sz, none⟩ c sz (fun i j => arr.getD (o * sz + (i * sz + j)) Go.undef) (fun e => h0 (by have := congrArg List.length e; rwa [chunk_length] at this)) (fun x hx => ?_) (by rw [chunk_length]; exact hn) hm (hok g hlt (.inr ⟨k, _, _, hb, rfl, hv, rfl⟩)) hlt (fun i x j y hi hj => ?_) (fun i x j y hi hj => ?_)
    · rwa [chunk_length] at h1
    · obtain ⟨i, hi⟩ := List.mem_iff_getElem?.1 hx
      exact (chunk_get hl hi).2.1
    · obtain ⟨h2, h3, h4⟩ := chunk_get hl hi
      obtain ⟨k1, k2⟩ := downs_get hd
      obtain ⟨x0, hx0, _⟩ := k2 _ y (h4 j y hj)
      have hlt2 : o * sz + (i * sz + j) < cs.length := by
        have := (List.getElem?_eq_some_iff.1 hx0).1
        simp at this
        omega
      rw [add_plain, cell_of hh]
      simp [Array.getD, show o * sz + (i * sz + j) < arr.size by omega]
    · obtain ⟨h2, h3, h4⟩ := chunk_get hl hi
      obtain ⟨k1, k2⟩ := downs_get hd
      obtain ⟨x0, hx0, hdn⟩ := k2 _ y (h4 j y hj)
      have hq : i * sz + j < n * sz := by
        have := (List.getElem?_eq_some_iff.1 (h4 j y hj)).1
        omega
      rw [List.getElem?_take_of_lt hq, List.getElem?_drop] at hx0
      exact ((hc _ x0 hx0).2.down hdn).okm fun g h1 h2 => hok g h2 (.inl h1)

theorem frA_move {T : Nat → Prop} {bs : List Bx} {φ φ' : List Value} {w : World} (hs : Sim T bs φ w) {ok : Nat → Prop} (hok : ∀ g, g < w.heap.size → okOf T bs φ g ∨ mine bs φ g → ok g) {x : V} {v : Value} (hc : cleanA (frA bs x) = true) (h : RV (okOf T bs φ) w φ x v) : RV ok w φ' (frA bs x) v := by
  cases h with
  | row k A n c hk =>
    simp only [frA] at hc ⊢
    cases hb : bs[k]? with
    | none => rw [hb] at hc; cases hc
    | some b =>
      rw [hb] at hc
      cases b with
      | dead => cases hc
      | cells l => cases hc
      | row e sz xs => exact .sl _ _ (row_fast hs hok hk ⟨e, sz, hb⟩)
      | iter s p => cases hc
  | val v h => exact .val v h
  | nils => exact .sl _ _ (.nil none 0 (Nat.zero_le _))
  | sl xs v h => exact .sl _ _ (h.okm fun g h1 h2 => hok g h2 (.inl h1))
  | eptr cs a h1 h2 f h3 h4 => exact .eptr cs a (hok _ h2 (.inl h1)) h2 f h3 (fun j y hj => (h4 j y hj).okm fun g h1 h2 => hok g h2 (.inl h1))
  | ptr => cases hc
  | rptr => cases hc
  | win k sz o n c g hk hn hm =>
    have hc2 := hc
    simp only [frA] at hc2
    split at hc2 <;> try (cases hc2; done)
    rename_i cs hb
    split at hc2 <;> try (cases hc2; done)
    rename_i l hd
    split at hc2 <;> try (cases hc2; done)
    rename_i hl
    have e : frA bs (.win k sz o n c) = .sl (chunk sz n l) := by simp only [frA, hb, hd, if_pos hl]
    rw [e]
    exact .sl _ _ (win_fast hs hok hk hb hd hl.1 hn hm)
  | fn => cases hc
  | agg => cases hc
  | tup => cases hc
  | gone => cases hc
theorem fr1_move {T : Nat → Prop} {bs : List Bx} {φ φ' : List Value} {w : World} (hs : Sim T bs φ w) {ok : Nat → Prop} (hok : ∀ g, g < w.heap.size → okOf T bs φ g ∨ mine bs φ g → ok g) {x : V} {v : Value} (hc : clean1 (fr1 bs x) = true) (h : RV (okOf T bs φ) w φ x v) : RV ok w φ' (fr1 bs x) v := by
  cases x with
  | agg cs =>
    cases h with
    | agg cs arr hl ha hr =>
      refine .agg _ arr (by simp [hl]) (fun c hm => ?_) fun i c hi => ?_
      · have := List.all_eq_true.1 hc c hm
        cases c <;> simp_all [cleanA, V.atomic]
      · simp only [List.getElem?_map] at hi
        obtain ⟨c0, h0, rfl⟩ := Option.map_eq_some_iff.1 hi
        exact frA_move hs hok (List.all_eq_true.1 hc _ (List.mem_map_of_mem (List.mem_of_getElem? h0))) (hr i c0 h0)
  | val u => exact frA_move (x := .val u) hs hok rfl h
  | nils => exact frA_move (x := .nils) hs hok rfl h
  | sl xs => exact frA_move (x := .sl xs) hs hok rfl h
  | eptr cs => exact frA_move (x := .eptr cs) hs hok rfl h
  | row k =>
    rcases frA_row bs k with ⟨xs, e⟩ | e
    · exact frA_move (x := .row k) hs hok (by rw [e]; rfl) h
    · have hc' : clean1 (frA bs (.row k)) = true := hc
      rw [e] at hc'
      cases hc'
  | ptr => cases hc
  | rptr => cases hc
  | win k sz o n c =>
    rcases frA_win bs k sz o n c with ⟨xs, e⟩ | e
    · exact frA_move (x := .win k sz o n c) hs hok (by rw [e]; rfl) h
    · have hc' : clean1 (frA bs (.win k sz o n c)) = true := hc
      rw [e] at hc'
      cases hc'
  | fn => cases hc
  | tup => cases hc
  | gone => cases hc
theorem fr_move {T : Nat → Prop} {bs : List Bx} {φ φ' : List Value} {w : World} (hs : Sim T bs φ w) {ok : Nat → Prop} (hok : ∀ g, g < w.heap.size → okOf T bs φ g ∨ mine bs φ g → ok g) {x : V} {v : Value} (hc : clean (fr bs x) = true) (h : RV (okOf T bs φ) w φ x v) : RV ok w φ' (fr bs x) v := by
  cases x with
  | tup vs =>
    cases h with
    | tup vs arr hl hr =>
      refine .tup _ arr (by simp [hl]) fun i c hi => ?_
      simp only [List.getElem?_map] at hi
      obtain ⟨c0, h0, rfl⟩ := Option.map_eq_some_iff.1 hi
      exact fr1_move hs hok (List.all_eq_true.1 hc _ (List.mem_map_of_mem (List.mem_of_getElem? h0))) (hr i c0 h0)
  | val u => exact fr1_move (x := .val u) hs hok rfl h
  | nils => exact fr1_move (x := .nils) hs hok rfl h
  | sl xs => exact fr1_move (x := .sl xs) hs hok rfl h
  | eptr cs => exact fr1_move (x := .eptr cs) hs hok rfl h
  | row k =>
    rcases frA_row bs k with ⟨xs, e⟩ | e
    · exact fr1_move (x := .row k) hs hok (by show clean1 (frA bs (.row k)) = true; rw [e]; rfl) h
    · have hc' : clean (frA bs (.row k)) = true := hc
      rw [e] at hc'
      cases hc'
  | agg cs => exact fr1_move (x := .agg cs) hs hok hc h
  | ptr => cases hc
  | rptr => cases hc
  | win k sz o n c =>
    rcases frA_win bs k sz o n c with ⟨xs, e⟩ | e
    · exact fr1_move (x := .win k sz o n c) hs hok (by show clean1 (frA bs (.win k sz o n c)) = true; rw [e]; rfl) h
    · have hc' : clean (frA bs (.win k sz o n c)) = true := hc
      rw [e] at hc'
      cases hc'
  | fn => cases hc
  | gone => cases hc

theorem Sim.stay {T : Nat → Prop} {bs bs' : List Bx} {φ φ' : List Value} {w w' : World} (hs : Sim T bs φ w) (he : Ext [] [] w bs' φ' w') : Ext bs φ w bs φ w' ∧ Sim T bs φ w' := by
  have hx : Ext bs φ w bs φ w' := ⟨he.os, he.tape, he.output, he.size, fun _ _ h => h, fun g hg _ => he.keep g hg mine_nil, fun g hg => .inl hg⟩
  exact ⟨hx, hs.step hx hs.inj hs.len fun k b hb => .inl ⟨hb, fun hl v g hv hg => he.keep g (mine_lt hs ⟨k, b, v, hb, hl, hv, hg⟩) mine_nil⟩⟩

section
variable {P : Program} {f : FuncId} {args : List V}

theorem args_none {T : Nat → Prop} {bs : List Bx} {φ : List Value} {w : World} {vargs : Array Value} (ha : args.all clean = true) (hv : RVs (okOf T bs φ) w φ args vargs) : RVs (okOf (fun g => T g ∨ mine bs φ g) [] []) w [] args vargs :=
  ⟨hv.1, fun i c hi => clean_move (List.all_eq_true.1 ha c (List.mem_of_getElem? hi)) ((hv.2 i c hi).okm fun g h1 _ => ⟨fun h => h.elim h1.1 h1.2, mine_nil⟩)⟩

/-- Among whatever boxes: arguments that name none, the result made fast. -/
theorem FnOk.among {R : V → Prop} (h : FnOk P f args [] fun r bs' => R (fr bs' r)) (ha : args.all clean = true) (hR : ∀ r, R r → clean r = true) (bs : List Bx) :
    FnOk P f args bs fun r bs' => R r ∧ bs' = bs := by
  intro T φ w vargs hs hv
  refine (h _ [] w vargs hs.none (args_none ha hv)).mono ?_
  rintro e w' ⟨v, r, bs', φ', rfl, q, he, hs', hr⟩
  obtain ⟨hx, hsim⟩ := hs.stay he
  refine ⟨v, fr bs' r, bs, φ, rfl, ⟨q, rfl⟩, hx, hsim, fr_move hs' (fun g hg ho => ?_) (hR _ q) hr⟩
  have hn : ¬ (T g ∨ mine bs φ g) := by
    rcases ho with h | h
    · exact h.1
    · exact hs'.off g h
  exact ⟨fun ht => hn (.inl ht), fun hm => hn (.inr hm)⟩

def plainA : V → Bool
  | .val _ | .nils => true
  | _ => false
def plain : V → Bool
  | .tup vs => vs.all plainA
  | .agg cs => cs.all plainA
  | v => plainA v

theorem plainA_move {ok ok' : Nat → Prop} {w w' : World} {φ φ' : List Value} {x : V} {v : Value} (hc : plainA x = true) (h : RV ok w φ x v) : RV ok' w' φ' x v := by
  cases h <;> simp_all [plainA]
  · exact .val _ ‹_›
  · exact .nils
theorem plain_move {ok ok' : Nat → Prop} {w w' : World} {φ φ' : List Value} {x : V} {v : Value} (hc : plain x = true) (h : RV ok w φ x v) : RV ok' w' φ' x v := by
  cases x with
  | tup vs =>
    cases h with
    | tup vs arr hl hr => exact .tup vs arr hl fun i c hi => plainA_move (List.all_eq_true.1 hc c (List.mem_of_getElem? hi)) (hr i c hi)
  | agg cs =>
    cases h with
    | agg cs arr hl ha hr => exact .agg cs arr hl ha fun i c hi => plainA_move (List.all_eq_true.1 hc c (List.mem_of_getElem? hi)) (hr i c hi)
  | _ => exact plainA_move hc h

/-- The arguments may be slices of the caller's own, if the result leads to no memory. -/
theorem FnOk.peek {R : V → Prop} {bs : List Bx} (h : FnOk P f (args.map (fr bs)) [] fun r _ => R r) (ha : (args.map (fr bs)).all clean = true) (hR : ∀ r, R r → plain r = true) :
    FnOk P f args bs fun r bs' => R r ∧ bs' = bs := by
  intro T φ w vargs hs hv
  have hs0 : Sim T [] [] w := ⟨fun k k' b b' v v' g h => by simp at h, fun g h => absurd h mine_nil, hs.tb, rfl, fun k b h => by simp at h⟩
  have hargs : RVs (okOf T [] []) w [] (args.map (fr bs)) vargs := by
    refine ⟨by simpa using hv.1, fun i c hi => ?_⟩
    have hc := List.all_eq_true.1 ha c (List.mem_of_getElem? hi)
    simp only [List.getElem?_map] at hi
    obtain ⟨c0, h0, rfl⟩ := Option.map_eq_some_iff.1 hi
    refine fr_move hs (fun g hg ho => ⟨?_, mine_nil⟩) hc (hv.2 i c0 h0)
    rcases ho with h | h
    · exact h.1
    · exact hs.off g h
  refine (h T [] w vargs hs0 hargs).mono ?_
  rintro e w' ⟨v, r, bs', φ', rfl, q, he, hs', hr⟩
  obtain ⟨hx, hsim⟩ := hs.stay he
  exact ⟨v, r, bs, φ, rfl, ⟨q, rfl⟩, hx, hsim, plain_move (hR r q) hr⟩

/-- A new slice, handed over as the caller's own. -/
theorem take_own {T : Nat → Prop} {bs bs' : List Bx} {φ φ' : List Value} {w w' : World} (hs : Sim T bs φ w) (he : Ext [] [] w bs' φ' w') (hs' : Sim (fun g => T g ∨ mine bs φ g) bs' φ' w') {k e sz : Nat} {xs : List (List S)} (hb : bs'[k]? = some (.row e sz xs)) {v : Value} (hv : φ'[k]? = some v) :
    Ext bs φ w (bs ++ [.row e sz xs]) (φ ++ [v]) w' ∧ Sim T (bs ++ [.row e sz xs]) (φ ++ [v]) w' := by
  have hw : Below w.heap.size w w' := ⟨he.os, he.tape, he.output, he.size, fun g hg => he.keep g hg mine_nil⟩
  have hn : ∀ g, blkOf v = some g → w.heap.size ≤ g := fun g hg => by
    rcases he.fresh g ⟨k, _, v, hb, rfl, hv, hg⟩ with h | h
    · exact absurd h mine_nil
    · exact h
  refine ⟨ext_push hs hw hn, hs.push hw hn fun hx => ?_⟩
  obtain ⟨v', hv', hl, vals, how, hc⟩ := hs'.box k _ hb
  obtain rfl : v' = v := Option.some.inj (hv'.symm.trans hv)
  refine ⟨hl, vals, how, fun i x j y hi hj => (hc i x j y hi hj).okm fun g h1 hlt => ⟨fun ht => h1.1 (.inl ht), fun hm => ?_⟩⟩
  obtain ⟨q, b, u, hq, hlv, hu, hg⟩ := hm
  rcases Nat.lt_or_ge q bs.length with h | h
  · rw [List.getElem?_append_left h] at hq
    rw [List.getElem?_append_left (by rw [hs.len]; exact h)] at hu
    exact h1.1 (.inr ⟨q, b, u, hq, hlv, hu, hg⟩)
  · have hqe : q = bs.length := by
      have := (List.getElem?_eq_some_iff.1 hq).1
      simp at this
      omega
    subst hqe
    rw [List.getElem?_append_right (by rw [hs.len]; exact Nat.le_refl _), hs.len, Nat.sub_self] at hu
    obtain rfl : v' = u := by simpa using hu
    exact h1.2 ⟨k, _, v', hb, rfl, hv, hg⟩

/-- A new array, handed over as the caller's own: what its cells hold leads to no box. -/
theorem take_cells {T : Nat → Prop} {bs bs' : List Bx} {φ φ' : List Value} {w w' : World} (hs : Sim T bs φ w) (he : Ext [] [] w bs' φ' w') (hs' : Sim (fun g => T g ∨ mine bs φ g) bs' φ' w') {k : Nat} {l : List S} (hb : bs'[k]? = some (.cells (l.map S.up))) {v : Value} (hv : φ'[k]? = some v) :
    Ext bs φ w (bs ++ [.cells (l.map S.up)]) (φ ++ [v]) w' ∧ Sim T (bs ++ [.cells (l.map S.up)]) (φ ++ [v]) w' := by
  have hw : Below w.heap.size w w' := ⟨he.os, he.tape, he.output, he.size, fun g hg => he.keep g hg mine_nil⟩
  have hn : ∀ g, blkOf v = some g → w.heap.size ≤ g := fun g hg => by
    rcases he.fresh g ⟨k, _, v, hb, rfl, hv, hg⟩ with h | h
    · exact absurd h mine_nil
    · exact h
  refine ⟨ext_push hs hw hn, hs.push hw hn fun hx => ?_⟩
  obtain ⟨v', hv', g0, arr, t, hvv, hh, hsz, hc⟩ := hs'.box k _ hb
  obtain rfl : v' = v := Option.some.inj (hv'.symm.trans hv)
  refine ⟨g0, arr, t, hvv, hh, hsz, fun j c hj => ?_⟩
  obtain ⟨h1, h2⟩ := hc j c hj
  refine ⟨h1, ?_⟩
  rw [List.getElem?_map] at hj
  obtain ⟨s, _, rfl⟩ := Option.map_eq_some_iff.1 hj
  have hd : s.up.down = some s := by cases s <;> rfl
  refine ((h2.down hd).okm fun g h1 hlt => ⟨fun ht => h1.1 (.inl ht), fun hm => ?_⟩).up
  obtain ⟨q, b, u, hq, hlv, hu, hg⟩ := hm
  rcases Nat.lt_or_ge q bs.length with h | h
  · rw [List.getElem?_append_left h] at hq
    rw [List.getElem?_append_left (by rw [hs.len]; exact h)] at hu
    exact h1.1 (.inr ⟨q, b, u, hq, hlv, hu, hg⟩)
  · have hqe : q = bs.length := by
      have := (List.getElem?_eq_some_iff.1 hq).1
      simp at this
      omega
    subst hqe
    rw [List.getElem?_append_right (by rw [hs.len]; exact Nat.le_refl _), hs.len, Nat.sub_self] at hu
    obtain rfl : v' = u := by simpa using hu
    exact h1.2 ⟨k, _, v', hb, rfl, hv, hg⟩

theorem row_val {ok : Nat → Prop} {w : World} {φ : List Value} {k : Nat} {v : Value} (h : RV ok w φ (.row k) v) : φ[k]? = some v := by
  cases h
  assumption

theorem row_new {ok ok' : Nat → Prop} {w w' : World} {φ φ' : List Value} {bs : List Bx} (hl : φ.length = bs.length) {k : Nat} {v : Value} (h : RV ok w φ' (.row k) v) : RV ok' w' (φ ++ [v]) (.row bs.length) v := by
  cases h with
  | row k A n c hk => exact .row _ A n c (by rw [← hl]; simp)

theorem FnOk.own {R : TypeId → Nat → List (List S) → Prop} (h : FnOk P f args [] fun r bs' => ∃ k e sz xs, r = .row k ∧ bs'[k]? = some (.row e sz xs) ∧ R e sz xs) (ha : args.all clean = true) (bs : List Bx) :
    FnOk P f args bs fun r bs' => ∃ e sz xs, r = .row bs.length ∧ bs' = bs ++ [.row e sz xs] ∧ R e sz xs := by
  intro T φ w vargs hs hv
  refine (h _ [] w vargs hs.none (args_none ha hv)).mono ?_
  rintro e w' ⟨v, r, bs', φ', rfl, ⟨k, e, sz, xs, rfl, hb, q⟩, he, hs', hr⟩
  obtain ⟨h1, h2⟩ := take_own hs he hs' hb (row_val hr)
  exact ⟨v, .row bs.length, _, _, rfl, ⟨e, sz, xs, rfl, rfl, q⟩, h1, h2, row_new hs.len hr⟩

theorem FnOk.ownW {k sz q n c : Nat} {l : List S} (h : FnOk P f args [] fun r bs' => r = .win k sz q n c ∧ bs'[k]? = some (.cells (l.map S.up))) (ha : args.all clean = true) (bs : List Bx) :
    FnOk P f args bs fun r bs' => r = .win bs.length sz q n c ∧ bs' = bs ++ [.cells (l.map S.up)] := by
  intro T φ w vargs hs hv
  refine (h _ [] w vargs hs.none (args_none ha hv)).mono ?_
  rintro e w' ⟨v, r, bs', φ', rfl, ⟨rfl, hb⟩, he, hs', hr⟩
  cases hr with
  | win _ _ _ _ _ g hk hn hm =>
    obtain ⟨h1, h2⟩ := take_cells hs he hs' hb hk
    exact ⟨_, .win bs.length sz q n c, _, _, rfl, ⟨rfl, rfl⟩, h1, h2, .win _ sz q n c g (by rw [← hs.len]; simp) hn hm⟩

theorem FnOk.own2 {R : TypeId → Nat → List (List S) → V → Prop} (h : FnOk P f args [] fun r bs' => ∃ k e sz xs x, r = .tup [.row k, x] ∧ bs'[k]? = some (.row e sz xs) ∧ R e sz xs x) (ha : args.all clean = true) (hR : ∀ e sz xs x, R e sz xs x → plain x = true) (bs : List Bx) :
    FnOk P f args bs fun r bs' => ∃ e sz xs x, r = .tup [.row bs.length, x] ∧ bs' = bs ++ [.row e sz xs] ∧ R e sz xs x := by
  intro T φ w vargs hs hv
  refine (h _ [] w vargs hs.none (args_none ha hv)).mono ?_
  rintro e w' ⟨v, r, bs', φ', rfl, ⟨k, e, sz, xs, x, rfl, hb, q⟩, he, hs', hr⟩
  cases hr with
  | tup vs arr hl hr =>
    have h0 := hr 0 _ rfl
    have h1 := hr 1 _ rfl
    obtain ⟨k1, k2⟩ := take_own hs he hs' hb (row_val h0)
    refine ⟨_, .tup [.row bs.length, x], _, _, rfl, ⟨e, sz, xs, x, rfl, rfl, q⟩, k1, k2, .tup _ arr (by simpa using hl) fun i c hi => ?_⟩
    match i, hi with
    | 0, hi =>
      obtain rfl : V.row bs.length = c := by simpa using hi
      exact row_new hs.len h0
    | 1, hi =>
      obtain rfl : x = c := by simpa using hi
      exact plain_move (hR _ _ _ _ q) h1
    | i + 2, hi => simp at hi
end

end Go.Proofs.YtiefcnghjcafbaaDoorV
