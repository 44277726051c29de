/- The calculus of values, twentieth text: what is no longer needed is let go, and the boxes that stay are counted anew. -/
import Derived.Test.YtiefcnghjcafbaaDoorV19
namespace Go.Proofs.YtiefcnghjcafbaaDoorV
open Go Go.RowKit

/-- The new number of an old box. -/
def newAt (ks : List Nat) (k : Nat) : Option Nat := ks.findIdx? (· == k)

/-- A value under the new numbers. -/
def rnA (ks : List Nat) : V → Option V
  | .val v => some (.val v)
  | .nils => some .nils
  | .sl xs => some (.sl xs)
  | .eptr cs => some (.eptr cs)
  | .row k => (newAt ks k).map .row
  | .ptr k o => (newAt ks k).map fun k => .ptr k o
  | .rptr k a b c => (newAt ks k).map fun k => .rptr k a b c
  | .win k a b c d => (newAt ks k).map fun k => .win k a b c d
  | _ => none

def rnL (ks : List Nat) : List V → Option (List V)
  | [] => some []
  | x :: r => match rnA ks x, rnL ks r with
    | some y, some l => some (y :: l)
    | _, _ => none

def rn (ks : List Nat) : V → Option V
  | .agg cs => (rnL ks cs).map .agg
  | .tup [] => some (.tup [])
  | .fn f cs => (rnL ks cs).map (.fn f)
  | v => rnA ks v

def rnB (ks : List Nat) : Bx → Option Bx
  | .cells cs => (rnL ks cs).map .cells
  | b => some b

/-- The boxes that stay. -/
def rnBs (bs : List Bx) (ks : List Nat) : List Nat → Option (List Bx)
  | [] => some []
  | k :: r => match (bs[k]?).bind (rnB ks), rnBs bs ks r with
    | some b, some l => some (b :: l)
    | _, _ => none

/-- The temporaries: those with a number in the list stay. -/
def rnTs (ks : List Nat) (live : List Nat) : Nat → List V → List V
  | _, [] => []
  | i, x :: r => (if live.contains i then (rn ks x).getD .gone else .gone) :: rnTs ks live (i + 1) r

section
variable {T : Nat → Prop} {bs bs2 : List Bx} {φ φ2 : List Value} {w : World} {ks : List Nat}

theorem newAt_get {k j : Nat} (h : newAt ks k = some j) : ks[j]? = some k := by
  unfold newAt at h
  obtain ⟨hj, h1, _⟩ := List.findIdx?_eq_some_iff_getElem.1 h
  rw [List.getElem?_eq_getElem hj]
  simpa using h1

theorem rnA_sound {ok ok' : Nat → Prop} (hk : ∀ g, ok g → g < w.heap.size → ok' g) (hφ : ∀ (j k : Nat) v, ks[j]? = some k → φ[k]? = some v → φ2[j]? = some v) {x y : V} {v : Value} (hr : rnA ks x = some y) (h : RV ok w φ x v) : RV ok' w φ2 y v := by
  cases h with
  | val v h => cases hr; exact .val v h
  | nils => cases hr; exact .nils
  | sl xs v h => cases hr; exact .sl xs v (h.okm hk)
  | eptr cs a h1 h2 f h3 h4 => cases hr; exact .eptr cs a (hk _ h1 h2) h2 f h3 fun j y hj => (h4 j y hj).okm hk
  | row k A n c h =>
    obtain ⟨j, hj, rfl⟩ := Option.map_eq_some_iff.1 hr
    exact .row j A n c (hφ j k _ (newAt_get hj) h)
  | ptr k o g h =>
    obtain ⟨j, hj, rfl⟩ := Option.map_eq_some_iff.1 hr
    exact .ptr j o g (hφ j k _ (newAt_get hj) h)
  | rptr k sz i q g n c h =>
    obtain ⟨j, hj, rfl⟩ := Option.map_eq_some_iff.1 hr
    exact .rptr j sz i q g n c (hφ j k _ (newAt_get hj) h)
  | win k sz o n c g h hn hm =>
    obtain ⟨j, hj, rfl⟩ := Option.map_eq_some_iff.1 hr
    exact .win j sz o n c g (hφ j k _ (newAt_get hj) h) hn hm
  | fn => cases hr
  | agg => cases hr
  | tup => cases hr
  | gone => cases hr

theorem rnA_atomic {x y : V} (hr : rnA ks x = some y) : y.atomic = true := by
  cases x <;> first
    | (cases hr; rfl)
    | (obtain ⟨j, hj, rfl⟩ := Option.map_eq_some_iff.1 hr; rfl)
    | (cases hr; done)

theorem rnL_get : ∀ {cs ds : List V}, rnL ks cs = some ds → ds.length = cs.length ∧ ∀ (i : Nat) d, ds[i]? = some d → ∃ c, cs[i]? = some c ∧ rnA ks c = some d
  | [], ds, h => by
    cases h
    exact ⟨rfl, fun i d hd => by simp at hd⟩
  | x :: r, ds, h => by
    unfold rnL at h
    split at h
    · rename_i y l h1 h2
      cases h
      obtain ⟨k1, k2⟩ := rnL_get h2
      refine ⟨by simp [k1], fun i d hd => ?_⟩
      cases i with
      | zero =>
        obtain rfl : y = d := by simpa using hd
        exact ⟨x, rfl, h1⟩
      | succ i =>
        obtain ⟨c, hc, he⟩ := k2 i d (by simpa using hd)
        exact ⟨c, by simpa using hc, he⟩
    · cases h

theorem rn_sound {ok ok' : Nat → Prop} (hk : ∀ g, ok g → g < w.heap.size → ok' g) (hφ : ∀ (j k : Nat) v, ks[j]? = some k → φ[k]? = some v → φ2[j]? = some v) {x y : V} {v : Value} (hr : rn ks x = some y) (h : RV ok w φ x v) : RV ok' w φ2 y v := by
  cases x with
  | agg cs =>
    obtain ⟨ds, hd, rfl⟩ := Option.map_eq_some_iff.1 hr
    obtain ⟨k1, k2⟩ := rnL_get hd
    cases h with
    | agg cs arr hl ha hc =>
      refine .agg ds arr (by rw [k1, hl]) (fun d hm => ?_) fun i d hi => ?_
      · obtain ⟨i, hi⟩ := List.mem_iff_getElem?.1 hm
        obtain ⟨c, _, he⟩ := k2 i d hi
        exact rnA_atomic he
      · obtain ⟨c, hc0, he⟩ := k2 i d hi
        exact rnA_sound hk hφ he (hc i c hc0)
  | tup vs =>
    cases vs with
    | nil =>
      cases hr
      cases h with
      | tup vs arr hl hc => exact .tup [] arr hl fun i c hi => by simp at hi
    | cons x r => cases hr
  | fn f cs =>
    obtain ⟨ds, hd, rfl⟩ := Option.map_eq_some_iff.1 hr
    obtain ⟨k1, k2⟩ := rnL_get hd
    cases h with
    | fn f cs arr hl hc =>
      refine .fn f ds arr (by rw [k1, hl]) fun i d hi => ?_
      obtain ⟨c, hc0, he⟩ := k2 i d hi
      exact rnA_sound hk hφ he (hc i c hc0)
  | _ =>
    simp only [rn] at hr
    exact rnA_sound hk hφ hr h

theorem rnBs_get : ∀ {l : List Nat} {ds : List Bx}, rnBs bs ks l = some ds → ds.length = l.length ∧ ∀ (j : Nat) d, ds[j]? = some d → ∃ k b, l[j]? = some k ∧ bs[k]? = some b ∧ rnB ks b = some d
  | [], ds, h => by
    cases h
    exact ⟨rfl, fun i d hd => by simp at hd⟩
  | k :: r, ds, h => by
    unfold rnBs at h
    split at h
    · rename_i b l h1 h2
      cases h
      obtain ⟨k1, k2⟩ := rnBs_get h2
      refine ⟨by simp [k1], fun i d hd => ?_⟩
      cases i with
      | zero =>
        obtain rfl : b = d := by simpa using hd
        obtain ⟨b0, hb, he⟩ := Option.bind_eq_some_iff.1 h1
        exact ⟨k, b0, rfl, hb, he⟩
      | succ i =>
        obtain ⟨k', b', h3, h4, h5⟩ := k2 i d (by simpa using hd)
        exact ⟨k', b', by simpa using h3, h4, h5⟩
    · cases h

theorem rnB_live {b d : Bx} (h : rnB ks b = some d) : d.live = b.live := by
  cases b with
  | cells cs =>
    obtain ⟨ds, _, rfl⟩ := Option.map_eq_some_iff.1 h
    rfl
  | _ => cases h; rfl

theorem rnTs_get : ∀ {l : List V} {live : List Nat} {i0 : Nat}, (rnTs ks live i0 l).length = l.length ∧ ∀ (i : Nat) y, (rnTs ks live i0 l)[i]? = some y → y = .gone ∨ ∃ x, l[i]? = some x ∧ rn ks x = some y
  | [], live, i0 => ⟨rfl, fun i y h => by simp [rnTs] at h⟩
  | x :: r, live, i0 => by
    obtain ⟨k1, k2⟩ := rnTs_get (l := r) (live := live) (i0 := i0 + 1)
    refine ⟨by simp [rnTs, k1], fun i y hy => ?_⟩
    cases i with
    | zero =>
      have : (if live.contains i0 then (rn ks x).getD .gone else .gone) = y := by simpa [rnTs] using hy
      split at this
      · cases hr : rn ks x with
        | none => rw [hr] at this; exact .inl this.symm
        | some z => rw [hr] at this; exact .inr ⟨x, rfl, by rw [hr]; exact congrArg some this⟩
      · exact .inl this.symm
    | succ i =>
      rcases k2 i y (by simpa [rnTs] using hy) with h | ⟨z, hz, he⟩
      · exact .inl h
      · exact .inr ⟨z, by simpa using hz, he⟩

theorem gc_core {m : Nat} {ts : List V} {ks : List Nat} (live : List Nat) (hb : rnBs bs ks ks = some bs2) (hn : ks.Nodup) (hm : ∀ k, k < m → k < bs.length → ks[k]? = some k) {a : Act} (hs : Sim T bs φ w) (ht : Tm (okOf T bs φ) w φ ts a) :
    ∃ φ2, Sim T bs2 φ2 w ∧ Tm (okOf T bs2 φ2) w φ2 (rnTs ks live 0 ts) a ∧ ExtM m bs φ w bs2 φ2 w := by
  obtain ⟨b1, b2⟩ := rnBs_get hb
  have hlt : ∀ (j k : Nat), ks[j]? = some k → k < bs.length := fun j k hk => by
    obtain ⟨d, hd⟩ : ∃ d, bs2[j]? = some d := ⟨_, List.getElem?_eq_getElem (by rw [b1]; exact (List.getElem?_eq_some_iff.1 hk).1)⟩
    obtain ⟨k', b, h1, h2, _⟩ := b2 j d hd
    obtain rfl := Option.some.inj (hk.symm.trans h1)
    exact (List.getElem?_eq_some_iff.1 h2).1
  have hφ : ∀ (j k : Nat) v, ks[j]? = some k → φ[k]? = some v → (ks.map fun k => φ.getD k Go.undef)[j]? = some v := fun j k v hj hv => by
    rw [List.getElem?_map, hj]
    simp [List.getD, hv]
  have hφ' : ∀ (j : Nat) v, (ks.map fun k => φ.getD k Go.undef)[j]? = some v → ∃ k, ks[j]? = some k ∧ φ[k]? = some v := fun j v hv => by
    rw [List.getElem?_map] at hv
    obtain ⟨k, hk, rfl⟩ := Option.map_eq_some_iff.1 hv
    have := hlt j k hk
    rw [← hs.len] at this
    exact ⟨k, hk, by simp [List.getD, List.getElem?_eq_getElem this]⟩
  have hmine : ∀ g, mine bs2 (ks.map fun k => φ.getD k Go.undef) g → mine bs φ g := by
    rintro g ⟨j, d, v, hd, hl, hv, hg⟩
    obtain ⟨k, b, h1, h2, h3⟩ := b2 j d hd
    obtain ⟨k', h4, h5⟩ := hφ' j v hv
    obtain rfl := Option.some.inj (h1.symm.trans h4)
    exact ⟨k, b, v, h2, by rw [← rnB_live h3]; exact hl, h5, hg⟩
  have hok : ∀ g, okOf T bs φ g → g < w.heap.size → okOf T bs2 (ks.map fun k => φ.getD k Go.undef) g := fun g hg _ => ⟨hg.1, fun h => hg.2 (hmine g h)⟩
  have hs2 : Sim T bs2 (ks.map fun k => φ.getD k Go.undef) w := by
    refine ⟨?_, fun g h => hs.off g (hmine g h), hs.tb, by simp [b1], ?_⟩
    · intro j j' d d' v v' g h1 l1 p1 g1 h2 l2 p2 g2
      obtain ⟨k, b, q1, q2, q3⟩ := b2 j d h1
      obtain ⟨k', b', r1, r2, r3⟩ := b2 j' d' h2
      obtain ⟨x1, y1, z1⟩ := hφ' j v p1
      obtain ⟨x2, y2, z2⟩ := hφ' j' v' p2
      obtain rfl := Option.some.inj (q1.symm.trans y1)
      obtain rfl := Option.some.inj (r1.symm.trans y2)
      have := hs.inj k k' b b' v v' g q2 (by rw [← rnB_live q3]; exact l1) z1 g1 r2 (by rw [← rnB_live r3]; exact l2) z2 g2
      subst this
      have e1 := List.getElem?_eq_some_iff.1 q1
      have e2 := List.getElem?_eq_some_iff.1 r1
      exact (List.getElem_inj hn).1 (e1.2.trans e2.2.symm)
    · intro j d hd
      obtain ⟨k, b, q1, q2, q3⟩ := b2 j d hd
      obtain ⟨v, hv, ho⟩ := hs.box k b q2
      refine ⟨v, hφ j k v q1 hv, ?_⟩
      cases b with
      | dead => cases q3; trivial
      | iter s p => cases q3; exact ho
      | row e sz xs =>
        cases q3
        obtain ⟨h1, vals, h2, h3⟩ := ho
        exact ⟨h1, vals, h2, fun i x j y hi hj => (h3 i x j y hi hj).okm hok⟩
      | cells cs =>
        obtain ⟨ds, hds, rfl⟩ := Option.map_eq_some_iff.1 q3
        obtain ⟨k1, k2⟩ := rnL_get hds
        obtain ⟨g, arr, t, h1, h2, h3, h4⟩ := ho
        refine ⟨g, arr, t, h1, h2, by rw [h3, k1], fun i c hi => ?_⟩
        obtain ⟨c0, hc0, he⟩ := k2 i c hi
        exact ⟨rnA_atomic he, rnA_sound hok hφ he (h4 i c0 hc0).2⟩
  have ht2 : Tm (okOf T bs2 (ks.map fun k => φ.getD k Go.undef)) w (ks.map fun k => φ.getD k Go.undef) (rnTs ks live 0 ts) a := by
    obtain ⟨k1, k2⟩ := rnTs_get (ks := ks) (l := ts) (live := live) (i0 := 0)
    refine ⟨by rw [k1]; exact ht.1, ht.2.1, fun i y hy => ?_⟩
    rcases k2 i y hy with rfl | ⟨x, hx, he⟩
    · exact .gone _
    · exact rn_sound hok hφ he (ht.2.2 i x hx)
  have hx : ExtM m bs φ w bs2 (ks.map fun k => φ.getD k Go.undef) w := ⟨rfl, rfl, rfl, Nat.le_refl _, fun k v hk hv => hφ k k v (hm k hk (by rw [← hs.len]; exact (List.getElem?_eq_some_iff.1 hv).1)) hv, fun _ _ _ => rfl, fun g hg => .inl (hmine g hg)⟩
  exact ⟨_, hs2, ht2, hx⟩

/-- What is no longer needed is let go; the boxes below the floor keep their places. -/
theorem Ok.gc {P : Program} {m : Nat} {c : Code} {Q : Ex → List V → List Bx → Prop} {ts : List V} (ks live : List Nat) (hb : rnBs bs ks ks = some bs2) (hn : ks.Nodup) (hm : ∀ k, k < m → k < bs.length → ks[k]? = some k)
    (h : Ok P m c Q (rnTs ks live 0 ts) bs2) : Ok P m c Q ts bs := by
  intro T φ w a hs ht K hK
  obtain ⟨φ2, hs2, ht2, hx⟩ := gc_core live hb hn hm hs ht
  exact h T _ w a hs2 ht2 K fun e ts' bs' φ' a' w' q he => hK e ts' bs' φ' a' w' q (hx.trans he)

/-- What holds when something has been let go. -/
def Gc (m : Nat) (Q : Ex → List V → List Bx → Prop) : Ex → List V → List Bx → Prop := fun e ts bs => ∃ ks live bs2, rnBs bs ks ks = some bs2 ∧ ks.Nodup ∧ (∀ k, k < m → k < bs.length → ks[k]? = some k) ∧ Q e (rnTs ks live 0 ts) bs2

theorem Ok.after {P : Program} {m : Nat} {c : Code} {Q : Ex → List V → List Bx → Prop} {ts : List V} (h : Ok P m c (Gc m Q) ts bs) : Ok P m c Q ts bs := by
  intro T φ w a hs ht K hK
  refine h T φ w a hs ht K ?_
  rintro e ts' bs' φ' a' w' ⟨ks, live, bs2, hb, hn, hm, q⟩ he hs' ht'
  obtain ⟨φ2, hs2, ht2, hx⟩ := gc_core live hb hn hm hs' ht'
  exact hK e _ _ φ2 a' w' q (he.trans hx) hs2 ht2

/-- The floor, one by one. -/
theorem floor_ok {ks : List Nat} {m n : Nat} (h : (List.range m).all (fun k => ks[k]? == some k) = true) : ∀ k, k < m → k < n → ks[k]? = some k := fun k hk _ => by
  have := List.all_eq_true.1 h k (List.mem_range.2 hk)
  simpa using this

/-! ### Operations whose bounds are to be shown -/
variable {L : Lay} {C : CallT} {ts : List V}

theorem evApp_row {t : TypeId} {e sz b k k2 : Nat} {e2 : TypeId} {xs ys : List (List S)} (hs : L.sl t = some (e, sz)) (hb : L.byt e = some b) (h2 : bs[k2]? = some (.row e2 sz ys)) (hy : ys.isEmpty = false) (h1 : bs[k]? = some (.row e sz xs))
    (hl1 : (xs.length + ys.length) * b ≤ 140737488355328) (hl2 : xs.length + ys.length ≤ 140737488355328) : evApp L t (.row k) k2 bs = some (.row bs.length, bs.set k .dead ++ [.row e sz (xs ++ ys)]) := by
  simp only [evApp, hs, hb, h2, h1]
  rw [if_pos ⟨trivial, hy⟩, if_pos ⟨trivial, trivial, hl1, hl2⟩]

theorem ev_app {t : TypeId} {s x : Operand} {e sz b k k2 : Nat} {e2 : TypeId} {xs ys : List (List S)} (hs0 : evO ts s = some (.row k)) (hx0 : evO ts x = some (.row k2)) (hs : L.sl t = some (e, sz)) (hb : L.byt e = some b) (h2 : bs[k2]? = some (.row e2 sz ys)) (hy : ys.isEmpty = false) (h1 : bs[k]? = some (.row e sz xs))
    (hl1 : (xs.length + ys.length) * b ≤ 140737488355328) (hl2 : xs.length + ys.length ≤ 140737488355328) : evX L C (.call { callee := .builtin .append, args := #[s, x], argTypes := #[t, t] }) ts bs = some (.row bs.length, bs.set k .dead ++ [.row e sz (xs ++ ys)]) := by
  simp only [evX, evCall, hs0, hx0, if_true, h2]
  cases ys with
  | nil => cases hy
  | cons y r => exact evApp_row hs hb h2 hy h1 hl1 hl2

theorem ev_ix {t : TypeId} {x i : Operand} {xs : List (List S)} {e : List S} {n : Nat} {q : TypeId} {k : IntKind} {z : Nat} (hx : evO ts x = some (.sl xs)) (hi : evO ts i = some (.val (.int k (z : Int)))) (hl : L.sl t = some (q, n)) (he : xs[z]? = some e) (hn : e.length = n) :
    evX L C (.indexAddr t x i) ts bs = some (.eptr e, bs) := by
  simp only [evX, ev, hx, hi, hl]
  rw [if_pos (Int.natCast_nonneg z)]
  simp [idxP, idxS, he, hn]

end

end Go.Proofs.YtiefcnghjcafbaaDoorV
