/- A small calculus of values over the model's rules: what a Go function computes is told over plain values (numbers, strings, structs, slices that do not change) and a short list of boxes (variables in memory, slices of the call's own); this text: the values, what they mean in a world, and how a world goes on. -/
import Derived.WalkKit
import Derived.KernelRfl
import Derived.Laws.AppendOwn
import Derived.Laws.OwnMore
namespace Go.Proofs.YtiefcnghjcafbaaDoorV
open Go Go.RowKit

/-- A value that does not change: a number, a bool, a string (as the model has them), or a slice of such rows of cells. -/
inductive S where
  | val (v : Value)
  | sl (xs : List (List S))

/-- A value in a call. -/
inductive V where

  | val (v : Value)
  | nils
  | sl (xs : List (List S))
  | eptr (cs : List S)
  | row (k : Nat)
  | ptr (k off : Nat)
  | rptr (k sz i j : Nat)
  | win (k sz o n c : Nat)
  | fn (f : FuncId) (cap : List V)
  | agg (cs : List V)
  | tup (vs : List V)
  | gone

def S.up : S → V
  | .val v => .val v
  | .sl xs => .sl xs

def V.atomic : V → Bool
  | .agg _ | .tup _ | .gone => false
  | _ => true

/-- A box: a variable in memory, a slice of the call's own, a slice that has been made fast. -/
inductive Bx where
  | dead
  | cells (cs : List V)
  | row (e : TypeId) (sz : Nat) (xs : List (List S))
  | iter (s : ByteArray) (pos : Nat)

def Bx.live : Bx → Bool
  | .cells _ | .row _ _ _ | .iter _ _ => true
  | _ => false

/-- A value of one cell that leads nowhere. -/
def scalar : Value → Bool
  | .int _ _ | .bool _ | .string _ | .nilFunc | .pointer none | .nilIface | .slice _ _ _ => true
  | _ => false

theorem scalar_one {v : Value} (h : scalar v = true) : v.oneCell' = true := by
  cases v <;> simp_all [scalar, Value.oneCell']

def blkOf : Value → Option Nat
  | .slice (some a) _ _ => some a.block
  | .pointer (some a) => some a.block
  | _ => none

def mine (bs : List Bx) (φ : List Value) (g : Nat) : Prop :=
  ∃ (k : Nat) (b : Bx) (v : Value), bs[k]? = some b ∧ b.live = true ∧ φ[k]? = some v ∧ blkOf v = some g

def okOf (T : Nat → Prop) (bs : List Bx) (φ : List Value) (g : Nat) : Prop := ¬ T g ∧ ¬ mine bs φ g

inductive RS (ok : Nat → Prop) (w : World) : S → Value → Prop
  | val (v : Value) (h : scalar v = true) : RS ok w (.val v) v
  | nil (A : Option Addr) (c : Nat) (h : c ≤ maxLen) : RS ok w (.sl []) (.slice A 0 c)
  | cons (xs : List (List S)) (ad : Addr) (c sz : Nat) (f : Nat → Nat → Value) (h0 : xs ≠ []) (hs : ∀ x ∈ xs, x.length = sz) (hc : xs.length ≤ c) (hm : c ≤ maxLen)
      (hok : ok ad.block) (hlt : ad.block < w.heap.size) (hcell : ∀ i x j y, xs[i]? = some x → x[j]? = some y → w.cell? (ad.add (i * sz + j)) = some (f i j))
      (hr : ∀ i x j y, xs[i]? = some x → x[j]? = some y → RS ok w y (f i j)) : RS ok w (.sl xs) (.slice (some ad) xs.length c)

inductive RV (ok : Nat → Prop) (w : World) (φ : List Value) : V → Value → Prop
  | val (v : Value) (h : scalar v = true) : RV ok w φ (.val v) v
  | nils : RV ok w φ .nils (.slice none 0 0)
  | sl (xs : List (List S)) (v : Value) (h : RS ok w (.sl xs) v) : RV ok w φ (.sl xs) v
  | eptr (cs : List S) (a : Addr) (hok : ok a.block) (hlt : a.block < w.heap.size) (f : Nat → Value) (hcell : ∀ j y, cs[j]? = some y → w.cell? (a.add j) = some (f j))
      (hr : ∀ j y, cs[j]? = some y → RS ok w y (f j)) : RV ok w φ (.eptr cs) (.pointer (some a))
  | row (k : Nat) (A : Option Addr) (n c : Nat) (h : φ[k]? = some (.slice A n c)) : RV ok w φ (.row k) (.slice A n c)
  | ptr (k off g : Nat) (h : φ[k]? = some (.pointer (some ⟨g, 0, none⟩))) : RV ok w φ (.ptr k off) (.pointer (some ⟨g, off, none⟩))
  | rptr (k sz i j g n c : Nat) (h : φ[k]? = some (.slice (some ⟨g, 0, none⟩) n c)) : RV ok w φ (.rptr k sz i j) (.pointer (some ⟨g, i * sz + j, none⟩))
  | win (k sz o n c g : Nat) (h : φ[k]? = some (.pointer (some ⟨g, 0, none⟩))) (hn : n ≤ c) (hm : c ≤ maxLen) : RV ok w φ (.win k sz o n c) (.slice (some ⟨g, o * sz, none⟩) n c)
  | fn (f : FuncId) (cap : List V) (vs : Array Value) (hl : cap.length = vs.size) (h : ∀ i c, cap[i]? = some c → RV ok w φ c (vs.getD i Go.undef)) : RV ok w φ (.fn f cap) (.func (.func f) #[] vs)
  | agg (cs : List V) (arr : Array Value) (hl : cs.length = arr.size) (ha : ∀ c ∈ cs, c.atomic = true) (h : ∀ i c, cs[i]? = some c → RV ok w φ c (arr.getD i Go.undef)) : RV ok w φ (.agg cs) (.agg arr)
  | tup (vs : List V) (arr : Array Value) (hl : vs.length = arr.size) (h : ∀ i c, vs[i]? = some c → RV ok w φ c (arr.getD i Go.undef)) : RV ok w φ (.tup vs) (.tuple arr)
  | gone (v : Value) : RV ok w φ .gone v

/-- What a box says of its value, and of memory. -/
def BoxOk (ok : Nat → Prop) (φ : List Value) (w : World) : Bx → Value → Prop
  | .dead, _ => True
  | .cells cs, v => ∃ g arr t, v = .pointer (some ⟨g, 0, none⟩) ∧ w.heap[g]? = some (.cells arr t (0, 0)) ∧ arr.size = cs.length ∧
      ∀ j c, cs[j]? = some c → c.atomic = true ∧ RV ok w φ c (arr.getD j Go.undef)
  | .row e sz xs, v => (∀ x ∈ xs, x.length = sz) ∧ ∃ vals, w.ownsRow 0 e sz v xs.length vals ∧
      ∀ i x j y, xs[i]? = some x → x[j]? = some y → RS ok w y (vals.getD (i * sz + j) Go.undef)
  | .iter s p, v => ∃ g, v = .pointer (some ⟨g, 0, none⟩) ∧ w.heap[g]? = some (.stringIter s p)

/-- The boxes are what they say, each live one by a block of its own. -/
structure Sim (T : Nat → Prop) (bs : List Bx) (φ : List Value) (w : World) : Prop where
  inj : ∀ (k k' : Nat) (b b' : Bx) (v v' : Value) (g : Nat), bs[k]? = some b → b.live = true → φ[k]? = some v → blkOf v = some g → bs[k']? = some b' → b'.live = true → φ[k']? = some v' → blkOf v' = some g → k = k'
  off : ∀ g, mine bs φ g → ¬ T g
  tb : ∀ g, T g → g < w.heap.size
  len : φ.length = bs.length
  box : ∀ (k : Nat) (b : Bx), bs[k]? = some b → ∃ v, φ[k]? = some v ∧ BoxOk (okOf T bs φ) φ w b v

/-- How a world goes on. -/
structure Ext (bs : List Bx) (φ : List Value) (w : World) (bs' : List Bx) (φ' : List Value) (w' : World) : Prop where
  os : w'.os = w.os
  tape : w'.tape = w.tape
  output : w'.output = w.output
  size : w.heap.size ≤ w'.heap.size
  pre : ∀ (k : Nat) (v : Value), φ[k]? = some v → φ'[k]? = some v
  keep : ∀ g, g < w.heap.size → ¬ mine bs φ g → w'.heap[g]? = w.heap[g]?
  fresh : ∀ g, mine bs' φ' g → mine bs φ g ∨ w.heap.size ≤ g

theorem Ext.refl (bs : List Bx) (φ : List Value) (w : World) : Ext bs φ w bs φ w :=
  ⟨rfl, rfl, rfl, Nat.le_refl _, fun _ _ h => h, fun _ _ _ => rfl, fun _ h => .inl h⟩

/-- How a world goes on within a call: the boxes below the floor m keep their places. -/
structure ExtM (m : Nat) (bs : List Bx) (φ : List Value) (w : World) (bs' : List Bx) (φ' : List Value) (w' : World) : Prop where
  os : w'.os = w.os
  tape : w'.tape = w.tape
  output : w'.output = w.output
  size : w.heap.size ≤ w'.heap.size
  pre : ∀ (k : Nat) (v : Value), k < m → φ[k]? = some v → φ'[k]? = some v
  keep : ∀ g, g < w.heap.size → ¬ mine bs φ g → w'.heap[g]? = w.heap[g]?
  fresh : ∀ g, mine bs' φ' g → mine bs φ g ∨ w.heap.size ≤ g

theorem Ext.toM {m : Nat} {bs bs' : List Bx} {φ φ' : List Value} {w w' : World} (h : Ext bs φ w bs' φ' w') : ExtM m bs φ w bs' φ' w' := ⟨h.os, h.tape, h.output, h.size, fun k v _ hk => h.pre k v hk, h.keep, h.fresh⟩
theorem ExtM.full {m : Nat} {bs bs' : List Bx} {φ φ' : List Value} {w w' : World} (h : ExtM m bs φ w bs' φ' w') (hl : φ.length ≤ m) : Ext bs φ w bs' φ' w' :=
  ⟨h.os, h.tape, h.output, h.size, fun k v hk => h.pre k v (Nat.lt_of_lt_of_le (List.getElem?_eq_some_iff.1 hk).1 hl) hk, h.keep, h.fresh⟩
theorem ExtM.refl (m : Nat) (bs : List Bx) (φ : List Value) (w : World) : ExtM m bs φ w bs φ w := (Ext.refl bs φ w).toM

theorem ExtM.trans {m : Nat} {bs bs1 bs2 : List Bx} {φ φ1 φ2 : List Value} {w w1 w2 : World} (h : ExtM m bs φ w bs1 φ1 w1) (k : ExtM m bs1 φ1 w1 bs2 φ2 w2) : ExtM m bs φ w bs2 φ2 w2 where
  os := k.os.trans h.os
  tape := k.tape.trans h.tape
  output := k.output.trans h.output
  size := Nat.le_trans h.size k.size
  pre := fun i v hm hi => k.pre i v hm (h.pre i v hm hi)
  keep := fun g hg hm => by
    refine (k.keep g (Nat.lt_of_lt_of_le hg h.size) (fun hm1 => ?_)).trans (h.keep g hg hm)
    rcases h.fresh g hm1 with h1 | h1
    · exact hm h1
    · omega
  fresh := fun g hg => by
    rcases k.fresh g hg with h1 | h1
    · exact h.fresh g h1
    · exact .inr (Nat.le_trans h.size h1)

theorem Ext.trans {bs bs1 bs2 : List Bx} {φ φ1 φ2 : List Value} {w w1 w2 : World} (h : Ext bs φ w bs1 φ1 w1) (k : Ext bs1 φ1 w1 bs2 φ2 w2) : Ext bs φ w bs2 φ2 w2 where
  os := k.os.trans h.os
  tape := k.tape.trans h.tape
  output := k.output.trans h.output
  size := Nat.le_trans h.size k.size
  pre := fun i v hi => k.pre i v (h.pre i v hi)
  keep := fun g hg hm => by
    refine (k.keep g (Nat.lt_of_lt_of_le hg h.size) (fun hm1 => ?_)).trans (h.keep g hg hm)
    rcases h.fresh g hm1 with h1 | h1
    · exact hm h1
    · omega
  fresh := fun g hg => by
    rcases k.fresh g hg with h1 | h1
    · exact h.fresh g h1
    · exact .inr (Nat.le_trans h.size h1)

theorem cell_lt {w : World} {a : Addr} {v : Value} (h : w.cell? a = some v) : a.block < w.heap.size := World.block_lt_of_cell? w a h

theorem add_block (a : Addr) (i : Nat) : (a.add i).block = a.block := by unfold Addr.add; split <;> rfl

theorem RS.move {ok ok' : Nat → Prop} {w w' : World} (hs : w.heap.size ≤ w'.heap.size) (hk : ∀ g, ok g → g < w.heap.size → ok' g ∧ w'.heap[g]? = w.heap[g]?) {x : S} {v : Value} (h : RS ok w x v) : RS ok' w' x v := by
  induction h with
  | val v h => exact .val v h
  | nil A c h => exact .nil A c h
  | cons xs ad c sz f h0 hsz hc hm hok hlt hcell hr ih =>
    obtain ⟨h1, h2⟩ := hk _ hok hlt
    exact .cons xs ad c sz f h0 hsz hc hm h1 (Nat.lt_of_lt_of_le hlt hs) (fun i x j y hx hy => (World.cell?_of_block (w := w) (by rw [add_block]; exact h2)).trans (hcell i x j y hx hy)) ih

theorem RV.move {ok ok' : Nat → Prop} {w w' : World} {φ φ' : List Value} (hs : w.heap.size ≤ w'.heap.size) (hk : ∀ g, ok g → g < w.heap.size → ok' g ∧ w'.heap[g]? = w.heap[g]?)
    (hp : ∀ (k : Nat) v, φ[k]? = some v → φ'[k]? = some v) {x : V} {v : Value} (h : RV ok w φ x v) : RV ok' w' φ' x v := by
  induction h with
  | val v h => exact .val v h
  | nils => exact .nils
  | sl xs v h => exact .sl xs v (h.move hs hk)
  | eptr cs a hok hlt f hcell hr =>
    obtain ⟨h1, h2⟩ := hk _ hok hlt
    exact .eptr cs a h1 (Nat.lt_of_lt_of_le hlt hs) f (fun j y hy => (World.cell?_of_block (w := w) (by rw [add_block]; exact h2)).trans (hcell j y hy)) (fun j y hy => (hr j y hy).move hs hk)
  | row k A n c h => exact .row k A n c (hp _ _ h)
  | ptr k off g h => exact .ptr k off g (hp _ _ h)
  | rptr k sz i j g n c h => exact .rptr k sz i j g n c (hp _ _ h)
  | win k sz o n c g h hn hm => exact .win k sz o n c g (hp _ _ h) hn hm
  | fn f cap vs hl h ih => exact .fn f cap vs hl ih
  | agg cs arr hl ha h ih => exact .agg cs arr hl ha ih
  | tup vs arr hl h ih => exact .tup vs arr hl ih
  | gone v => exact .gone v

section
variable {T : Nat → Prop} {bs bs' : List Bx} {φ φ' : List Value} {w w' : World}

theorem Ext.ok (h : Ext bs φ w bs' φ' w') : ∀ g, okOf T bs φ g → g < w.heap.size → okOf T bs' φ' g ∧ w'.heap[g]? = w.heap[g]? := fun g hg hl =>
  ⟨⟨hg.1, fun hm => by
    rcases h.fresh g hm with h1 | h1
    · exact hg.2 h1
    · omega⟩, h.keep g hl hg.2⟩
theorem RS.ext {x : S} {v : Value} (hr : RS (okOf T bs φ) w x v) (h : Ext bs φ w bs' φ' w') : RS (okOf T bs' φ') w' x v := hr.move h.size h.ok
theorem RV.ext {x : V} {v : Value} (hr : RV (okOf T bs φ) w φ x v) (h : Ext bs φ w bs' φ' w') : RV (okOf T bs' φ') w' φ' x v := hr.move h.size h.ok h.pre

theorem mine_lt (hs : Sim T bs φ w) {g : Nat} (h : mine bs φ g) : g < w.heap.size := by
  obtain ⟨k, b, v, hb, hl, hv, hg⟩ := h
  obtain ⟨v', hv', ho⟩ := hs.box k b hb
  obtain rfl : v = v' := Option.some.inj (hv.symm.trans hv')
  cases b with
  | dead => cases hl
  | iter s p =>
    obtain ⟨g', rfl, hh⟩ := ho
    obtain rfl : g' = g := by simpa [blkOf] using hg
    exact (Array.getElem?_eq_some_iff.1 hh).1
  | cells cs =>
    obtain ⟨g', arr, t, rfl, hh, _⟩ := ho
    obtain rfl : g' = g := by simpa [blkOf] using hg
    exact (Array.getElem?_eq_some_iff.1 hh).1
  | row e sz xs =>
    obtain ⟨_, vals, ho, _⟩ := ho
    rcases ho.2 with ⟨rfl, _⟩ | ⟨g', cap, cur, rfl, _, hh, _⟩
    · simp [blkOf] at hg
    · obtain rfl : g' = g := by simpa [blkOf] using hg
      exact (Array.getElem?_eq_some_iff.1 hh).1

theorem own_same {e sz n : Nat} {v : Value} {xs : List Value} (h : w.ownsRow 0 e sz v n xs) (hk : ∀ g, blkOf v = some g → w'.heap[g]? = w.heap[g]?) : w'.ownsRow 0 e sz v n xs := by
  refine ⟨h.1, ?_⟩
  rcases h.2 with h1 | ⟨g, cap, cur, rfl, h1, h2, h3⟩
  · exact .inl h1
  · exact .inr ⟨g, cap, cur, rfl, h1, (hk g rfl).trans h2, h3⟩

/-- A box whose block has not been touched says what it said. -/
theorem BoxOk.ext {b : Bx} {v : Value} (hb : BoxOk (okOf T bs φ) φ w b v) (h : Ext bs φ w bs' φ' w') (hk : b.live = true → ∀ g, blkOf v = some g → w'.heap[g]? = w.heap[g]?) : BoxOk (okOf T bs' φ') φ' w' b v := by
  cases b with
  | dead => trivial
  | iter s p =>
    obtain ⟨g, rfl, hh⟩ := hb
    exact ⟨g, rfl, (hk rfl g rfl).trans hh⟩
  | cells cs =>
    obtain ⟨g, arr, t, rfl, hh, hl, hc⟩ := hb
    exact ⟨g, arr, t, rfl, (hk rfl g rfl).trans hh, hl, fun j c hj => ⟨(hc j c hj).1, (hc j c hj).2.ext h⟩⟩
  | row e sz xs =>
    obtain ⟨hl, vals, ho, hc⟩ := hb
    exact ⟨hl, vals, own_same ho (hk rfl), fun i x j y hx hy => (hc i x j y hx hy).ext h⟩

/-- The boxes behind a step: each is an elder one, its block not touched, or is shown anew. -/
theorem Sim.step (hs : Sim T bs φ w) (h : Ext bs φ w bs' φ' w')
    (hinj : ∀ (k k' : Nat) (b b' : Bx) (v v' : Value) (g : Nat), bs'[k]? = some b → b.live = true → φ'[k]? = some v → blkOf v = some g → bs'[k']? = some b' → b'.live = true → φ'[k']? = some v' → blkOf v' = some g → k = k')
    (hlen : φ'.length = bs'.length)
    (hbox : ∀ (k : Nat) (b : Bx), bs'[k]? = some b → (bs[k]? = some b ∧ (b.live = true → ∀ v g, φ[k]? = some v → blkOf v = some g → w'.heap[g]? = w.heap[g]?)) ∨ ∃ v, φ'[k]? = some v ∧ BoxOk (okOf T bs' φ') φ' w' b v) : Sim T bs' φ' w' where
  inj := hinj
  off := fun g hg => by
    rcases h.fresh g hg with h1 | h1
    · exact hs.off g h1
    · exact fun ht => by have := hs.tb g ht; omega
  tb := fun g hg => Nat.lt_of_lt_of_le (hs.tb g hg) h.size
  len := hlen
  box := fun k b hb => by
    rcases hbox k b hb with ⟨h1, h2⟩ | h1
    · obtain ⟨v, hv, ho⟩ := hs.box k b h1
      exact ⟨v, h.pre k v hv, ho.ext h (fun hl g hg => h2 hl v g hv hg)⟩
    · exact h1

/-- A new box at the end. -/
theorem ext_push {b : Bx} {v : Value} (hs : Sim T bs φ w) (hw : Below w.heap.size w w') (hv : ∀ g, blkOf v = some g → w.heap.size ≤ g) : Ext bs φ w (bs ++ [b]) (φ ++ [v]) w' where
  os := hw.os
  tape := hw.tape
  output := hw.output
  size := hw.size
  pre := fun k u hk => by rw [List.getElem?_append_left (List.getElem?_eq_some_iff.1 hk).1]; exact hk
  keep := fun g hg _ => hw.block g hg
  fresh := fun g hg => by
    obtain ⟨k, b', u, hb, hl, hu, hg⟩ := hg
    rcases Nat.lt_or_ge k bs.length with h | h
    · rw [List.getElem?_append_left h] at hb
      rw [List.getElem?_append_left (by rw [hs.len]; exact h)] at hu
      exact .inl ⟨k, b', u, hb, hl, hu, hg⟩
    · rw [List.getElem?_append_right (by rw [hs.len]; exact h)] at hu
      have hk : k - φ.length = 0 := by
        have := (List.getElem?_eq_some_iff.1 hu).1
        simpa using this
      rw [hk] at hu
      obtain rfl : v = u := by simpa using hu
      exact .inr (hv g hg)

theorem Sim.push {b : Bx} {v : Value} (hs : Sim T bs φ w) (hw : Below w.heap.size w w') (hv : ∀ g, blkOf v = some g → w.heap.size ≤ g)
    (hb : Ext bs φ w (bs ++ [b]) (φ ++ [v]) w' → BoxOk (okOf T (bs ++ [b]) (φ ++ [v])) (φ ++ [v]) w' b v) : Sim T (bs ++ [b]) (φ ++ [v]) w' := by
  have he := ext_push (b := b) hs hw hv
  have hin : ∀ (k : Nat) (b' : Bx) (u : Value) (g : Nat), (bs ++ [b])[k]? = some b' → b'.live = true → (φ ++ [v])[k]? = some u → blkOf u = some g → (bs[k]? = some b' ∧ φ[k]? = some u ∧ g < w.heap.size) ∨ (k = bs.length ∧ w.heap.size ≤ g) := by
    intro k b' u g hb hl hu hg
    rcases Nat.lt_or_ge k bs.length with h | h
    · rw [List.getElem?_append_left h] at hb
      rw [List.getElem?_append_left (by rw [hs.len]; exact h)] at hu
      exact .inl ⟨hb, hu, mine_lt hs ⟨k, b', u, hb, hl, hu, hg⟩⟩
    · have hk : k = bs.length := by
        have := (List.getElem?_eq_some_iff.1 hb).1
        simp at this
        omega
      subst hk
      rw [List.getElem?_append_right (by rw [hs.len]; exact Nat.le_refl _), hs.len, Nat.sub_self] at hu
      obtain rfl : v = u := by simpa using hu
      exact .inr ⟨rfl, hv g hg⟩
  refine hs.step he ?_ (by simp [hs.len]) ?_
  · intro k k' b1 b2 v1 v2 g h1 l1 p1 g1 h2 l2 p2 g2
    rcases hin k b1 v1 g h1 l1 p1 g1 with ⟨a1, a2, a3⟩ | ⟨a1, a2⟩ <;> rcases hin k' b2 v2 g h2 l2 p2 g2 with ⟨c1, c2, c3⟩ | ⟨c1, c2⟩
    · exact hs.inj k k' b1 b2 v1 v2 g a1 l1 a2 g1 c1 l2 c2 g2
    · omega
    · omega
    · omega
  · intro k b' hk
    rcases Nat.lt_or_ge k bs.length with h | h
    · rw [List.getElem?_append_left h] at hk
      exact .inl ⟨hk, fun hl u g hu hg => hw.block g (mine_lt hs ⟨k, b', u, hk, hl, hu, hg⟩)⟩
    · have hk' : k = bs.length := by
        have := (List.getElem?_eq_some_iff.1 hk).1
        simp at this
        omega
      subst hk'
      obtain rfl : b = b' := by simpa using hk
      exact .inr ⟨v, by rw [List.getElem?_append_right (by rw [hs.len]; exact Nat.le_refl _), hs.len, Nat.sub_self]; rfl, hb he⟩

/-- A box is written anew in its place: its block alone is touched. -/
theorem ext_set {k : Nat} {b b' : Bx} {v : Value} (hb : bs[k]? = some b) (hl : b.live = true) (hv : φ[k]? = some v)
    (hos : w'.os = w.os) (htape : w'.tape = w.tape) (hout : w'.output = w.output) (hsz : w.heap.size ≤ w'.heap.size) (hkeep : ∀ g, g < w.heap.size → blkOf v ≠ some g → w'.heap[g]? = w.heap[g]?) :
    Ext bs φ w (bs.set k b') φ w' where
  os := hos
  tape := htape
  output := hout
  size := hsz
  pre := fun _ _ h => h
  keep := fun g hg hm => hkeep g hg (fun e => hm ⟨k, b, v, hb, hl, hv, e⟩)
  fresh := fun g hg => by
    obtain ⟨j, c, u, hc, hlc, hu, hg⟩ := hg
    by_cases hj : j = k
    · subst hj
      obtain rfl : v = u := Option.some.inj (hv.symm.trans hu)
      exact .inl ⟨j, b, v, hb, hl, hv, hg⟩
    · rw [List.getElem?_set_ne (Ne.symm hj)] at hc
      exact .inl ⟨j, c, u, hc, hlc, hu, hg⟩

theorem Sim.put {k : Nat} {b b' : Bx} {v : Value} (hs : Sim T bs φ w) (hb : bs[k]? = some b) (hl : b.live = true) (hv : φ[k]? = some v)
    (he : Ext bs φ w (bs.set k b') φ w') (hkeep : ∀ g, g < w.heap.size → blkOf v ≠ some g → w'.heap[g]? = w.heap[g]?)
    (hb' : BoxOk (okOf T (bs.set k b') φ) φ w' b' v) : Sim T (bs.set k b') φ w' := by
  have hlen : k < bs.length := (List.getElem?_eq_some_iff.1 hb).1
  have hel : ∀ (j : Nat) c, (bs.set k b')[j]? = some c → (j = k ∧ c = b') ∨ (j ≠ k ∧ bs[j]? = some c) := by
    intro j c hc
    by_cases hj : j = k
    · subst hj
      rw [List.getElem?_set_self hlen] at hc
      exact .inl ⟨rfl, (Option.some.inj hc).symm⟩
    · rw [List.getElem?_set_ne (Ne.symm hj)] at hc
      exact .inr ⟨hj, hc⟩
  have hold : ∀ (j : Nat) c, (bs.set k b')[j]? = some c → c.live = true → ∃ c', bs[j]? = some c' ∧ c'.live = true := by
    intro j c hc hlc
    rcases hel j c hc with ⟨rfl, rfl⟩ | ⟨_, h⟩
    · exact ⟨b, hb, hl⟩
    · exact ⟨c, h, hlc⟩
  refine hs.step he ?_ (by simp [hs.len]) ?_
  · intro i j b1 b2 v1 v2 g h1 l1 p1 g1 h2 l2 p2 g2
    obtain ⟨c1, k1, m1⟩ := hold i b1 h1 l1
    obtain ⟨c2, k2, m2⟩ := hold j b2 h2 l2
    exact hs.inj i j c1 c2 v1 v2 g k1 m1 p1 g1 k2 m2 p2 g2
  · intro j c hc
    rcases hel j c hc with ⟨rfl, rfl⟩ | ⟨hj, h⟩
    · exact .inr ⟨v, hv, hb'⟩
    · refine .inl ⟨h, fun hlc u g hu hg => hkeep g (mine_lt hs ⟨j, c, u, h, hlc, hu, hg⟩) (fun e => hj ?_)⟩
      exact hs.inj j k c b u v g h hlc hu hg hb hl hv e
end

end Go.Proofs.YtiefcnghjcafbaaDoorV
