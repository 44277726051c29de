/- Part 1 of 6 of the proof: V1, V2, V3, V4, V5, V6, V7, V8, V9, V10, V11, V12, W1, W2, W3. -/
import Derived.WalkKit
import Derived.KernelRfl
import Derived.Laws.AppendOwn
import Derived.Laws.OwnMore
import Derived.Deep.LoopGhost
import Derived.Deep.MidRow
import Derived.Laws.Small
import Derived.Laws.Strings
import Derived.Laws.Concat
import Derived.Laws.Slices
import Derived.ChangeKeysEq
import Derived.Maps.AppendAt
import Derived.Shelf.Abstract
import Derived.Orders
import Derived.Deep.Upon
import Derived.Laws.StructEq
import Derived.Laws.RangeString
import Derived.Laws.Externs
import Derived.Lib.Bytealg
/- A small calculus of values over the model's rules: what a Go function computes is told over plain values (numbers, strings, structs, slices that do not change) and a short list of boxes (variables in memory, slices of the call's own); this text: the values, what they mean in a world, and how a world goes on. -/
namespace Go.Proofs.YtiefcnghjcafbaaDoorV
open Go Go.RowKit

/-- A value that does not change: a number, a bool, a string (as the model has them), or a slice of such rows of cells. -/
inductive S where
  | val (v : Value)
  | sl (xs : List (List S))

/-- A value in a call. -/
inductive V where

  | val (v : Value)
  | nils
  | sl (xs : List (List S))
  | eptr (cs : List S)
  | row (k : Nat)
  | ptr (k off : Nat)
  | rptr (k sz i j : Nat)
  | win (k sz o n c : Nat)
  | fn (f : FuncId) (cap : List V)
  | agg (cs : List V)
  | tup (vs : List V)
  | gone

def S.up : S → V
  | .val v => .val v
  | .sl xs => .sl xs

def V.atomic : V → Bool
  | .agg _ | .tup _ | .gone => false
  | _ => true

/-- A box: a variable in memory, a slice of the call's own, a slice that has been made fast. -/
inductive Bx where
  | dead
  | cells (cs : List V)
  | row (e : TypeId) (sz : Nat) (xs : List (List S))
  | iter (s : ByteArray) (pos : Nat)

def Bx.live : Bx → Bool
  | .cells _ | .row _ _ _ | .iter _ _ => true
  | _ => false

/-- A value of one cell that leads nowhere. -/
def scalar : Value → Bool
  | .int _ _ | .bool _ | .string _ | .nilFunc | .pointer none | .nilIface | .slice _ _ _ => true
  | _ => false

theorem scalar_one {v : Value} (h : scalar v = true) : v.oneCell' = true := by
  cases v <;> simp_all [scalar, Value.oneCell']

def blkOf : Value → Option Nat
  | .slice (some a) _ _ => some a.block
  | .pointer (some a) => some a.block
  | _ => none

def mine (bs : List Bx) (φ : List Value) (g : Nat) : Prop :=
  ∃ (k : Nat) (b : Bx) (v : Value), bs[k]? = some b ∧ b.live = true ∧ φ[k]? = some v ∧ blkOf v = some g

def okOf (T : Nat → Prop) (bs : List Bx) (φ : List Value) (g : Nat) : Prop := ¬ T g ∧ ¬ mine bs φ g

inductive RS (ok : Nat → Prop) (w : World) : S → Value → Prop
  | val (v : Value) (h : scalar v = true) : RS ok w (.val v) v
  | nil (A : Option Addr) (c : Nat) (h : c ≤ maxLen) : RS ok w (.sl []) (.slice A 0 c)
  | cons (xs : List (List S)) (ad : Addr) (c sz : Nat) (f : Nat → Nat → Value) (h0 : xs ≠ []) (hs : ∀ x ∈ xs, x.length = sz) (hc : xs.length ≤ c) (hm : c ≤ maxLen)
      (hok : ok ad.block) (hlt : ad.block < w.heap.size) (hcell : ∀ i x j y, xs[i]? = some x → x[j]? = some y → w.cell? (ad.add (i * sz + j)) = some (f i j))
      (hr : ∀ i x j y, xs[i]? = some x → x[j]? = some y → RS ok w y (f i j)) : RS ok w (.sl xs) (.slice (some ad) xs.length c)

inductive RV (ok : Nat → Prop) (w : World) (φ : List Value) : V → Value → Prop
  | val (v : Value) (h : scalar v = true) : RV ok w φ (.val v) v
  | nils : RV ok w φ .nils (.slice none 0 0)
  | sl (xs : List (List S)) (v : Value) (h : RS ok w (.sl xs) v) : RV ok w φ (.sl xs) v
  | eptr (cs : List S) (a : Addr) (hok : ok a.block) (hlt : a.block < w.heap.size) (f : Nat → Value) (hcell : ∀ j y, cs[j]? = some y → w.cell? (a.add j) = some (f j))
      (hr : ∀ j y, cs[j]? = some y → RS ok w y (f j)) : RV ok w φ (.eptr cs) (.pointer (some a))
  | row (k : Nat) (A : Option Addr) (n c : Nat) (h : φ[k]? = some (.slice A n c)) : RV ok w φ (.row k) (.slice A n c)
  | ptr (k off g : Nat) (h : φ[k]? = some (.pointer (some ⟨g, 0, none⟩))) : RV ok w φ (.ptr k off) (.pointer (some ⟨g, off, none⟩))
  | rptr (k sz i j g n c : Nat) (h : φ[k]? = some (.slice (some ⟨g, 0, none⟩) n c)) : RV ok w φ (.rptr k sz i j) (.pointer (some ⟨g, i * sz + j, none⟩))
  | win (k sz o n c g : Nat) (h : φ[k]? = some (.pointer (some ⟨g, 0, none⟩))) (hn : n ≤ c) (hm : c ≤ maxLen) : RV ok w φ (.win k sz o n c) (.slice (some ⟨g, o * sz, none⟩) n c)
  | fn (f : FuncId) (cap : List V) (vs : Array Value) (hl : cap.length = vs.size) (h : ∀ i c, cap[i]? = some c → RV ok w φ c (vs.getD i Go.undef)) : RV ok w φ (.fn f cap) (.func (.func f) #[] vs)
  | agg (cs : List V) (arr : Array Value) (hl : cs.length = arr.size) (ha : ∀ c ∈ cs, c.atomic = true) (h : ∀ i c, cs[i]? = some c → RV ok w φ c (arr.getD i Go.undef)) : RV ok w φ (.agg cs) (.agg arr)
  | tup (vs : List V) (arr : Array Value) (hl : vs.length = arr.size) (h : ∀ i c, vs[i]? = some c → RV ok w φ c (arr.getD i Go.undef)) : RV ok w φ (.tup vs) (.tuple arr)
  | gone (v : Value) : RV ok w φ .gone v

/-- What a box says of its value, and of memory. -/
def BoxOk (ok : Nat → Prop) (φ : List Value) (w : World) : Bx → Value → Prop
  | .dead, _ => True
  | .cells cs, v => ∃ g arr t, v = .pointer (some ⟨g, 0, none⟩) ∧ w.heap[g]? = some (.cells arr t (0, 0)) ∧ arr.size = cs.length ∧
      ∀ j c, cs[j]? = some c → c.atomic = true ∧ RV ok w φ c (arr.getD j Go.undef)
  | .row e sz xs, v => (∀ x ∈ xs, x.length = sz) ∧ ∃ vals, w.ownsRow 0 e sz v xs.length vals ∧
      ∀ i x j y, xs[i]? = some x → x[j]? = some y → RS ok w y (vals.getD (i * sz + j) Go.undef)
  | .iter s p, v => ∃ g, v = .pointer (some ⟨g, 0, none⟩) ∧ w.heap[g]? = some (.stringIter s p)

/-- The boxes are what they say, each live one by a block of its own. -/
structure Sim (T : Nat → Prop) (bs : List Bx) (φ : List Value) (w : World) : Prop where
  inj : ∀ (k k' : Nat) (b b' : Bx) (v v' : Value) (g : Nat), bs[k]? = some b → b.live = true → φ[k]? = some v → blkOf v = some g → bs[k']? = some b' → b'.live = true → φ[k']? = some v' → blkOf v' = some g → k = k'
  off : ∀ g, mine bs φ g → ¬ T g
  tb : ∀ g, T g → g < w.heap.size
  len : φ.length = bs.length
  box : ∀ (k : Nat) (b : Bx), bs[k]? = some b → ∃ v, φ[k]? = some v ∧ BoxOk (okOf T bs φ) φ w b v

/-- How a world goes on. -/
structure Ext (bs : List Bx) (φ : List Value) (w : World) (bs' : List Bx) (φ' : List Value) (w' : World) : Prop where
  os : w'.os = w.os
  tape : w'.tape = w.tape
  output : w'.output = w.output
  size : w.heap.size ≤ w'.heap.size
  pre : ∀ (k : Nat) (v : Value), φ[k]? = some v → φ'[k]? = some v
  keep : ∀ g, g < w.heap.size → ¬ mine bs φ g → w'.heap[g]? = w.heap[g]?
  fresh : ∀ g, mine bs' φ' g → mine bs φ g ∨ w.heap.size ≤ g

theorem Ext.refl (bs : List Bx) (φ : List Value) (w : World) : Ext bs φ w bs φ w :=
  ⟨rfl, rfl, rfl, Nat.le_refl _, fun _ _ h => h, fun _ _ _ => rfl, fun _ h => .inl h⟩

/-- How a world goes on within a call: the boxes below the floor m keep their places. -/
structure ExtM (m : Nat) (bs : List Bx) (φ : List Value) (w : World) (bs' : List Bx) (φ' : List Value) (w' : World) : Prop where
  os : w'.os = w.os
  tape : w'.tape = w.tape
  output : w'.output = w.output
  size : w.heap.size ≤ w'.heap.size
  pre : ∀ (k : Nat) (v : Value), k < m → φ[k]? = some v → φ'[k]? = some v
  keep : ∀ g, g < w.heap.size → ¬ mine bs φ g → w'.heap[g]? = w.heap[g]?
  fresh : ∀ g, mine bs' φ' g → mine bs φ g ∨ w.heap.size ≤ g

theorem Ext.toM {m : Nat} {bs bs' : List Bx} {φ φ' : List Value} {w w' : World} (h : Ext bs φ w bs' φ' w') : ExtM m bs φ w bs' φ' w' := ⟨h.os, h.tape, h.output, h.size, fun k v _ hk => h.pre k v hk, h.keep, h.fresh⟩
theorem ExtM.full {m : Nat} {bs bs' : List Bx} {φ φ' : List Value} {w w' : World} (h : ExtM m bs φ w bs' φ' w') (hl : φ.length ≤ m) : Ext bs φ w bs' φ' w' :=
  ⟨h.os, h.tape, h.output, h.size, fun k v hk => h.pre k v (Nat.lt_of_lt_of_le (List.getElem?_eq_some_iff.1 hk).1 hl) hk, h.keep, h.fresh⟩
theorem ExtM.refl (m : Nat) (bs : List Bx) (φ : List Value) (w : World) : ExtM m bs φ w bs φ w := (Ext.refl bs φ w).toM

theorem ExtM.trans {m : Nat} {bs bs1 bs2 : List Bx} {φ φ1 φ2 : List Value} {w w1 w2 : World} (h : ExtM m bs φ w bs1 φ1 w1) (k : ExtM m bs1 φ1 w1 bs2 φ2 w2) : ExtM m bs φ w bs2 φ2 w2 where
  os := k.os.trans h.os
  tape := k.tape.trans h.tape
  output := k.output.trans h.output
  size := Nat.le_trans h.size k.size
  pre := fun i v hm hi => k.pre i v hm (h.pre i v hm hi)
  keep := fun g hg hm => by
    refine (k.keep g (Nat.lt_of_lt_of_le hg h.size) (fun hm1 => ?_)).trans (h.keep g hg hm)
    rcases h.fresh g hm1 with h1 | h1
    · exact hm h1
    · omega
  fresh := fun g hg => by
    rcases k.fresh g hg with h1 | h1
    · exact h.fresh g h1
    · exact .inr (Nat.le_trans h.size h1)

theorem Ext.trans {bs bs1 bs2 : List Bx} {φ φ1 φ2 : List Value} {w w1 w2 : World} (h : Ext bs φ w bs1 φ1 w1) (k : Ext bs1 φ1 w1 bs2 φ2 w2) : Ext bs φ w bs2 φ2 w2 where
  os := k.os.trans h.os
  tape := k.tape.trans h.tape
  output := k.output.trans h.output
  size := Nat.le_trans h.size k.size
  pre := fun i v hi => k.pre i v (h.pre i v hi)
  keep := fun g hg hm => by
    refine (k.keep g (Nat.lt_of_lt_of_le hg h.size) (fun hm1 => ?_)).trans (h.keep g hg hm)
    rcases h.fresh g hm1 with h1 | h1
    · exact hm h1
    · omega
  fresh := fun g hg => by
    rcases k.fresh g hg with h1 | h1
    · exact h.fresh g h1
    · exact .inr (Nat.le_trans h.size h1)

theorem cell_lt {w : World} {a : Addr} {v : Value} (h : w.cell? a = some v) : a.block < w.heap.size := World.block_lt_of_cell? w a h

theorem add_block (a : Addr) (i : Nat) : (a.add i).block = a.block := by unfold Addr.add; split <;> rfl

theorem RS.move {ok ok' : Nat → Prop} {w w' : World} (hs : w.heap.size ≤ w'.heap.size) (hk : ∀ g, ok g → g < w.heap.size → ok' g ∧ w'.heap[g]? = w.heap[g]?) {x : S} {v : Value} (h : RS ok w x v) : RS ok' w' x v := by
  induction h with
  | val v h => exact .val v h
  | nil A c h => exact .nil A c h
  | cons xs ad c sz f h0 hsz hc hm hok hlt hcell hr ih =>
    obtain ⟨h1, h2⟩ := hk _ hok hlt
    exact .cons xs ad c sz f h0 hsz hc hm h1 (Nat.lt_of_lt_of_le hlt hs) (fun i x j y hx hy => (World.cell?_of_block (w := w) (by rw [add_block]; exact h2)).trans (hcell i x j y hx hy)) ih

theorem RV.move {ok ok' : Nat → Prop} {w w' : World} {φ φ' : List Value} (hs : w.heap.size ≤ w'.heap.size) (hk : ∀ g, ok g → g < w.heap.size → ok' g ∧ w'.heap[g]? = w.heap[g]?)
    (hp : ∀ (k : Nat) v, φ[k]? = some v → φ'[k]? = some v) {x : V} {v : Value} (h : RV ok w φ x v) : RV ok' w' φ' x v := by
  induction h with
  | val v h => exact .val v h
  | nils => exact .nils
  | sl xs v h => exact .sl xs v (h.move hs hk)
  | eptr cs a hok hlt f hcell hr =>
    obtain ⟨h1, h2⟩ := hk _ hok hlt
    exact .eptr cs a h1 (Nat.lt_of_lt_of_le hlt hs) f (fun j y hy => (World.cell?_of_block (w := w) (by rw [add_block]; exact h2)).trans (hcell j y hy)) (fun j y hy => (hr j y hy).move hs hk)
  | row k A n c h => exact .row k A n c (hp _ _ h)
  | ptr k off g h => exact .ptr k off g (hp _ _ h)
  | rptr k sz i j g n c h => exact .rptr k sz i j g n c (hp _ _ h)
  | win k sz o n c g h hn hm => exact .win k sz o n c g (hp _ _ h) hn hm
  | fn f cap vs hl h ih => exact .fn f cap vs hl ih
  | agg cs arr hl ha h ih => exact .agg cs arr hl ha ih
  | tup vs arr hl h ih => exact .tup vs arr hl ih
  | gone v => exact .gone v

section
variable {T : Nat → Prop} {bs bs' : List Bx} {φ φ' : List Value} {w w' : World}

theorem Ext.ok (h : Ext bs φ w bs' φ' w') : ∀ g, okOf T bs φ g → g < w.heap.size → okOf T bs' φ' g ∧ w'.heap[g]? = w.heap[g]? := fun g hg hl =>
  ⟨⟨hg.1, fun hm => by
    rcases h.fresh g hm with h1 | h1
    · exact hg.2 h1
    · omega⟩, h.keep g hl hg.2⟩
theorem RS.ext {x : S} {v : Value} (hr : RS (okOf T bs φ) w x v) (h : Ext bs φ w bs' φ' w') : RS (okOf T bs' φ') w' x v := hr.move h.size h.ok
theorem RV.ext {x : V} {v : Value} (hr : RV (okOf T bs φ) w φ x v) (h : Ext bs φ w bs' φ' w') : RV (okOf T bs' φ') w' φ' x v := hr.move h.size h.ok h.pre

theorem mine_lt (hs : Sim T bs φ w) {g : Nat} (h : mine bs φ g) : g < w.heap.size := by
  obtain ⟨k, b, v, hb, hl, hv, hg⟩ := h
  obtain ⟨v', hv', ho⟩ := hs.box k b hb
  obtain rfl : v = v' := Option.some.inj (hv.symm.trans hv')
  cases b with
  | dead => cases hl
  | iter s p =>
    obtain ⟨g', rfl, hh⟩ := ho
    obtain rfl : g' = g := by simpa [blkOf] using hg
    exact (Array.getElem?_eq_some_iff.1 hh).1
  | cells cs =>
    obtain ⟨g', arr, t, rfl, hh, _⟩ := ho
    obtain rfl : g' = g := by simpa [blkOf] using hg
    exact (Array.getElem?_eq_some_iff.1 hh).1
  | row e sz xs =>
    obtain ⟨_, vals, ho, _⟩ := ho
    rcases ho.2 with ⟨rfl, _⟩ | ⟨g', cap, cur, rfl, _, hh, _⟩
    · simp [blkOf] at hg
    · obtain rfl : g' = g := by simpa [blkOf] using hg
      exact (Array.getElem?_eq_some_iff.1 hh).1

theorem own_same {e sz n : Nat} {v : Value} {xs : List Value} (h : w.ownsRow 0 e sz v n xs) (hk : ∀ g, blkOf v = some g → w'.heap[g]? = w.heap[g]?) : w'.ownsRow 0 e sz v n xs := by
  refine ⟨h.1, ?_⟩
  rcases h.2 with h1 | ⟨g, cap, cur, rfl, h1, h2, h3⟩
  · exact .inl h1
  · exact .inr ⟨g, cap, cur, rfl, h1, (hk g rfl).trans h2, h3⟩

/-- A box whose block has not been touched says what it said. -/
theorem BoxOk.ext {b : Bx} {v : Value} (hb : BoxOk (okOf T bs φ) φ w b v) (h : Ext bs φ w bs' φ' w') (hk : b.live = true → ∀ g, blkOf v = some g → w'.heap[g]? = w.heap[g]?) : BoxOk (okOf T bs' φ') φ' w' b v := by
  cases b with
  | dead => trivial
  | iter s p =>
    obtain ⟨g, rfl, hh⟩ := hb
    exact ⟨g, rfl, (hk rfl g rfl).trans hh⟩
  | cells cs =>
    obtain ⟨g, arr, t, rfl, hh, hl, hc⟩ := hb
    exact ⟨g, arr, t, rfl, (hk rfl g rfl).trans hh, hl, fun j c hj => ⟨(hc j c hj).1, (hc j c hj).2.ext h⟩⟩
  | row e sz xs =>
    obtain ⟨hl, vals, ho, hc⟩ := hb
    exact ⟨hl, vals, own_same ho (hk rfl), fun i x j y hx hy => (hc i x j y hx hy).ext h⟩

/-- The boxes behind a step: each is an elder one, its block not touched, or is shown anew. -/
theorem Sim.step (hs : Sim T bs φ w) (h : Ext bs φ w bs' φ' w')
    (hinj : ∀ (k k' : Nat) (b b' : Bx) (v v' : Value) (g : Nat), bs'[k]? = some b → b.live = true → φ'[k]? = some v → blkOf v = some g → bs'[k']? = some b' → b'.live = true → φ'[k']? = some v' → blkOf v' = some g → k = k')
    (hlen : φ'.length = bs'.length)
    (hbox : ∀ (k : Nat) (b : Bx), bs'[k]? = some b → (bs[k]? = some b ∧ (b.live = true → ∀ v g, φ[k]? = some v → blkOf v = some g → w'.heap[g]? = w.heap[g]?)) ∨ ∃ v, φ'[k]? = some v ∧ BoxOk (okOf T bs' φ') φ' w' b v) : Sim T bs' φ' w' where
  inj := hinj
  off := fun g hg => by
    rcases h.fresh g hg with h1 | h1
    · exact hs.off g h1
    · exact fun ht => by have := hs.tb g ht; omega
  tb := fun g hg => Nat.lt_of_lt_of_le (hs.tb g hg) h.size
  len := hlen
  box := fun k b hb => by
    rcases hbox k b hb with ⟨h1, h2⟩ | h1
    · obtain ⟨v, hv, ho⟩ := hs.box k b h1
      exact ⟨v, h.pre k v hv, ho.ext h (fun hl g hg => h2 hl v g hv hg)⟩
    · exact h1

/-- A new box at the end. -/
theorem ext_push {b : Bx} {v : Value} (hs : Sim T bs φ w) (hw : Below w.heap.size w w') (hv : ∀ g, blkOf v = some g → w.heap.size ≤ g) : Ext bs φ w (bs ++ [b]) (φ ++ [v]) w' where
  os := hw.os
  tape := hw.tape
  output := hw.output
  size := hw.size
  pre := fun k u hk => by rw [List.getElem?_append_left (List.getElem?_eq_some_iff.1 hk).1]; exact hk
  keep := fun g hg _ => hw.block g hg
  fresh := fun g hg => by
    obtain ⟨k, b', u, hb, hl, hu, hg⟩ := hg
    rcases Nat.lt_or_ge k bs.length with h | h
    · rw [List.getElem?_append_left h] at hb
      rw [List.getElem?_append_left (by rw [hs.len]; exact h)] at hu
      exact .inl ⟨k, b', u, hb, hl, hu, hg⟩
    · rw [List.getElem?_append_right (by rw [hs.len]; exact h)] at hu
      have hk : k - φ.length = 0 := by
        have := (List.getElem?_eq_some_iff.1 hu).1
        simpa using this
      rw [hk] at hu
      obtain rfl : v = u := by simpa using hu
      exact .inr (hv g hg)

theorem Sim.push {b : Bx} {v : Value} (hs : Sim T bs φ w) (hw : Below w.heap.size w w') (hv : ∀ g, blkOf v = some g → w.heap.size ≤ g)
    (hb : Ext bs φ w (bs ++ [b]) (φ ++ [v]) w' → BoxOk (okOf T (bs ++ [b]) (φ ++ [v])) (φ ++ [v]) w' b v) : Sim T (bs ++ [b]) (φ ++ [v]) w' := by
  have he := ext_push (b := b) hs hw hv
  have hin : ∀ (k : Nat) (b' : Bx) (u : Value) (g : Nat), (bs ++ [b])[k]? = some b' → b'.live = true → (φ ++ [v])[k]? = some u → blkOf u = some g → (bs[k]? = some b' ∧ φ[k]? = some u ∧ g < w.heap.size) ∨ (k = bs.length ∧ w.heap.size ≤ g) := by
    intro k b' u g hb hl hu hg
    rcases Nat.lt_or_ge k bs.length with h | h
    · rw [List.getElem?_append_left h] at hb
      rw [List.getElem?_append_left (by rw [hs.len]; exact h)] at hu
      exact .inl ⟨hb, hu, mine_lt hs ⟨k, b', u, hb, hl, hu, hg⟩⟩
    · have hk : k = bs.length := by
        have := (List.getElem?_eq_some_iff.1 hb).1
        simp at this
        omega
      subst hk
      rw [List.getElem?_append_right (by rw [hs.len]; exact Nat.le_refl _), hs.len, Nat.sub_self] at hu
      obtain rfl : v = u := by simpa using hu
      exact .inr ⟨rfl, hv g hg⟩
  refine hs.step he ?_ (by simp [hs.len]) ?_
  · intro k k' b1 b2 v1 v2 g h1 l1 p1 g1 h2 l2 p2 g2
    rcases hin k b1 v1 g h1 l1 p1 g1 with ⟨a1, a2, a3⟩ | ⟨a1, a2⟩ <;> rcases hin k' b2 v2 g h2 l2 p2 g2 with ⟨c1, c2, c3⟩ | ⟨c1, c2⟩
    · exact hs.inj k k' b1 b2 v1 v2 g a1 l1 a2 g1 c1 l2 c2 g2
    · omega
    · omega
    · omega
  · intro k b' hk
    rcases Nat.lt_or_ge k bs.length with h | h
    · rw [List.getElem?_append_left h] at hk
      exact .inl ⟨hk, fun hl u g hu hg => hw.block g (mine_lt hs ⟨k, b', u, hk, hl, hu, hg⟩)⟩
    · have hk' : k = bs.length := by
        have := (List.getElem?_eq_some_iff.1 hk).1
        simp at this
        omega
      subst hk'
      obtain rfl : b = b' := by simpa using hk
      exact .inr ⟨v, by rw [List.getElem?_append_right (by rw [hs.len]; exact Nat.le_refl _), hs.len, Nat.sub_self]; rfl, hb he⟩

/-- A box is written anew in its place: its block alone is touched. -/
theorem ext_set {k : Nat} {b b' : Bx} {v : Value} (hb : bs[k]? = some b) (hl : b.live = true) (hv : φ[k]? = some v)
    (hos : w'.os = w.os) (htape : w'.tape = w.tape) (hout : w'.output = w.output) (hsz : w.heap.size ≤ w'.heap.size) (hkeep : ∀ g, g < w.heap.size → blkOf v ≠ some g → w'.heap[g]? = w.heap[g]?) :
    Ext bs φ w (bs.set k b') φ w' where
  os := hos
  tape := htape
  output := hout
  size := hsz
  pre := fun _ _ h => h
  keep := fun g hg hm => hkeep g hg (fun e => hm ⟨k, b, v, hb, hl, hv, e⟩)
  fresh := fun g hg => by
    obtain ⟨j, c, u, hc, hlc, hu, hg⟩ := hg
    by_cases hj : j = k
    · subst hj
      obtain rfl : v = u := Option.some.inj (hv.symm.trans hu)
      exact .inl ⟨j, b, v, hb, hl, hv, hg⟩
    · rw [List.getElem?_set_ne (Ne.symm hj)] at hc
      exact .inl ⟨j, c, u, hc, hlc, hu, hg⟩

theorem Sim.put {k : Nat} {b b' : Bx} {v : Value} (hs : Sim T bs φ w) (hb : bs[k]? = some b) (hl : b.live = true) (hv : φ[k]? = some v)
    (he : Ext bs φ w (bs.set k b') φ w') (hkeep : ∀ g, g < w.heap.size → blkOf v ≠ some g → w'.heap[g]? = w.heap[g]?)
    (hb' : BoxOk (okOf T (bs.set k b') φ) φ w' b' v) : Sim T (bs.set k b') φ w' := by
  have hlen : k < bs.length := (List.getElem?_eq_some_iff.1 hb).1
  have hel : ∀ (j : Nat) c, (bs.set k b')[j]? = some c → (j = k ∧ c = b') ∨ (j ≠ k ∧ bs[j]? = some c) := by
    intro j c hc
    by_cases hj : j = k
    · subst hj
      rw [List.getElem?_set_self hlen] at hc
      exact .inl ⟨rfl, (Option.some.inj hc).symm⟩
    · rw [List.getElem?_set_ne (Ne.symm hj)] at hc
      exact .inr ⟨hj, hc⟩
  have hold : ∀ (j : Nat) c, (bs.set k b')[j]? = some c → c.live = true → ∃ c', bs[j]? = some c' ∧ c'.live = true := by
    intro j c hc hlc
    rcases hel j c hc with ⟨rfl, rfl⟩ | ⟨_, h⟩
    · exact ⟨b, hb, hl⟩
    · exact ⟨c, h, hlc⟩
  refine hs.step he ?_ (by simp [hs.len]) ?_
  · intro i j b1 b2 v1 v2 g h1 l1 p1 g1 h2 l2 p2 g2
    obtain ⟨c1, k1, m1⟩ := hold i b1 h1 l1
    obtain ⟨c2, k2, m2⟩ := hold j b2 h2 l2
    exact hs.inj i j c1 c2 v1 v2 g k1 m1 p1 g1 k2 m2 p2 g2
  · intro j c hc
    rcases hel j c hc with ⟨rfl, rfl⟩ | ⟨hj, h⟩
    · exact .inr ⟨v, hv, hb'⟩
    · refine .inl ⟨h, fun hlc u g hu hg => hkeep g (mine_lt hs ⟨j, c, u, h, hlc, hu, hg⟩) (fun e => hj ?_)⟩
      exact hs.inj j k c b u v g h hlc hu hg hb hl hv e
end

end Go.Proofs.YtiefcnghjcafbaaDoorV

/- The calculus of values, second text: what it says that a piece of code, an operation, a call of a Go function comes to, and the rules of control. -/
namespace Go.Proofs.YtiefcnghjcafbaaDoorV
open Go Go.RowKit

/-- The temporaries. -/
def Tm (ok : Nat → Prop) (w : World) (φ : List Value) (ts : List V) (a : Act) : Prop :=
  ts.length = a.tmps.size ∧ a.defers = [] ∧ ∀ (i : Nat) c, ts[i]? = some c → RV ok w φ c (a.tmps.getD i Go.undef)

inductive Ex where
  | normal
  | exit (id : Nat)
  | ret

def Ex.out : Ex → Exit
  | .normal => .normal
  | .exit id => .exit id
  | .ret => .ret

/-- What code comes to. -/
def Ok (P : Program) (m : Nat) (c : Code) (Q : Ex → List V → List Bx → Prop) (ts : List V) (bs : List Bx) : Prop :=
  ∀ (T : Nat → Prop) φ w a, Sim T bs φ w → Tm (okOf T bs φ) w φ ts a → ∀ K : Exit → Act → World → Prop,
    (∀ e ts' bs' φ' a' w', Q e ts' bs' → ExtM m bs φ w bs' φ' w' → Sim T bs' φ' w' → Tm (okOf T bs' φ') w' φ' ts' a' → K e.out a' w') → c.wp P K a w

/-- What an operation comes to. -/
def OpOk (P : Program) (o : Oper) (N : List V → List Bx → Prop) (ts : List V) (bs : List Bx) : Prop :=
  ∀ (T : Nat → Prop) φ w a, Sim T bs φ w → Tm (okOf T bs φ) w φ ts a → ∀ (K : Act → World → Prop) (Qx : Exit → Act → World → Prop),
    (∀ ts' bs' φ' a' w', N ts' bs' → Ext bs φ w bs' φ' w' → Sim T bs' φ' w' → Tm (okOf T bs' φ') w' φ' ts' a' → K a' w') → o.wp P a w K Qx

/-- Arguments, or other values, beside their places in memory. -/
def RVs (ok : Nat → Prop) (w : World) (φ : List Value) (xs : List V) (vs : Array Value) : Prop :=
  xs.length = vs.size ∧ ∀ (i : Nat) c, xs[i]? = some c → RV ok w φ c (vs.getD i Go.undef)

/-- What a call of a Go function comes to. -/
def FnOk (P : Program) (f : FuncId) (args : List V) (bs : List Bx) (Q : V → List Bx → Prop) : Prop :=
  ∀ (T : Nat → Prop) φ w vargs, Sim T bs φ w → RVs (okOf T bs φ) w φ args vargs →
    Calls P f vargs w fun e w' => ∃ v r bs' φ', e = .returned v ∧ Q r bs' ∧ Ext bs φ w bs' φ' w' ∧ Sim T bs' φ' w' ∧ RV (okOf T bs' φ') w' φ' r v

section
variable {P : Program} {m : Nat} {Q Q' : Ex → List V → List Bx → Prop} {N N' : List V → List Bx → Prop} {ts : List V} {bs : List Bx} {c x y : Code} {o : Oper}

theorem Tm.ext {T : Nat → Prop} {bs bs' : List Bx} {φ φ' : List Value} {w w' : World} {a : Act} (h : Tm (okOf T bs φ) w φ ts a) (e : Ext bs φ w bs' φ' w') : Tm (okOf T bs' φ') w' φ' ts a :=
  ⟨h.1, h.2.1, fun i c hc => (h.2.2 i c hc).ext e⟩

theorem Ok.mono (h : Ok P m c Q ts bs) (hq : ∀ e ts' bs', Q e ts' bs' → Q' e ts' bs') : Ok P m c Q' ts bs :=
  fun T φ w a hs ht K hK => h T φ w a hs ht K fun e ts' bs' φ' a' w' q => hK e ts' bs' φ' a' w' (hq _ _ _ q)

theorem OpOk.mono (h : OpOk P o N ts bs) (hq : ∀ ts' bs', N ts' bs' → N' ts' bs') : OpOk P o N' ts bs :=
  fun T φ w a hs ht K Qx hK => h T φ w a hs ht K Qx fun ts' bs' φ' a' w' q => hK ts' bs' φ' a' w' (hq _ _ q)

theorem FnOk.mono {f : FuncId} {args : List V} {R R' : V → List Bx → Prop} (h : FnOk P f args bs R) (hq : ∀ r bs', R r bs' → R' r bs') : FnOk P f args bs R' :=
  fun T φ w vargs hs ha => (h T φ w vargs hs ha).mono fun _ _ ⟨v, r, bs', φ', he, q, rest⟩ => ⟨v, r, bs', φ', he, hq _ _ q, rest⟩

theorem Ok.skip (h : Q .normal ts bs) : Ok P m .skip Q ts bs := fun _ _ _ _ hs ht _ hK => wp_skip (hK _ _ _ _ _ _ h (ExtM.refl _ _ _ _) hs ht)
theorem Ok.ret (h : Q .ret ts bs) : Ok P m .ret Q ts bs := fun _ _ _ _ hs ht _ hK => wp_ret (hK _ _ _ _ _ _ h (ExtM.refl _ _ _ _) hs ht)
theorem Ok.exit {id : Nat} (h : Q (.exit id) ts bs) : Ok P m (.exit id) Q ts bs := fun _ _ _ _ hs ht _ hK => wp_exit (hK _ _ _ _ _ _ h (ExtM.refl _ _ _ _) hs ht)

/-- What follows in line. -/
def thn (next : List V → List Bx → Prop) (Q : Ex → List V → List Bx → Prop) : Ex → List V → List Bx → Prop
  | .normal, ts, bs => next ts bs
  | e, ts, bs => Q e ts bs

theorem Ok.seq (h : Ok P m x (thn (Ok P m y Q) Q) ts bs) : Ok P m (.seq x y) Q ts bs := by
  intro T φ w a hs ht K hK
  refine wp_seq (h T φ w a hs ht _ ?_)
  intro e ts' bs' φ' a' w' q he hs' ht'
  cases e with
  | normal => exact q T φ' w' a' hs' ht' K fun e2 ts2 bs2 φ2 a2 w2 q2 he2 => hK e2 ts2 bs2 φ2 a2 w2 q2 (he.trans he2)
  | exit id => exact hK _ _ _ _ _ _ q he hs' ht'
  | ret => exact hK _ _ _ _ _ _ q he hs' ht'

def blk (id : Nat) (Q : Ex → List V → List Bx → Prop) : Ex → List V → List Bx → Prop
  | .exit id', ts, bs => if id' = id then Q .normal ts bs else Q (.exit id') ts bs
  | e, ts, bs => Q e ts bs

theorem Ok.block {id : Nat} (h : Ok P m c (blk id Q) ts bs) : Ok P m (.block id c) Q ts bs := by
  intro T φ w a hs ht K hK
  refine wp_block (h T φ w a hs ht _ ?_)
  intro e ts' bs' φ' a' w' q he hs' ht'
  cases e with
  | normal => exact hK _ _ _ _ _ _ q he hs' ht'
  | ret => exact hK _ _ _ _ _ _ q he hs' ht'
  | exit id' =>
    by_cases hid : id' = id
    · simp only [blk, hid, if_true] at q
      simp only [Ex.out, Exit.inBlock, hid, if_true]
      exact hK .normal _ _ _ _ _ q he hs' ht'
    · simp only [blk, hid, if_false] at q
      simp only [Ex.out, Exit.inBlock, hid, if_false]
      exact hK (.exit id') _ _ _ _ _ q he hs' ht'

/-- A scope through which the run goes without a jump. -/
theorem Ok.scope (h : Ok P m c Q ts bs) : Ok P m (.scope c) Q ts bs := by
  intro T φ w a hs ht K hK
  refine wp_scope_straight (h T φ w a hs ht _ ?_)
  intro e ts' bs' φ' a' w' q he hs' ht'
  cases e with
  | normal => exact hK .normal _ _ _ _ _ q he hs' ht'
  | exit id => exact hK (.exit id) _ _ _ _ _ q he hs' ht'
  | ret => exact hK .ret _ _ _ _ _ q he hs' ht'
theorem Ok.label {l : Nat} (h : Q .normal ts bs) : Ok P m (.label l) Q ts bs := fun _ _ _ _ hs ht _ hK => wp_label (hK _ _ _ _ _ _ h (ExtM.refl _ _ _ _) hs ht)

/-- A loop: what holds at each round's head, with a number that goes down. -/
theorem Ok.loop (I : Nat → List V → List Bx → Prop) (n : Nat) (h0 : I n ts bs)
    (round : ∀ n ts bs, I n ts bs → Ok P m c (thn (fun ts' bs' => ∃ n', n' < n ∧ I n' ts' bs') Q) ts bs) : Ok P m (.loop c) Q ts bs := by
  intro T φ w a hs ht K hK
  refine wp_loop_ghost (fun n a' w' => ∃ ts' bs' φ', I n ts' bs' ∧ ExtM m bs φ w bs' φ' w' ∧ Sim T bs' φ' w' ∧ Tm (okOf T bs' φ') w' φ' ts' a') n ⟨ts, bs, φ, h0, ExtM.refl _ _ _ _, hs, ht⟩ ?_
  rintro n a1 w1 ⟨ts1, bs1, φ1, hI, he1, hs1, ht1⟩
  refine round n ts1 bs1 hI T φ1 w1 a1 hs1 ht1 _ ?_
  intro e ts' bs' φ' a' w' q he hs' ht'
  cases e with
  | normal =>
    obtain ⟨n', hlt, hI'⟩ := q
    exact ⟨n', hlt, ts', bs', φ', hI', he1.trans he, hs', ht'⟩
  | exit id => exact hK _ _ _ _ _ _ q (he1.trans he) hs' ht'
  | ret => exact hK _ _ _ _ _ _ q (he1.trans he) hs' ht'

/-- A constant. -/
def conV : Value → Option V
  | .slice none 0 0 => some .nils
  | v => if scalar v then some (.val v) else none

def evO (ts : List V) : Operand → Option V
  | .tmp t => ts[t]?
  | .const v => conV v
  | .global _ => none
  | .func f => some (.fn f [])

theorem conV_sound {ok : Nat → Prop} {w : World} {φ : List Value} {v : Value} {r : V} (h : conV v = some r) : RV ok w φ r v := by
  unfold conV at h
  split at h
  · obtain rfl := Option.some.inj h
    exact .nils
  · split at h
    · obtain rfl := Option.some.inj h
      exact .val _ ‹_›
    · cases h

theorem evO_sound {ok : Nat → Prop} {w : World} {φ : List Value} {a : Act} (ht : Tm ok w φ ts a) {o : Operand} {r : V} (h : evO ts o = some r) : RV ok w φ r (a.eval o) := by
  cases o with
  | tmp t => exact ht.2.2 t r h
  | const v => exact conV_sound h
  | global g => cases h
  | func f =>
    obtain rfl := Option.some.inj h
    exact .fn f [] #[] rfl (fun i c hc => by simp at hc)

theorem RV.bool_of {ok : Nat → Prop} {w : World} {φ : List Value} {u v : Value} (h : RV ok w φ (.val u) v) : v = u := by
  cases h
  rfl

theorem Ok.cond {p : Operand} {b : Bool} (hp : evO ts p = some (.val (.bool b))) (ht : b = true → Ok P m x Q ts bs) (hf : b = false → Ok P m y Q ts bs) : Ok P m (.cond p x y) Q ts bs := by
  intro T φ w a hs hm K hK
  have hv := RV.bool_of (evO_sound hm hp)
  exact wp_cond_split hv (fun e => ht e T φ w a hs hm K hK) (fun e => hf e T φ w a hs hm K hK)
end

end Go.Proofs.YtiefcnghjcafbaaDoorV

/- The calculus of values, third text: the operations that make no call, each as a step on values and boxes, held against the model's rules. -/
namespace Go.Proofs.YtiefcnghjcafbaaDoorV
open Go Go.RowKit

/-- What is told of the program's types, as tables. -/
structure Lay where
  sl : TypeId → Option (TypeId × Nat)
  off : TypeId → Option (List (Nat × Nat))
  cel : TypeId → Option (Nat × Bool)
  zero : TypeId → Option (List V)
  byt : TypeId → Option Nat
  bool : TypeId → Bool
  str : TypeId → Bool
  int : TypeId → Option IntKind
  eqs : TypeId → Option (List TypeId)
  arr : TypeId → Option (Nat × Nat)

structure LayOk (P : Program) (L : Lay) : Prop where
  sl : ∀ t e n, L.sl t = some (e, n) → P.underlying t = some (.slice e) ∧ (P.info? e).map (·.size) = some n ∧ 0 < n
  off0 : ∀ t l, L.off t = some l → (match P.underlying t with | some (.struct fs) => some (fs.toList.map fun f => (P.info? f.type).map fun i => (f.offset, i.size)) | _ => none) = some (l.map some)
  cel0 : ∀ t n b, L.cel t = some (n, b) → (P.underlying t).map (fun d => d.isRow) = some b ∧ (P.info? t).map (·.size) = some n ∧ (b = false → n = 1)
  zero0 : ∀ t l, L.zero t = some l → ((P.info? t).bind (·.zero)).map (fun z => z.cells.toList.map conV) = some (l.map some)
  byt0 : ∀ e n, L.byt e = some n → (P.info? e).map (fun i => (i.zero.map (fun z => decide (z.cells.size = i.size)), i.bytes)) = some (some true, n)
  bool : ∀ t, L.bool t = true → P.underlying t = some .bool
  str : ∀ t, L.str t = true → P.underlying t = some .string
  int : ∀ t k, L.int t = some k → P.underlying t = some (.int k)
  eqs : ∀ t l, L.eqs t = some l → P.stoodInHeld t = false ∧ P.eqGuardType P.depth t = false ∧ (match P.underlying t with | some (.struct fs) => some (fs.toList.map fun f => (f.name != "_", f.type, f.offset)) | _ => none) = some ((l.zipIdx 0).map fun p => (true, p.1, p.2))
  arr0 : ∀ t n k, L.arr t = some (n, k) → (match P.underlying t with | some (.array n e) => (P.info? e).map fun i => (n, i.size) | _ => none) = some (n, k)

section
variable {P : Program} {L : Lay}
theorem LayOk.off (h : LayOk P L) : ∀ t l, L.off t = some l → ∃ fs : Array Field, P.underlying t = some (.struct fs) ∧ (fs.toList.map fun f => (P.info? f.type).map fun i => (f.offset, i.size)) = l.map some := by
  intro t l hl
  have h1 := h.off0 t l hl
  split at h1
  · rename_i fs hu
    exact ⟨fs, hu, Option.some.inj h1⟩
  · cases h1
theorem LayOk.arr (h : LayOk P L) : ∀ t n k, L.arr t = some (n, k) → ∃ e i, P.underlying t = some (.array n e) ∧ P.info? e = some i ∧ i.size = k := by
  intro t n k hl
  have h1 := h.arr0 t n k hl
  split at h1
  · rename_i n' e hu
    obtain ⟨i, hi, he⟩ := Option.map_eq_some_iff.1 h1
    cases he
    exact ⟨e, i, hu, hi, rfl⟩
  · cases h1
theorem LayOk.cel (h : LayOk P L) : ∀ t n b, L.cel t = some (n, b) → ∃ d, P.underlying t = some d ∧ d.isRow = b ∧ (P.info? t).map (·.size) = some n ∧ (b = false → n = 1) := by
  intro t n b hl
  obtain ⟨h1, h2⟩ := h.cel0 t n b hl
  obtain ⟨d, hd, hb⟩ := Option.map_eq_some_iff.1 h1
  exact ⟨d, hd, hb, h2⟩
theorem LayOk.zero (h : LayOk P L) : ∀ t l, L.zero t = some l → ∃ i z, P.info? t = some i ∧ i.zero = some z ∧ z.cells.toList.map conV = l.map some := by
  intro t l hl
  obtain ⟨z, hz, he⟩ := Option.map_eq_some_iff.1 (h.zero0 t l hl)
  obtain ⟨i, hi, hz2⟩ := Option.bind_eq_some_iff.1 hz
  exact ⟨i, z, hi, hz2, he⟩
theorem LayOk.byt (h : LayOk P L) : ∀ e n, L.byt e = some n → ∃ i z, P.info? e = some i ∧ i.zero = some z ∧ i.bytes = n ∧ z.cells.size = i.size := by
  intro e n hl
  obtain ⟨i, hi, he⟩ := Option.map_eq_some_iff.1 (h.byt0 e n hl)
  simp only [Prod.mk.injEq] at he
  obtain ⟨z, hz, hd⟩ := Option.map_eq_some_iff.1 he.1
  exact ⟨i, z, hi, hz, he.2, of_decide_eq_true hd⟩
end

def putV (d : Option Tmp) (v : V) (ts : List V) : List V := match d with
  | none => ts
  | some t => ts.set t v

theorem getD_set {tmps : Array Value} {t i : Nat} {v : Value} (h : t < tmps.size) : (tmps.setIfInBounds t v).getD i Go.undef = if t = i then v else tmps.getD i Go.undef := by
  simp only [Array.getD_eq_getD_getElem?, Array.getElem?_setIfInBounds]
  by_cases hi : t = i
  · subst hi
    simp [h]
  · simp [hi]

theorem Tm.put {ok : Nat → Prop} {w : World} {φ : List Value} {ts : List V} {a : Act} (h : Tm ok w φ ts a) {x : V} {v : Value} (hr : RV ok w φ x v) (d : Option Tmp) : Tm ok w φ (putV d x ts) (a.put d v) := by
  cases d with
  | none => exact h
  | some t =>
    obtain ⟨h1, h2, h3⟩ := h
    refine ⟨by simp [putV, Act.put, h1], h2, fun i c hc => ?_⟩
    have hc' : (ts.set t x)[i]? = some c := hc
    show RV ok w φ c ((a.tmps.setIfInBounds t v).getD i Go.undef)
    by_cases hi : t = i
    · subst hi
      have hl : t < ts.length := by
        have := (List.getElem?_eq_some_iff.1 hc').1
        simpa using this
      rw [List.getElem?_set_self hl] at hc'
      obtain rfl := Option.some.inj hc'
      have hl2 : t < a.tmps.size := h1 ▸ hl
      rw [getD_set hl2, if_pos rfl]
      exact hr
    · rw [List.getElem?_set_ne hi] at hc'
      have := h3 i c hc'
      rcases Nat.lt_or_ge t a.tmps.size with hl | hl
      · rw [getD_set hl, if_neg hi]
        exact this
      · rw [Array.setIfInBounds_eq_of_size_le hl]
        exact this

theorem rv_skip {ok : Nat → Prop} {w : World} {φ : List Value} : RV ok w φ (.tup []) Go.undef := .tup [] #[] rfl (fun i c hc => by simp at hc)

section
variable {P : Program} {L : Lay} {N : List V → List Bx → Prop} {ts : List V} {bs : List Bx} {o : Oper}

/-- An operation that yields a value, the world as it is. -/
theorem OpOk.value {x : V} (h : ∀ (T : Nat → Prop) φ w a, Sim T bs φ w → Tm (okOf T bs φ) w φ ts a → ∃ v, (execOp a.eval o).run P w = .ok (.value v) w ∧ RV (okOf T bs φ) w φ x v) :
    OpOk P o (fun ts' bs' => ts' = putV o.dst x ts ∧ bs' = bs) ts bs := by
  intro T φ w a hs ht K Qx hK
  obtain ⟨v, hr, hv⟩ := h T φ w a hs ht
  unfold Oper.wp
  rw [hr]
  exact hK _ _ _ _ _ ⟨rfl, rfl⟩ (Ext.refl _ _ _) hs (ht.put hv _)

/-- An operation that makes a box. -/
theorem OpOk.make {x : V} {b : Bx} (h : ∀ (T : Nat → Prop) φ w a, Sim T bs φ w → Tm (okOf T bs φ) w φ ts a → ∃ v u w', (execOp a.eval o).run P w = .ok (.value v) w' ∧ Below w.heap.size w w' ∧
      (∀ g, blkOf u = some g → w.heap.size ≤ g) ∧ (Ext bs φ w (bs ++ [b]) (φ ++ [u]) w' → BoxOk (okOf T (bs ++ [b]) (φ ++ [u])) (φ ++ [u]) w' b u ∧ RV (okOf T (bs ++ [b]) (φ ++ [u])) w' (φ ++ [u]) x v)) :
    OpOk P o (fun ts' bs' => ts' = putV o.dst x ts ∧ bs' = bs ++ [b]) ts bs := by
  intro T φ w a hs ht K Qx hK
  obtain ⟨v, u, w', hr, hw, hu, hb⟩ := h T φ w a hs ht
  unfold Oper.wp
  rw [hr]
  have he := ext_push (b := b) hs hw hu
  obtain ⟨h1, h2⟩ := hb he
  exact hK _ _ _ _ _ ⟨rfl, rfl⟩ he (hs.push hw hu (fun _ => h1)) ((ht.ext he).put h2 _)

/-- An operation that writes a box. -/
theorem OpOk.write {k : Nat} {b b' : Bx} (hb : bs[k]? = some b) (hl : b.live = true) (h : ∀ (T : Nat → Prop) φ w a v, Sim T bs φ w → Tm (okOf T bs φ) w φ ts a → φ[k]? = some v → BoxOk (okOf T bs φ) φ w b v → ∃ w', (execOp a.eval o).run P w = .ok .skip w' ∧
      w'.os = w.os ∧ w'.tape = w.tape ∧ w'.output = w.output ∧ w.heap.size ≤ w'.heap.size ∧ (∀ g, g < w.heap.size → blkOf v ≠ some g → w'.heap[g]? = w.heap[g]?) ∧
      (Ext bs φ w (bs.set k b') φ w' → BoxOk (okOf T (bs.set k b') φ) φ w' b' v)) :
    OpOk P o (fun ts' bs' => ts' = putV o.dst (.tup []) ts ∧ bs' = bs.set k b') ts bs := by
  intro T φ w a hs ht K Qx hK
  obtain ⟨v, hv, hbo⟩ := hs.box k b hb
  obtain ⟨w', hr, h1, h2, h3, h4, h5, h6⟩ := h T φ w a v hs ht hv hbo
  unfold Oper.wp
  rw [hr]
  have he := ext_set (b' := b') hb hl hv h1 h2 h3 h4 h5
  exact hK _ _ _ _ _ ⟨rfl, rfl⟩ he (hs.put hb hl hv he h5 (h6 he)) ((ht.ext he).put rv_skip _)
end

/-! ### Numbers, bools, strings -/
def bitsV (k : IntKind) (f : BitVec k.bits → BitVec k.bits → BitVec k.bits) (x y : Int) : Value := .int k (k.wrap (f (BitVec.ofInt k.bits x) (BitVec.ofInt k.bits y)).toNat)

def evB (L : Lay) (op : BinOp) (t : TypeId) : Value → Value → Option Value
  | .int k a, .int k' b => if k ≠ k' then none else match op with
    | .add => some (.int k (k.wrap (a + b)))
    | .sub => some (.int k (k.wrap (a - b)))
    | .mul => some (.int k (k.wrap (a * b)))
    | .quo => if b = 0 then none else some (.int k (k.wrap (a.tdiv b)))
    | .rem => if b = 0 then none else some (.int k (a.tmod b))
    | .and => some (bitsV k (· &&& ·) a b)
    | .or => some (bitsV k (· ||| ·) a b)
    | .eql => some (.bool (a == b))
    | .neq => some (.bool (a != b))
    | .lss => some (.bool (decide (a < b)))
    | .leq => some (.bool (decide (a ≤ b)))
    | .gtr => some (.bool (decide (a > b)))
    | .geq => some (.bool (decide (a ≥ b)))
    | _ => none
  | .string a, .string b => match op with
    | .add => if a.size + b.size ≤ 9223372036854775807 then some (.string (a ++ b)) else none
    | .eql => some (.bool (decide (a = b)))
    | .neq => some (.bool !(decide (a = b)))
    | .lss => some (.bool (Op.bytesLess a.toList b.toList))
    | .leq => some (.bool (Op.bytesLess a.toList b.toList || a.toList == b.toList))
    | .gtr => some (.bool !(Op.bytesLess a.toList b.toList || a.toList == b.toList))
    | .geq => some (.bool !(Op.bytesLess a.toList b.toList))
    | _ => none
  | .bool a, .bool b => if L.bool t then match op with
    | .eql => some (.bool (a == b))
    | .neq => some (.bool (!(a == b)))
    | _ => none
    else none
  | _, _ => none

theorem bytes_eq (a b : ByteArray) : (a.toList == b.toList) = decide (a = b) := by
  by_cases h : a = b
  · subst h; simp
  · have : ¬ a.toList = b.toList := fun e => h (by
      rw [ByteArray.toList_eq, ByteArray.toList_eq] at e
      exact ByteArray.ext (Array.toList_inj.1 e))
    simp [h, this]

theorem evB_sound {P : Program} {L : Lay} (hL : LayOk P L) {op : BinOp} {t : TypeId} {x y v : Value} (h : evB L op t x y = some v) (w : World) : (binOp op t x y).run P w = .ok v w := by
  unfold evB at h
  split at h
  · rename_i k a k' b
    split at h
    · cases h
    · rename_i hk
      have hk : k = k' := by simpa using hk
      subst hk
      split at h <;> (try split at h) <;> first
        | (obtain rfl := Option.some.inj h; simp [binOp, Op.intArith, Op.intDiv, Op.intBits, Op.intCmp, bitsV, *]; done)
        | (cases h; done)
  · rename_i a b
    split at h <;> (try split at h) <;> first
      | (obtain rfl := Option.some.inj h; simp [binOp, Op.stringOp, bytes_eq]; done)
      | (cases h; done)
      | skip
    · rename_i hs
      obtain rfl := Option.some.inj h
      have : ¬ (((a.size + b.size : Nat) : Int) > IntKind.i64.max) := by
        have e : IntKind.i64.max = 9223372036854775807 := rfl
        rw [e]
        omega
      simp only [binOp, Op.stringOp]
      rw [if_neg this]
      rfl
  · rename_i a b
    split at h
    · rename_i hb
      have hu := hL.bool t hb
      split at h
      · obtain rfl := Option.some.inj h
        exact run_eql_bool w t a b hu
      · obtain rfl := Option.some.inj h
        exact run_neq_bool w t a b hu
      · cases h
    · cases h
  · cases h

theorem evB_scalar {L : Lay} {op : BinOp} {t : TypeId} {x y v : Value} (h : evB L op t x y = some v) : scalar v = true := by
  unfold evB at h
  repeat' split at h
  all_goals first
    | (obtain rfl := Option.some.inj h; rfl)
    | (cases h; done)

theorem evB_guard {P : Program} {L : Lay} {op : BinOp} {t t' : TypeId} {x y v : Value} (h : evB L op t x y = some v) (p q : Operand) (w : World) : (eqGuard op t' p q x y).run P w = .ok () w := by
  have hx : (∃ k a, x = .int k a) ∨ (∃ a, x = .string a) ∨ (∃ a, x = .bool a) := by
    unfold evB at h
    split at h
    · exact .inl ⟨_, _, rfl⟩
    · exact .inr (.inl ⟨_, rfl⟩)
    · exact .inr (.inr ⟨_, rfl⟩)
    · cases h
  unfold eqGuard
  rcases hx with ⟨k, a, rfl⟩ | ⟨a, rfl⟩ | ⟨a, rfl⟩ <;> split <;> simp

end Go.Proofs.YtiefcnghjcafbaaDoorV

/- The calculus of values, fourth text: variables in memory and slices of the call's own: made, read, written. -/
namespace Go.Proofs.YtiefcnghjcafbaaDoorV
open Go Go.RowKit

/-- A value's cells. -/
def V.cs : V → Option (List V)
  | .agg cs => some cs
  | .tup _ | .gone => none
  | v => some [v]

theorem RV.atom {ok : Nat → Prop} {w : World} {φ : List Value} {x : V} {v : Value} (h : RV ok w φ x v) (ha : x.atomic = true) : v.oneCell' = true ∧ v.cells = #[v] := by
  cases h with
  | val v h => exact ⟨scalar_one h, by cases v <;> simp_all [scalar, Value.cells]⟩
  | nils => exact ⟨rfl, rfl⟩
  | sl xs v h => cases h <;> exact ⟨rfl, rfl⟩
  | eptr => exact ⟨rfl, rfl⟩
  | row => exact ⟨rfl, rfl⟩
  | ptr => exact ⟨rfl, rfl⟩
  | rptr => exact ⟨rfl, rfl⟩
  | win => exact ⟨rfl, rfl⟩
  | fn => exact ⟨rfl, rfl⟩
  | agg => cases ha
  | tup => cases ha
  | gone => cases ha

/-- A list of cells beside their places. -/
def RCs (ok : Nat → Prop) (w : World) (φ : List Value) (cs : List V) (arr : Array Value) : Prop :=
  arr.size = cs.length ∧ ∀ (j : Nat) c, cs[j]? = some c → c.atomic = true ∧ RV ok w φ c (arr.getD j Go.undef)

theorem RV.cells {ok : Nat → Prop} {w : World} {φ : List Value} {x : V} {v : Value} {cs : List V} (h : RV ok w φ x v) (hc : x.cs = some cs) : RCs ok w φ cs v.cells := by
  by_cases ha : x.atomic = true
  · have hx : cs = [x] := by
      cases x <;> simp_all [V.cs, V.atomic]
    subst hx
    obtain ⟨_, h2⟩ := h.atom ha
    rw [h2]
    refine ⟨rfl, fun j c hj => ?_⟩
    have hj0 : j = 0 := by
      have := (List.getElem?_eq_some_iff.1 hj).1
      simpa using this
    subst hj0
    obtain rfl : x = c := by simpa using hj
    exact ⟨ha, h⟩
  · cases x with
    | agg l =>
      obtain rfl : l = cs := Option.some.inj hc
      cases h with
      | agg cs arr hl hat hr => exact ⟨hl.symm, fun j c hj => ⟨hat c (List.mem_of_getElem? hj), hr j c hj⟩⟩
    | tup l => cases hc
    | gone => cases hc
    | _ => exact absurd rfl ha

theorem conV_atomic {u : Value} {c : V} (h : conV u = some c) : c.atomic = true := by
  unfold conV at h
  split at h
  · obtain rfl := Option.some.inj h; rfl
  · split at h
    · obtain rfl := Option.some.inj h; rfl
    · cases h

theorem RCs.one {ok : Nat → Prop} {w : World} {φ : List Value} {cs : List V} {arr : Array Value} (h : RCs ok w φ cs arr) : ∀ v ∈ arr.toList, v.oneCell' = true := by
  intro v hv
  obtain ⟨j, hj, rfl⟩ := List.getElem_of_mem hv
  have hl : j < cs.length := by rw [← h.1]; simpa using hj
  obtain ⟨h1, h2⟩ := h.2 j _ (List.getElem?_eq_getElem hl)
  have e : arr.getD j Go.undef = arr.toList[j] := by
    have : j < arr.size := by simpa using hj
    simp [Array.getD, this]
  rw [e] at h2
  exact (h2.atom h1).1

theorem RCs.move {ok ok' : Nat → Prop} {w w' : World} {φ φ' : List Value} {cs : List V} {arr : Array Value} (h : RCs ok w φ cs arr) (hm : ∀ x v, RV ok w φ x v → RV ok' w' φ' x v) : RCs ok' w' φ' cs arr :=
  ⟨h.1, fun j c hj => ⟨(h.2 j c hj).1, hm _ _ (h.2 j c hj).2⟩⟩

theorem below_alloc1 (w : World) (o : Obj) : Below w.heap.size w (w.alloc o) := (Below.refl _ _).alloc (Nat.le_refl _) o

section
variable {P : Program} {L : Lay} {ts : List V} {bs : List Bx} {o : Oper}

/-- A new variable, filled. -/
theorem op_box {t : TypeId} {p : Operand} {x : V} {cs : List V} (ho : o.op = .box t p) (hx : evO ts p = some x) (hc : x.cs = some cs) :
    OpOk P o (fun ts' bs' => ts' = putV o.dst (.ptr bs.length 0) ts ∧ bs' = bs ++ [.cells cs]) ts bs := by
  refine OpOk.make fun T φ w a hs ht => ?_
  have hv := evO_sound ht hx
  have hl : (φ ++ [Value.pointer (some ⟨w.heap.size, 0, none⟩)])[bs.length]? = some (.pointer (some ⟨w.heap.size, 0, none⟩)) := by rw [← hs.len]; simp
  refine ⟨.pointer (some ⟨w.heap.size, 0, none⟩), .pointer (some ⟨w.heap.size, 0, none⟩), w.alloc (.cells (a.eval p).cells t), ?_, below_alloc1 w _, fun g hg => ?_, fun he => ⟨⟨w.heap.size, (a.eval p).cells, t, rfl, heap_alloc_new w _, ?_⟩, ?_⟩⟩
  · simp [execOp, ho, Instr.box, newVar, newRow]
  · obtain rfl : w.heap.size = g := by simpa [blkOf] using hg
    exact Nat.le_refl _
  · exact (hv.cells hc).move fun _ _ h => h.ext he
  · exact .ptr _ 0 _ hl

/-- A new variable, zero. -/
theorem op_alloc (hL : LayOk P L) {t : TypeId} {cs : List V} (ho : o.op = .alloc t) (hz : L.zero t = some cs) :
    OpOk P o (fun ts' bs' => ts' = putV o.dst (.ptr bs.length 0) ts ∧ bs' = bs ++ [.cells cs]) ts bs := by
  refine OpOk.make fun T φ w a hs ht => ?_
  obtain ⟨i, z, h1, h2, h3⟩ := hL.zero t cs hz
  have hl : (φ ++ [Value.pointer (some ⟨w.heap.size, 0, none⟩)])[bs.length]? = some (.pointer (some ⟨w.heap.size, 0, none⟩)) := by rw [← hs.len]; simp
  refine ⟨.pointer (some ⟨w.heap.size, 0, none⟩), .pointer (some ⟨w.heap.size, 0, none⟩), w.alloc (.cells z.cells t), ?_, below_alloc1 w _, fun g hg => ?_, fun he => ⟨⟨w.heap.size, z.cells, t, rfl, heap_alloc_new w _, ?_⟩, ?_⟩⟩
  · simp [execOp, ho, Instr.alloc, zeroValue, typeInfo, h1, h2, newVar, newRow]
  · obtain rfl : w.heap.size = g := by simpa [blkOf] using hg
    exact Nat.le_refl _
  · have hlen : z.cells.size = cs.length := by
      have := congrArg List.length h3
      simpa using this
    refine ⟨hlen, fun j c hj => ?_⟩
    have hj2 : j < z.cells.size := by rw [hlen]; exact (List.getElem?_eq_some_iff.1 hj).1
    have h4 : conV (z.cells.getD j Go.undef) = some c := by
      have := congrArg (fun l => l[j]?) h3
      simp only [List.getElem?_map, hj, Option.map_some] at this
      rw [show z.cells.toList[j]? = some z.cells[j] by simp [hj2]] at this
      simpa [Array.getD, hj2] using this
    exact ⟨conV_atomic h4, conV_sound h4⟩
  · exact .ptr _ 0 _ hl
end

end Go.Proofs.YtiefcnghjcafbaaDoorV

/- The calculus of values, fifth text: reading and writing through pointers. -/
namespace Go.Proofs.YtiefcnghjcafbaaDoorV
open Go Go.RowKit

theorem S.up_cs (x : S) : x.up.cs = some [x.up] := by cases x <;> rfl
theorem S.up_atomic (x : S) : x.up.atomic = true := by cases x <;> rfl
theorem RS.up {ok : Nat → Prop} {w : World} {φ : List Value} {x : S} {v : Value} (h : RS ok w x v) : RV ok w φ x.up v := by
  cases x with
  | val u => cases h; exact .val _ ‹_›
  | sl xs => exact .sl xs v h

theorem add_add (a : Addr) (i j : Nat) : (a.add i).add j = a.add (i + j) := by
  unfold Addr.add
  split <;> split <;> split <;> simp_all <;> omega
theorem add_plain (g j : Nat) (i : Nat) : (⟨g, j, none⟩ : Addr).add i = ⟨g, j + i, none⟩ := by unfold Addr.add; split <;> simp_all

theorem cell_of {w : World} {g : Nat} {arr : Array Value} {t : TypeId} {fr : Nat × Nat} (h : w.heap[g]? = some (.cells arr t fr)) (j : Nat) : w.cell? ⟨g, j, none⟩ = arr[j]? := by
  simp [World.cell?, h]

/-- n cells read through a pointer. -/
def rd (bs : List Bx) : V → Nat → Option (List V)
  | .ptr k off, n => match bs[k]? with
    | some (.cells cs) => if off + n ≤ cs.length then some ((cs.drop off).take n) else none
    | _ => none
  | .rptr k sz i j, n => match bs[k]? with
    | some (.row _ sz' xs) => match xs[i]? with
      | some x => if sz = sz' ∧ j + n ≤ x.length then some (((x.drop j).take n).map S.up) else none
      | none => none
    | _ => none
  | .eptr cs, n => if n ≤ cs.length then some ((cs.take n).map S.up) else none
  | _, _ => none

theorem own_cell {w : World} {e sz n : Nat} {v : Value} {vals : List Value} (h : w.ownsRow 0 e sz v n vals) {g m c : Nat} (hv : v = .slice (some ⟨g, 0, none⟩) m c) {j : Nat} (hj : j < n * sz) : w.cell? ⟨g, j, none⟩ = some (vals.getD j Go.undef) := by
  rcases h.2 with ⟨rfl, _⟩ | ⟨g', cap, cur, rfl, _, hh, hn, _, hs, ht⟩
  · cases hv
  · simp only [Value.slice.injEq, Option.some.injEq, Addr.mk.injEq] at hv
    obtain ⟨⟨rfl, _⟩, _⟩ := hv
    rw [cell_of hh, ← ht]
    have h1 : n * sz ≤ cur.size := by rw [hs]; exact Nat.mul_le_mul_right _ hn
    simp [List.getD_eq_getElem?_getD, hj, show j < cur.size by omega]

theorem rd_sound {T : Nat → Prop} {bs : List Bx} {φ : List Value} {w : World} (hs : Sim T bs φ w) {p : V} {n : Nat} {cs : List V} {v : Value} (hp : RV (okOf T bs φ) w φ p v) (h : rd bs p n = some cs) :
    cs.length = n ∧ ∃ a : Addr, v = .pointer (some a) ∧ ∃ f : Nat → Value, ∀ (j : Nat) c, cs[j]? = some c → c.atomic = true ∧ w.cell? (a.add j) = some (f j) ∧ RV (okOf T bs φ) w φ c (f j) := by
  cases hp with
  | ptr k off g hg =>
    simp only [rd] at h
    cases hb : bs[k]? with
    | none => rw [hb] at h; cases h
    | some b =>
      rw [hb] at h
      cases b with
      | dead => cases h
      | row e sz xs => cases h
      | iter s p => cases h
      | cells l =>
        simp only at h
        split at h
        · rename_i hl
          obtain rfl := Option.some.inj h
          obtain ⟨v', hv', g', arr, t, rfl, hh, hsz, hc⟩ := hs.box k _ hb
          obtain rfl : g = g' := by
            have := hg.symm.trans hv'
            simpa using this
          refine ⟨by simp; omega, _, rfl, fun j => arr.getD (off + j) Go.undef, fun j c hj => ?_⟩
          have hjn : j < n := by
            have := (List.getElem?_eq_some_iff.1 hj).1
            simp at this
            omega
          have hj2 : l[off + j]? = some c := by
            rw [List.getElem?_take_of_lt hjn, List.getElem?_drop] at hj
            exact hj
          obtain ⟨h1, h2⟩ := hc _ c hj2
          refine ⟨h1, ?_, h2⟩
          rw [add_plain, cell_of hh]
          have : off + j < arr.size := by rw [hsz]; omega
          simp [Array.getD, this]
        · cases h
  | rptr k sz i j g m c hg =>
    simp only [rd] at h
    cases hb : bs[k]? with
    | none => rw [hb] at h; cases h
    | some b =>
      rw [hb] at h
      cases b with
      | dead => cases h
      | cells l => cases h
      | iter s p => cases h
      | row e sz' xs =>
        simp only at h
        cases hx : xs[i]? with
        | none => rw [hx] at h; cases h
        | some x =>
          rw [hx] at h
          simp only at h
          split at h
          · rename_i hl
            obtain ⟨rfl, hl⟩ := hl
            obtain rfl := Option.some.inj h
            obtain ⟨v', hv', hlen, vals, ho, hc⟩ := hs.box k _ hb
            obtain rfl : v' = _ := Option.some.inj (hv'.symm.trans hg)
            have hxl := hlen x (List.mem_of_getElem? hx)
            have hi : i < xs.length := (List.getElem?_eq_some_iff.1 hx).1
            refine ⟨by simp; omega, _, rfl, fun q => vals.getD (i * sz + j + q) Go.undef, fun q c' hq => ?_⟩
            have hqn : q < n := by
              have := (List.getElem?_eq_some_iff.1 hq).1
              simp at this
              omega
            rw [List.getElem?_map, List.getElem?_take_of_lt hqn, List.getElem?_drop] at hq
            obtain ⟨y, hy, rfl⟩ := Option.map_eq_some_iff.1 hq
            have hr := hc i x (j + q) y hx hy
            rw [← Nat.add_assoc] at hr
            refine ⟨S.up_atomic y, ?_, hr.up⟩
            rw [add_plain]
            refine own_cell ho rfl ?_
            have h1 : (i + 1) * sz ≤ xs.length * sz := Nat.mul_le_mul_right _ hi
            rw [Nat.add_mul] at h1
            omega
          · cases h
  | eptr l a hok hlt f hcell hr =>
    simp only [rd] at h
    split at h
    · rename_i hl
      obtain rfl := Option.some.inj h
      refine ⟨by simp; omega, a, rfl, f, fun j c hj => ?_⟩
      have hjn : j < n := by
        have := (List.getElem?_eq_some_iff.1 hj).1
        simp at this
        omega
      rw [List.getElem?_map, List.getElem?_take_of_lt hjn] at hj
      obtain ⟨y, hy, rfl⟩ := Option.map_eq_some_iff.1 hj
      exact ⟨S.up_atomic y, hcell j y hy, (hr j y hy).up⟩
    · cases h
  | val => cases h
  | nils => cases h
  | sl => cases h
  | row => cases h
  | win => cases h
  | fn => cases h
  | agg => cases h
  | tup => cases h
  | gone => cases h

section
variable {P : Program} {L : Lay} {ts : List V} {bs : List Bx} {o : Oper}

theorem run_cel (hL : LayOk P L) {t n : Nat} {b : Bool} (h : L.cel t = some (n, b)) (w : World) : (isAgg t).run P w = .ok b w ∧ (sizeOf t).run P w = .ok n w := by
  obtain ⟨d, hu, hd, hi, _⟩ := hL.cel t n b h
  constructor
  · subst hd
    cases d <;> simp [isAgg, run_underlying hu]
  · cases hq : P.info? t with
    | none => rw [hq] at hi; cases hi
    | some i =>
      rw [hq] at hi
      simp only [Option.map_some, Option.some.injEq] at hi
      simp [sizeOf, typeInfo, hq, hi]

/-- A variable is read. -/
theorem op_load (hL : LayOk P L) {t : TypeId} {a0 : Operand} {p x : V} {n : Nat} {b : Bool} {cs : List V} (ho : o.op = .load t a0) (hp : evO ts a0 = some p) (hc : L.cel t = some (n, b)) (hr : rd bs p n = some cs)
    (hx : (if b then some (.agg cs) else cs[0]?) = some x) : OpOk P o (fun ts' bs' => ts' = putV o.dst x ts ∧ bs' = bs) ts bs := by
  refine OpOk.value fun T φ w a hs ht => ?_
  obtain ⟨hl, ad, hv, f, hf⟩ := rd_sound hs (evO_sound ht hp) hr
  obtain ⟨h1, h2⟩ := run_cel hL hc w
  cases b with
  | false =>
    have hn : n = 1 := (hL.cel t n false hc).elim fun d h => h.2.2.2 rfl
    subst hn
    have hx' : cs[0]? = some x := hx
    obtain ⟨_, k1, k2⟩ := hf 0 x hx'
    refine ⟨f 0, ?_, k2⟩
    have k3 : w.cell? ad = some (f 0) := by simpa [Addr.add] using k1
    simp [execOp, ho, hv, Instr.loadAt, Instr.sureAddr, loadVar, h1, k3, Result.andThen]
  | true =>
    obtain rfl : V.agg cs = x := by simpa using hx
    have hlc : (loadCells ad n).run P w = .ok ((List.range n).map f).toArray w := run_loadCells w ad n f fun j hj => by
      obtain ⟨_, k1, _⟩ := hf j _ (List.getElem?_eq_getElem (by omega))
      exact k1
    refine ⟨.agg ((List.range n).map f).toArray, ?_, .agg cs _ (by simp [hl]) (fun c hc => ?_) (fun i c hi => ?_)⟩
    · simp [execOp, ho, hv, Instr.loadAt, Instr.sureAddr, loadVar, h1, h2, hlc, Result.andThen]
    · obtain ⟨j, hj⟩ := List.mem_iff_getElem?.1 hc
      exact (hf j c hj).1
    · have hin : i < n := by rw [← hl]; exact (List.getElem?_eq_some_iff.1 hi).1
      have := (hf i c hi).2.2
      simpa [Array.getD, hin] using this
end

end Go.Proofs.YtiefcnghjcafbaaDoorV

/- The calculus of values, sixth text: writing through pointers. -/
namespace Go.Proofs.YtiefcnghjcafbaaDoorV
open Go Go.RowKit

/-- A list with a stretch written anew. -/
def spl {α : Type} (l : List α) (off : Nat) (cs : List α) : List α := l.take off ++ cs ++ l.drop (off + cs.length)

theorem spl_length {α : Type} {l : List α} {off : Nat} {cs : List α} (h : off + cs.length ≤ l.length) : (spl l off cs).length = l.length := by
  simp [spl]
  omega

theorem spl_get {α : Type} {l : List α} {off : Nat} {cs : List α} (h : off + cs.length ≤ l.length) (j : Nat) : (spl l off cs)[j]? = if off ≤ j ∧ j < off + cs.length then cs[j - off]? else l[j]? := by
  unfold spl
  by_cases h1 : j < off
  · rw [if_neg (by omega), List.append_assoc, List.getElem?_append_left (by simp; omega), List.getElem?_take_of_lt h1]
  · by_cases h2 : j < off + cs.length
    · rw [if_pos (by omega), List.getElem?_append_left (by simp; omega), List.getElem?_append_right (by simp; omega)]
      simp only [List.length_take]
      rw [Nat.min_eq_left (by omega)]
    · rw [if_neg (by omega), List.getElem?_append_right (by simp; omega), List.getElem?_drop]
      simp only [List.length_append, List.length_take]
      rw [Nat.min_eq_left (by omega)]
      congr 1
      omega

theorem store_cells (P : Program) (g off : Nat) (t : TypeId) : ∀ (vs : List Value) (i : Nat) (w : World) (arr : Array Value), w.heap[g]? = some (.cells arr t (0, 0)) → off + i + vs.length ≤ arr.size → (∀ v ∈ vs, v.oneCell' = true) →
    ∃ w', (storeCells ⟨g, off, none⟩ vs i).run P w = .ok () w' ∧ w'.heap[g]? = some (.cells (spl arr.toList (off + i) vs).toArray t (0, 0)) ∧ w'.os = w.os ∧ w'.tape = w.tape ∧ w'.output = w.output ∧ w'.heap.size = w.heap.size ∧
      ∀ q, q ≠ g → w'.heap[q]? = w.heap[q]?
  | [], i, w, arr, hh, hb, h1 => by
    refine ⟨w, rfl, ?_, rfl, rfl, rfl, rfl, fun _ _ => rfl⟩
    rw [hh]
    simp [spl]
  | v :: vs, i, w, arr, hh, hb, h1 => by
    have hlt : off + i < arr.size := by simp at hb; omega
    have hc : w.cell? ⟨g, off + i, none⟩ = some arr[off + i] := by rw [cell_of hh]; simp [hlt]
    have hf : w.frozen? ⟨g, off + i, none⟩ = false := by simp [World.frozen?, hh]
    have hs : (store ((⟨g, off, none⟩ : Addr).add i) v).run P w = .ok () (w.setCell ⟨g, off + i, none⟩ v) := by
      rw [add_plain, run_store P w _ v _ (h1 v (by simp)), hc]
      simp [hf]
    have hh' : (w.setCell ⟨g, off + i, none⟩ v).heap[g]? = some (.cells (arr.setIfInBounds (off + i) v) t (0, 0)) := by
      simp [World.setCell, Array.getElem?_modify, hh]
    obtain ⟨w', k1, k2, k3, k4, k5, k6, k7⟩ := store_cells P g off t vs (i + 1) (w.setCell ⟨g, off + i, none⟩ v) _ hh' (by simp at hb ⊢; omega) (fun u hu => h1 u (List.mem_cons_of_mem _ hu))
    refine ⟨w', ?_, ?_, k3, k4, k5, ?_, fun q hq => (k7 q hq).trans (Below.heap_setCell _ _ _ _ hq)⟩
    · simp only [storeCells, Sem.run_bind, hs, Result.andThen]
      exact k1
    · rw [k2]
      congr 3
      apply List.ext_getElem?
      intro j
      have e1 : off + (i + 1) + vs.length ≤ (arr.setIfInBounds (off + i) v).toList.length := by simp at hb ⊢; omega
      have e2 : off + i + (v :: vs).length ≤ arr.toList.length := by simpa using hb
      rw [spl_get e1, spl_get e2]
      by_cases hj : j = off + i
      · subst hj
        rw [if_neg (by omega), if_pos (by simp)]
        simp [hlt]
      · by_cases hj2 : off + i ≤ j ∧ j < off + i + (v :: vs).length
        · rw [if_pos (by simp at hj2 ⊢; omega), if_pos hj2]
          obtain ⟨m, hm⟩ : ∃ m, j - (off + i) = m + 1 := ⟨j - (off + i) - 1, by omega⟩
          rw [hm, List.getElem?_cons_succ]
          congr 1
          omega
        · rw [if_neg (by simp at hj2 ⊢; omega), if_neg hj2]
          simp only [Array.toList_setIfInBounds]
          rw [List.getElem?_set_ne (by omega)]
    · rw [k6]
      simp [World.setCell]

section
variable {P : Program} {L : Lay} {ts : List V} {bs : List Bx} {o : Oper}

theorem run_storeAt (hL : LayOk P L) {t n : Nat} {b : Bool} (hc : L.cel t = some (n, b)) {g off : Nat} {v : Value} {w : World} {arr : Array Value} {e : TypeId} (hh : w.heap[g]? = some (.cells arr e (0, 0))) (hn : v.cells.size = n) (hb : off + n ≤ arr.size)
    (h1 : ∀ u ∈ v.cells.toList, u.oneCell' = true) : ∃ w', (Instr.storeAt t (.pointer (some ⟨g, off, none⟩)) v).run P w = .ok () w' ∧ w'.heap[g]? = some (.cells (spl arr.toList off v.cells.toList).toArray e (0, 0)) ∧
      w'.os = w.os ∧ w'.tape = w.tape ∧ w'.output = w.output ∧ w'.heap.size = w.heap.size ∧ ∀ q, q ≠ g → w'.heap[q]? = w.heap[q]? := by
  obtain ⟨w', k1, k2, k3⟩ := store_cells P g off e v.cells.toList 0 w arr hh (by simp [hn]; exact hb) h1
  refine ⟨w', ?_, by simpa using k2, k3⟩
  obtain ⟨_, h2⟩ := run_cel hL hc w
  simp [Instr.storeAt, Instr.sureAddr, storeVar, h2, hn, k1, Result.andThen]

/-- A variable is written. -/
theorem op_store (hL : LayOk P L) {t : TypeId} {a0 v0 : Operand} {x : V} {n k off : Nat} {b : Bool} {l cs : List V} (ho : o.op = .store t a0 v0) (hp : evO ts a0 = some (.ptr k off)) (hx : evO ts v0 = some x)
    (hc : L.cel t = some (n, b)) (hcs : x.cs = some cs) (hb : bs[k]? = some (.cells l)) (hn : cs.length = n) (hle : off + n ≤ l.length) :
    OpOk P o (fun ts' bs' => ts' = putV o.dst (.tup []) ts ∧ bs' = bs.set k (.cells (spl l off cs))) ts bs := by
  refine OpOk.write hb rfl fun T φ w a v hs ht hv hbo => ?_
  obtain ⟨g, arr, e, rfl, hh, hsz, hcell⟩ := hbo
  have hpp := evO_sound ht hp
  have hea : a.eval a0 = .pointer (some ⟨g, off, none⟩) := by
    generalize a.eval a0 = u at hpp
    cases hpp with
    | ptr k off g' hg =>
      have := hg.symm.trans hv
      simp only [Option.some.injEq, Value.pointer.injEq, Addr.mk.injEq] at this
      obtain ⟨rfl, _⟩ := this
      rfl
  have hxv := (evO_sound ht hx).cells hcs
  obtain ⟨w', k1, k2, k3, k4, k5, k6, k7⟩ := run_storeAt (P := P) hL hc (v := a.eval v0) hh (by rw [hxv.1]; exact hn) (by rw [hsz]; exact hle) hxv.one
  refine ⟨w', ?_, k3, k4, k5, by omega, fun q hq hne => k7 q (fun e => hne (by rw [e]; rfl)), fun he => ?_⟩
  · simp [execOp, ho, hea, k1, Result.andThen]
  · have e1 : off + cs.length ≤ l.length := by omega
    have e2 : off + (a.eval v0).cells.toList.length ≤ arr.toList.length := by simp [hxv.1, hsz]; omega
    refine ⟨g, _, e, rfl, k2, ?_, fun j c hj => ?_⟩
    · rw [List.size_toArray, spl_length e2, spl_length e1]
      simpa using hsz
    · rw [spl_get e1] at hj
      have hg2 : ∀ u, (spl arr.toList off (a.eval v0).cells.toList)[j]? = some u → (spl arr.toList off (a.eval v0).cells.toList).toArray.getD j Go.undef = u := by
        intro u hu
        simp [Array.getD_eq_getD_getElem?, hu]
      by_cases hin : off ≤ j ∧ j < off + cs.length
      · rw [if_pos hin] at hj
        obtain ⟨h1, h2⟩ := hxv.2 _ c hj
        refine ⟨h1, ?_⟩
        rw [hg2 ((a.eval v0).cells.getD (j - off) Go.undef)]
        · exact h2.ext he
        · rw [spl_get e2, if_pos (by simp [hxv.1]; exact hin)]
          have : j - off < (a.eval v0).cells.size := by rw [hxv.1]; omega
          simp [Array.getD, this]
      · rw [if_neg hin] at hj
        obtain ⟨h1, h2⟩ := hcell _ c hj
        refine ⟨h1, ?_⟩
        rw [hg2 (arr.getD j Go.undef)]
        · exact h2.ext he
        · rw [spl_get e2, if_neg (by simp [hxv.1]; simpa using hin)]
          have : j < arr.size := by rw [hsz]; exact (List.getElem?_eq_some_iff.1 hj).1
          simp [Array.getD, this]

def V.down : V → Option S
  | .val v => some (.val v)
  | .sl xs => some (.sl xs)
  | .nils => some (.sl [])
  | _ => none

theorem RV.down {ok : Nat → Prop} {w : World} {φ : List Value} {x : V} {v : Value} {s : S} (h : RV ok w φ x v) (hd : x.down = some s) : RS ok w s v := by
  cases h with
  | val v h => obtain rfl := Option.some.inj hd; exact .val v h
  | nils => obtain rfl := Option.some.inj hd; exact .nil none 0 (Nat.zero_le _)
  | sl xs v h => obtain rfl := Option.some.inj hd; exact h
  | eptr => cases hd
  | row => cases hd
  | ptr => cases hd
  | rptr => cases hd
  | win => cases hd
  | fn => cases hd
  | agg => cases hd
  | tup => cases hd
  | gone => cases hd

def downs : List V → Option (List S)
  | [] => some []
  | x :: r => match x.down, downs r with
    | some s, some l => some (s :: l)
    | _, _ => none

theorem downs_get : ∀ {cs : List V} {l : List S}, downs cs = some l → l.length = cs.length ∧ ∀ (j : Nat) s, l[j]? = some s → ∃ x, cs[j]? = some x ∧ x.down = some s
  | [], l, h => by obtain rfl := Option.some.inj h; exact ⟨rfl, fun j s hj => by simp at hj⟩
  | x :: r, l, h => by
    unfold downs at h
    split at h
    · rename_i s l' h1 h2
      obtain rfl := Option.some.inj h
      obtain ⟨k1, k2⟩ := downs_get h2
      refine ⟨by simp [k1], fun j s' hj => ?_⟩
      cases j with
      | zero => obtain rfl : s = s' := by simpa using hj
                exact ⟨x, rfl, h1⟩
      | succ j => exact k2 j s' (by simpa using hj)
    · cases h

/-- An element of a slice of the call's own is written. -/
theorem op_storeR (hL : LayOk P L) {t : TypeId} {a0 v0 : Operand} {x : V} {n k sz i j e : Nat} {b : Bool} {xs : List (List S)} {y ss : List S} {cs : List V} (ho : o.op = .store t a0 v0) (hp : evO ts a0 = some (.rptr k sz i j)) (hx : evO ts v0 = some x)
    (hc : L.cel t = some (n, b)) (hcs : x.cs = some cs) (hss : downs cs = some ss) (hb : bs[k]? = some (.row e sz xs)) (hy : xs[i]? = some y) (hn : cs.length = n) (hle : j + n ≤ y.length) :
    OpOk P o (fun ts' bs' => ts' = putV o.dst (.tup []) ts ∧ bs' = bs.set k (.row e sz (xs.set i (spl y j ss)))) ts bs := by
  refine OpOk.write hb rfl fun T φ w a v hs ht hv hbo => ?_
  obtain ⟨hlen, vals, how, hcell⟩ := hbo
  have hpp := evO_sound ht hp
  obtain ⟨hsl, hsg⟩ := downs_get hss
  have hyl := hlen y (List.mem_of_getElem? hy)
  have hi : i < xs.length := (List.getElem?_eq_some_iff.1 hy).1
  have hmul : i * sz + sz ≤ xs.length * sz := by
    have := Nat.mul_le_mul_right sz hi
    rwa [Nat.succ_mul] at this
  have hxv := (evO_sound ht hx).cells hcs
  have hone : ∀ u ∈ (a.eval v0).cells.toList, u.oneCell' = true := hxv.one
  rcases how with ⟨hvl, hown⟩
  rcases hown with ⟨_, h0⟩ | ⟨g, cap, cur, rfl, hg0, hh, hnc, hcm, hcs2, htk⟩
  · omega
  have hea : a.eval a0 = .pointer (some ⟨g, i * sz + j, none⟩) := by
    generalize a.eval a0 = u at hpp
    cases hpp with
    | rptr k sz i j g' m c hg =>
      have := hg.symm.trans hv
      simp only [Option.some.injEq, Value.slice.injEq, Addr.mk.injEq] at this
      obtain ⟨⟨rfl, _⟩, _⟩ := this
      rfl
  have hcap : xs.length * sz ≤ cur.size := by rw [hcs2]; exact Nat.mul_le_mul_right _ hnc
  obtain ⟨w', k1, k2, k3, k4, k5, k6, k7⟩ := run_storeAt (P := P) hL hc (off := i * sz + j) (v := a.eval v0) hh (by rw [hxv.1]; exact hn) (by omega) hone
  refine ⟨w', ?_, k3, k4, k5, by omega, fun q hq hne => k7 q (fun e => hne (by rw [e]; rfl)), fun he => ?_⟩
  · simp [execOp, ho, hea, k1, Result.andThen]
  have e3 : j + ss.length ≤ y.length := by omega
  have e2 : i * sz + j + (a.eval v0).cells.toList.length ≤ cur.toList.length := by simp [hxv.1]; omega
  refine ⟨fun z hz => ?_, (spl cur.toList (i * sz + j) (a.eval v0).cells.toList).take ((xs.set i (spl y j ss)).length * sz), ?_, ?_⟩
  · rcases List.mem_or_eq_of_mem_set hz with h | rfl
    · exact hlen z h
    · rw [spl_length e3]; exact hyl
  · refine ⟨?_, .inr ⟨g, cap, _, by simp, Nat.zero_le _, k2, by simpa using hnc, hcm, ?_, rfl⟩⟩
    · rw [List.length_take, spl_length e2, List.length_set]
      simp
      omega
    · rw [List.size_toArray, spl_length e2]
      simpa using hcs2
  · intro i' x' j' y' hx' hy'
    have hi' : i' < xs.length := by
      have := (List.getElem?_eq_some_iff.1 hx').1
      simpa using this
    have hmul' : i' * sz + sz ≤ xs.length * sz := by
      have := Nat.mul_le_mul_right sz hi'
      rwa [Nat.succ_mul] at this
    have hxl' : x'.length = sz := by
      by_cases hii : i = i'
      · subst hii
        rw [List.getElem?_set_self hi] at hx'
        obtain rfl := Option.some.inj hx'
        rw [spl_length e3]; exact hyl
      · rw [List.getElem?_set_ne hii] at hx'
        exact hlen x' (List.mem_of_getElem? hx')
    have hj' : j' < sz := by rw [← hxl']; exact (List.getElem?_eq_some_iff.1 hy').1
    have hidx : i' * sz + j' < (xs.set i (spl y j ss)).length * sz := by simp; omega
    have hget : ∀ u, (spl cur.toList (i * sz + j) (a.eval v0).cells.toList)[i' * sz + j']? = some u → ((spl cur.toList (i * sz + j) (a.eval v0).cells.toList).take ((xs.set i (spl y j ss)).length * sz)).getD (i' * sz + j') Go.undef = u := by
      intro u hu
      rw [List.getD_eq_getElem?_getD, List.getElem?_take_of_lt hidx, hu]
      rfl
    have hcur : ∀ q, q < xs.length * sz → cur.toList[q]? = some (vals.getD q Go.undef) := by
      intro q hq
      rw [← htk, List.getD_eq_getElem?_getD, List.getElem?_take_of_lt hq]
      have : q < cur.size := by omega
      simp [this]
    by_cases hii : i = i'
    · subst hii
      rw [List.getElem?_set_self hi] at hx'
      obtain rfl := Option.some.inj hx'
      rw [spl_get e3] at hy'
      by_cases hin : j ≤ j' ∧ j' < j + ss.length
      · rw [if_pos hin] at hy'
        obtain ⟨c, hc1, hc2⟩ := hsg _ _ hy'
        obtain ⟨_, h2⟩ := hxv.2 _ c hc1
        rw [hget ((a.eval v0).cells.getD (j' - j) Go.undef)]
        · exact (h2.ext he).down hc2
        · rw [spl_get e2, if_pos (by simp [hxv.1]; omega)]
          have : i * sz + j' - (i * sz + j) = j' - j := by omega
          rw [this]
          have : j' - j < (a.eval v0).cells.size := by rw [hxv.1]; omega
          simp [Array.getD, this]
      · rw [if_neg hin] at hy'
        rw [hget (vals.getD (i * sz + j') Go.undef)]
        · exact (hcell i y j' y' hy hy').ext he
        · rw [spl_get e2, if_neg (by simp [hxv.1]; omega), hcur _ (by omega)]
    · rw [List.getElem?_set_ne hii] at hx'
      rw [hget (vals.getD (i' * sz + j') Go.undef)]
      · exact (hcell i' x' j' y' hx' hy').ext he
      · have hne : ¬ (i * sz + j ≤ i' * sz + j' ∧ i' * sz + j' < i * sz + j + (a.eval v0).cells.toList.length) := by
          have hl : (a.eval v0).cells.toList.length = n := by simp [hxv.1, hn]
          rw [hl]
          intro ⟨q1, q2⟩
          rcases Nat.lt_or_ge i i' with hlt | hge
          · have := Nat.mul_le_mul_right sz hlt
            rw [Nat.succ_mul] at this
            omega
          · have hlt : i' < i := by omega
            have := Nat.mul_le_mul_right sz hlt
            rw [Nat.succ_mul] at this
            omega
        rw [spl_get e2, if_neg hne, hcur _ (by omega)]
end

end Go.Proofs.YtiefcnghjcafbaaDoorV

/- The calculus of values, seventh text: addresses, slices that are read, strings, structs built. -/
namespace Go.Proofs.YtiefcnghjcafbaaDoorV
open Go Go.RowKit

section
variable {P : Program} {L : Lay} {ts : List V} {bs : List Bx} {o : Oper}

theorem op_move {x0 : Operand} {x : V} (ho : o.op = .move x0 ∨ o.op = .assign x0) (hx : evO ts x0 = some x) : OpOk P o (fun ts' bs' => ts' = putV o.dst x ts ∧ bs' = bs) ts bs :=
  OpOk.value fun T φ w a _ ht => ⟨_, by rcases ho with ho | ho <;> simp [execOp, ho], evO_sound ht hx⟩

theorem op_pick {c a0 b0 : Operand} {p : Bool} {x : V} (ho : o.op = .pick c a0 b0) (hc : evO ts c = some (.val (.bool p))) (hx : (if p then evO ts a0 else evO ts b0) = some x) :
    OpOk P o (fun ts' bs' => ts' = putV o.dst x ts ∧ bs' = bs) ts bs := by
  refine OpOk.value fun T φ w a _ ht => ?_
  have h1 := RV.bool_of (evO_sound ht hc)
  cases p
  · exact ⟨a.eval b0, by simp [execOp, ho, h1, asBool], evO_sound ht hx⟩
  · exact ⟨a.eval a0, by simp [execOp, ho, h1, asBool], evO_sound ht hx⟩

theorem op_bin (hL : LayOk P L) {op : BinOp} {t t' : TypeId} {x0 y0 : Operand} {x y v : Value} (ho : o.op = .binOp op t x0 y0 t') (hx : evO ts x0 = some (.val x)) (hy : evO ts y0 = some (.val y)) (hv : evB L op t x y = some v) :
    OpOk P o (fun ts' bs' => ts' = putV o.dst (.val v) ts ∧ bs' = bs) ts bs := by
  refine OpOk.value fun T φ w a _ ht => ⟨v, ?_, .val v (evB_scalar hv)⟩
  have h1 := RV.bool_of (evO_sound ht hx)
  have h2 := RV.bool_of (evO_sound ht hy)
  simp only [execOp, ho, h1, h2, Sem.run_bind, evB_guard hv, Result.andThen, evB_sound hL hv, Sem.run_pure]

def evU : UnOp → Value → Option Value
  | .not, .bool b => some (.bool !b)
  | .neg, .int k n => some (.int k (k.wrap (0 - n)))
  | _, _ => none

theorem op_un {op : UnOp} {t : TypeId} {x0 : Operand} {x v : Value} (ho : o.op = .unOp op t x0) (hx : evO ts x0 = some (.val x)) (hv : evU op x = some v) :
    OpOk P o (fun ts' bs' => ts' = putV o.dst (.val v) ts ∧ bs' = bs) ts bs := by
  refine OpOk.value fun T φ w a _ ht => ?_
  have h1 := RV.bool_of (evO_sound ht hx)
  unfold evU at hv
  split at hv
  · obtain rfl := Option.some.inj hv
    exact ⟨_, by simp [execOp, ho, h1, Op.unary], .val _ rfl⟩
  · obtain rfl := Option.some.inj hv
    exact ⟨_, by simp [execOp, ho, h1, Op.unary, Op.intArith], .val _ rfl⟩
  · cases hv

theorem op_conv (hL : LayOk P L) {s d : TypeId} {x0 : Operand} {k k' : IntKind} {n : Int} (ho : o.op = .convert s d x0) (hx : evO ts x0 = some (.val (.int k n))) (hs : (L.int s).isSome = true) (hd : L.int d = some k') :
    OpOk P o (fun ts' bs' => ts' = putV o.dst (.val (.int k' (k'.wrap n))) ts ∧ bs' = bs) ts bs := by
  refine OpOk.value fun T φ w a _ ht => ⟨_, ?_, .val _ rfl⟩
  have h1 := RV.bool_of (evO_sound ht hx)
  obtain ⟨k0, hk0⟩ := Option.isSome_iff_exists.1 hs
  simp [execOp, ho, h1, convert, run_underlying (hL.int s _ hk0), run_underlying (hL.int d _ hd), Conv.intToInt]

theorem op_convS (hL : LayOk P L) {s d : TypeId} {x0 : Operand} {k : IntKind} {n : Int} (ho : o.op = .convert s d x0) (hx : evO ts x0 = some (.val (.int k n))) (hs : (L.int s).isSome = true) (hd : L.str d = true) :
    OpOk P o (fun ts' bs' => ts' = putV o.dst (.val (.string (Utf8.encode n))) ts ∧ bs' = bs) ts bs := by
  refine OpOk.value fun T φ w a _ ht => ⟨_, ?_, .val _ rfl⟩
  have h1 := RV.bool_of (evO_sound ht hx)
  obtain ⟨k0, hk0⟩ := Option.isSome_iff_exists.1 hs
  simp [execOp, ho, h1, convert, run_underlying (hL.int s _ hk0), run_underlying (hL.str d hd), Conv.intToString]

theorem op_extract {x0 : Operand} {i : Nat} {vs : List V} {x : V} (ho : o.op = .extract x0 i) (hx : evO ts x0 = some (.tup vs)) (hi : vs[i]? = some x) :
    OpOk P o (fun ts' bs' => ts' = putV o.dst x ts ∧ bs' = bs) ts bs := by
  refine OpOk.value fun T φ w a _ ht => ?_
  have h1 := evO_sound ht hx
  generalize he : a.eval x0 = u at h1
  cases h1 with
  | tup vs arr hl h =>
    have hlt : i < arr.size := by rw [← hl]; exact (List.getElem?_eq_some_iff.1 hi).1
    have h2 := h i x hi
    refine ⟨arr.getD i Go.undef, ?_, h2⟩
    simp [execOp, ho, he, Instr.extract, hlt, Array.getD]

theorem op_func {f : FuncId} {cap : Array Operand} {cs : List V} (ho : o.op = .makeFunc (.func f) #[] cap) (hc : cap.toList.map (evO ts) = cs.map some) :
    OpOk P o (fun ts' bs' => ts' = putV o.dst (.fn f cs) ts ∧ bs' = bs) ts bs := by
  refine OpOk.value fun T φ w a _ ht => ⟨.func (.func f) #[] (cap.map a.eval), by simp [execOp, ho, Instr.makeFunc], ?_⟩
  have hlen : cs.length = cap.size := by
    have := congrArg List.length hc
    simpa using this.symm
  refine .fn f cs _ (by simp [hlen]) fun i c hi => ?_
  have hil : i < cap.size := by rw [← hlen]; exact (List.getElem?_eq_some_iff.1 hi).1
  have h1 : evO ts cap[i] = some c := by
    have := congrArg (fun l => l[i]?) hc
    simpa [hi, hil] using this
  have := evO_sound ht h1
  simpa [Array.getD, hil] using this

/-- A field's address. -/
def fldP (o : Nat) : V → Option V
  | .ptr k off => some (.ptr k (off + o))
  | .rptr k sz i j => some (.rptr k sz i (j + o))
  | .eptr cs => some (.eptr (cs.drop o))
  | _ => none

theorem off_at (hL : LayOk P L) {t : TypeId} {l : List (Nat × Nat)} {f q n : Nat} (h : L.off t = some l) (hf : l[f]? = some (q, n)) :
    ∃ (fs : Array Field) (fl : Field), P.underlying t = some (.struct fs) ∧ fs[f]? = some fl ∧ fl.offset = q ∧ ∀ w, (sizeOf fl.type).run P w = .ok n w := by
  obtain ⟨fs, hu, hl⟩ := hL.off t l h
  have hlen : fs.size = l.length := by
    have := congrArg List.length hl
    simpa using this
  have hlt : f < fs.size := by rw [hlen]; exact (List.getElem?_eq_some_iff.1 hf).1
  have h1 := congrArg (fun l => l[f]?) hl
  simp only [List.getElem?_map, hf, Option.map_some, Array.getElem?_toList, Array.getElem?_eq_getElem hlt, Option.some.injEq, Option.map_eq_some_iff, Prod.mk.injEq] at h1
  obtain ⟨i, hi, h2, h3⟩ := h1
  exact ⟨fs, fs[f], hu, Array.getElem?_eq_getElem hlt, h2, fun w => by simp [sizeOf, typeInfo, hi, h3]⟩

theorem op_field (hL : LayOk P L) {t : TypeId} {x0 : Operand} {f q n : Nat} {l : List (Nat × Nat)} {p x : V} (ho : o.op = .fieldAddr t x0 f) (hx : evO ts x0 = some p) (hl : L.off t = some l) (hf : l[f]? = some (q, n)) (hn : n ≠ 0) (hp : fldP q p = some x) :
    OpOk P o (fun ts' bs' => ts' = putV o.dst x ts ∧ bs' = bs) ts bs := by
  obtain ⟨fs, fl, hu, hfl, hq, hsz⟩ := off_at hL hl hf
  have hrun : ∀ (ad : Addr) (w : World), (Instr.fieldAt t (.pointer (some ad)) f).run P w = .ok (.pointer (some (ad.add q))) w := fun ad w => by
    simp [Instr.fieldAt, run_underlying hu, hfl, Instr.sureAddr, fieldPlace, hsz, hn, hq, Result.andThen]
  refine OpOk.value fun T φ w a _ ht => ?_
  have h1 := evO_sound ht hx
  generalize he : a.eval x0 = u at h1
  cases h1 with
  | ptr k off g hg =>
    obtain rfl := Option.some.inj hp
    exact ⟨_, by simp [execOp, ho, he, hrun, add_plain, Result.andThen], .ptr k _ g hg⟩
  | rptr k sz i j g n c hg =>
    obtain rfl := Option.some.inj hp
    exact ⟨_, by simp [execOp, ho, he, hrun, add_plain, Nat.add_assoc, Result.andThen], .rptr k sz i _ g n c hg⟩
  | eptr cs ad hok hlt f' hcell hr =>
    obtain rfl := Option.some.inj hp
    refine ⟨_, by simp [execOp, ho, he, hrun, Result.andThen]; rfl, .eptr _ _ (by rw [add_block]; exact hok) (by rw [add_block]; exact hlt) (fun j => f' (q + j)) (fun j y hj => ?_) (fun j y hj => ?_)⟩
    · rw [List.getElem?_drop] at hj
      rw [add_add]
      exact hcell _ y hj
    · rw [List.getElem?_drop] at hj
      exact hr _ y hj
  | val => cases hp
  | nils => cases hp
  | sl => cases hp
  | row => cases hp
  | win => cases hp
  | fn => cases hp
  | agg => cases hp
  | tup => cases hp
  | gone => cases hp

/-- What a slice holds. -/
def view (bs : List Bx) : V → Option (List (List S))
  | .nils => some []
  | .sl xs => some xs
  | .row k => match bs[k]? with
    | some (.row _ _ xs) => some xs
    | _ => none
  | _ => none

/-- An element's address. -/
def idxS (n i : Nat) (xs : List (List S)) : Option V := match xs[i]? with
  | some x => if x.length = n then some (.eptr x) else none
  | none => none
def idxP (bs : List Bx) (n i : Nat) : V → Option V
  | .sl xs => idxS n i xs
  | .row k => match bs[k]? with
    | some (.row _ sz xs) => if i < xs.length ∧ sz = n then some (.rptr k sz i 0) else none
    | _ => none
  | .win k sz o m _ => if i < m ∧ sz = n then some (.ptr k ((o + i) * sz)) else none
  | _ => none

theorem run_indexAt (hL : LayOk P L) {t e n : Nat} (hl : L.sl t = some (e, n)) (ad : Addr) (len c : Nat) (k : IntKind) (i : Int) (h0 : 0 ≤ i) (h1 : i < len) (w : World) :
    (Instr.indexAt t (.slice (some ad) len c) (.int k i)).run P w = .ok (.pointer (some (ad.add (i.toNat * n)))) w := by
  obtain ⟨hu, hi, _⟩ := hL.sl t e n hl
  have he : P.elem t = e := by simp [Program.elem, hu]
  cases hq : P.info? e with
  | none => rw [hq] at hi; cases hi
  | some inf =>
    rw [hq] at hi
    have hi : inf.size = n := by simpa using hi
    rw [run_indexAt_slice w t ad len c k i (by rw [he]; exact hu), if_pos ⟨h0, h1⟩, he]
    simp [sizeOf, typeInfo, hq, hi, Result.andThen]

theorem op_indexArr (hL : LayOk P L) {t n e : Nat} {x0 i0 : Operand} {k : IntKind} {i : Int} {q off : Nat} (ho : o.op = .indexAddr t x0 i0) (hx : evO ts x0 = some (.ptr q off)) (hi : evO ts i0 = some (.val (.int k i))) (hl : L.arr t = some (n, e)) (h0 : 0 ≤ i ∧ i < n) :
    OpOk P o (fun ts' bs' => ts' = putV o.dst (.ptr q (off + i.toNat * e)) ts ∧ bs' = bs) ts bs := by
  obtain ⟨el, inf, hu, hinf, hsz⟩ := hL.arr t n e hl
  refine OpOk.value fun T φ w a hs ht => ?_
  have h1 := evO_sound ht hx
  have h2 := RV.bool_of (evO_sound ht hi)
  generalize he : a.eval x0 = u at h1
  cases h1 with
  | ptr _ _ g hg =>
    exact ⟨_, by simp [execOp, ho, he, h2, Instr.indexAt, asIntOf, Instr.sureAddr, run_underlying hu, h0, sizeOf, typeInfo, hinf, hsz, add_plain, Result.andThen], .ptr q _ g hg⟩

theorem RS.elem {ok : Nat → Prop} {w : World} {φ : List Value} {xs : List (List S)} {v : Value} (h : RS ok w (.sl xs) v) {i : Nat} {x : List S} (hx : xs[i]? = some x) :
    ∃ ad c, v = .slice (some ad) xs.length c ∧ ∀ n, n = x.length → RV ok w φ (.eptr x) (.pointer (some (ad.add (i * n)))) := by
  cases h with
  | nil A c h => simp at hx
  | cons xs ad c sz f h0 hs hc hm hok hlt hcell hr =>
    refine ⟨ad, c, rfl, fun n hn => ?_⟩
    have hxs := hs x (List.mem_of_getElem? hx)
    subst hn
    rw [hxs]
    refine .eptr x _ (by rw [add_block]; exact hok) (by rw [add_block]; exact hlt) (f i) (fun j y hj => ?_) (fun j y hj => hr i x j y hx hj)
    rw [add_add]
    exact hcell i x j y hx hj

theorem op_index (hL : LayOk P L) {t e n : Nat} {x0 i0 : Operand} {k : IntKind} {i : Int} {p x : V} (ho : o.op = .indexAddr t x0 i0) (hx : evO ts x0 = some p) (hi : evO ts i0 = some (.val (.int k i))) (hl : L.sl t = some (e, n)) (h0 : 0 ≤ i)
    (hp : idxP bs n i.toNat p = some x) : OpOk P o (fun ts' bs' => ts' = putV o.dst x ts ∧ bs' = bs) ts bs := by
  refine OpOk.value fun T φ w a hs ht => ?_
  have h1 := evO_sound ht hx
  have h2 := RV.bool_of (evO_sound ht hi)
  have key : ∀ (xs : List (List S)) (v : Value), RS (okOf T bs φ) w (.sl xs) v → a.eval x0 = v → idxS n i.toNat xs = some x →
      ∃ u, (execOp a.eval o).run P w = .ok (.value u) w ∧ RV (okOf T bs φ) w φ x u := by
    intro xs v hr he hm
    unfold idxS at hm
    split at hm
    · rename_i y hy
      split at hm
      · rename_i hyn
        obtain rfl := Option.some.inj hm
        obtain ⟨ad, c, rfl, hel⟩ := hr.elem (φ := φ) hy
        have hlt : i.toNat < xs.length := (List.getElem?_eq_some_iff.1 hy).1
        refine ⟨_, ?_, hel n hyn.symm⟩
        simp [execOp, ho, he, h2, run_indexAt hL hl ad xs.length c k i h0 (by omega), Result.andThen]
      · cases hm
    · cases hm
  generalize he : a.eval x0 = u at h1
  cases h1 with
  | sl xs v hr => exact key xs _ hr he hp
  | row q A m c hq =>
    simp only [idxP] at hp
    cases hb : bs[q]? with
    | none => rw [hb] at hp; cases hp
    | some b =>
      rw [hb] at hp
      obtain ⟨v', hv', hbo⟩ := hs.box q b hb
      obtain rfl : v' = _ := Option.some.inj (hv'.symm.trans hq)
      cases b with
      | dead => cases hp
      | cells l => cases hp
      | iter s p => cases hp
      | row e' sz xs =>
        simp only at hp
        split at hp
        · rename_i hlt
          obtain ⟨hlt, rfl⟩ := hlt
          obtain rfl := Option.some.inj hp
          obtain ⟨hlen, vals, how, _⟩ := hbo
          rcases how.2 with ⟨_, hz⟩ | ⟨g, cap, cur, hvv, _, _, _, _, _, _⟩
          · omega
          · simp only [Value.slice.injEq] at hvv
            obtain ⟨rfl, rfl, rfl⟩ := hvv
            refine ⟨_, ?_, .rptr q sz i.toNat 0 g _ _ hq⟩
            simp [execOp, ho, he, h2, run_indexAt hL hl _ xs.length _ k i h0 (by omega), Result.andThen, add_plain]
        · cases hp
  | val => cases hp
  | nils => cases hp
  | eptr => cases hp
  | ptr => cases hp
  | rptr => cases hp
  | win q sz o m c g hq hn hm =>
    simp only [idxP] at hp
    split at hp
    · rename_i hc
      obtain ⟨hlt, rfl⟩ := hc
      obtain rfl := Option.some.inj hp
      refine ⟨_, ?_, .ptr q _ g hq⟩
      have e1 : (o + i.toNat) * sz = o * sz + i.toNat * sz := Nat.add_mul _ _ _
      rw [e1]
      simp [execOp, ho, he, h2, run_indexAt hL hl _ m c k i h0 (by omega), Result.andThen, add_plain]
    · cases hp
  | fn => cases hp
  | agg => cases hp
  | tup => cases hp
  | gone => cases hp

theorem view_len {T : Nat → Prop} {bs : List Bx} {φ : List Value} {w : World} (hs : Sim T bs φ w) {p : V} {xs : List (List S)} {v : Value} (h : RV (okOf T bs φ) w φ p v) (hv : view bs p = some xs) : ∃ A c, v = .slice A xs.length c := by
  have key : ∀ xs v, RS (okOf T bs φ) w (.sl xs) v → ∃ A c, v = .slice A xs.length c := fun xs v hr => by
    cases hr with
    | nil A c h => exact ⟨A, c, rfl⟩
    | cons xs ad c => exact ⟨some ad, c, rfl⟩
  cases h with
  | nils => obtain rfl := Option.some.inj hv; exact ⟨none, 0, rfl⟩
  | sl xs' v hr => obtain rfl := Option.some.inj hv; exact key _ _ hr
  | row q A m c hq =>
    simp only [view] at hv
    cases hb : bs[q]? with
    | none => rw [hb] at hv; cases hv
    | some b =>
      rw [hb] at hv
      obtain ⟨v', hv', hbo⟩ := hs.box q b hb
      obtain rfl : v' = _ := Option.some.inj (hv'.symm.trans hq)
      cases b with
      | dead => cases hv
      | cells l => cases hv
      | iter s p => cases hv
      | row e' sz xs =>
        obtain rfl := Option.some.inj hv
        obtain ⟨_, vals, how, _⟩ := hbo
        rcases how.2 with ⟨h1, h2⟩ | ⟨g, cap, cur, h1, _⟩
        · exact ⟨A, c, by simp only [Value.slice.injEq] at h1; rw [h1.2.1, h2]⟩
        · simp only [Value.slice.injEq] at h1
          exact ⟨A, c, by rw [h1.2.1]⟩
  | val => cases hv
  | eptr => cases hv
  | ptr => cases hv
  | rptr => cases hv
  | win => cases hv
  | fn => cases hv
  | agg => cases hv
  | tup => cases hv
  | gone => cases hv

theorem op_len (hL : LayOk P L) {t e n : Nat} {x0 : Operand} {p : V} {xs : List (List S)} (ho : o.op = .call { callee := .builtin .len, args := #[x0], argTypes := #[t] }) (hx : evO ts x0 = some p) (hl : L.sl t = some (e, n)) (hv : view bs p = some xs) :
    OpOk P o (fun ts' bs' => ts' = putV o.dst (.val (.int .i64 xs.length)) ts ∧ bs' = bs) ts bs := by
  refine OpOk.value fun T φ w a hs ht => ⟨_, ?_, .val _ rfl⟩
  obtain ⟨A, c, he⟩ := view_len hs (evO_sound ht hx) hv
  obtain ⟨hu, _⟩ := hL.sl t e n hl
  simp [execOp, ho, resolve, he, invoke, builtin, Builtin.len_, run_underlying hu, goInt, Result.andThen]

theorem op_nil {x0 : Operand} {p : V} (ho : o.op = .nilCheck x0) (hx : evO ts x0 = some p) (hp : (match p with | .ptr _ _ | .rptr _ _ _ _ | .eptr _ => true | _ => false) = true) :
    OpOk P o (fun ts' bs' => ts' = putV o.dst p ts ∧ bs' = bs) ts bs := by
  refine OpOk.value fun T φ w a hs ht => ?_
  have h1 := evO_sound ht hx
  generalize he : a.eval x0 = u at h1
  cases h1 with
  | ptr k off g hg => exact ⟨_, by simp [execOp, ho, he], .ptr k off g hg⟩
  | rptr k sz i j g n c hg => exact ⟨_, by simp [execOp, ho, he], .rptr k sz i j g n c hg⟩
  | eptr cs ad hok hlt f hcell hr => exact ⟨_, by simp [execOp, ho, he], .eptr cs ad hok hlt f hcell hr⟩
  | _ => cases hp

theorem op_char (hL : LayOk P L) {t : Nat} {x0 i0 : Operand} {s : ByteArray} {k : IntKind} {i : Int} {c : UInt8} (ho : o.op = .index t x0 i0) (hx : evO ts x0 = some (.val (.string s))) (hi : evO ts i0 = some (.val (.int k i))) (hl : L.str t = true) (h0 : 0 ≤ i) (hc : s[i.toNat]? = some c) :
    OpOk P o (fun ts' bs' => ts' = putV o.dst (.val (.int .u8 c.toNat)) ts ∧ bs' = bs) ts bs := by
  refine OpOk.value fun T φ w a hs ht => ⟨_, ?_, .val _ rfl⟩
  have h1 := RV.bool_of (evO_sound ht hx)
  have h2 := RV.bool_of (evO_sound ht hi)
  simp [execOp, ho, h1, h2, Instr.index, asIntOf, run_underlying (hL.str t hl), h0, hc]

theorem op_cutS (hL : LayOk P L) {t : Nat} {x0 : Operand} {lo hi : Option Operand} {s : ByteArray} {l h : Nat} (ho : o.op = .slice t x0 lo hi none) (hx : evO ts x0 = some (.val (.string s))) (hs : L.str t = true)
    (hlo : match lo with | none => l = 0 | some q => ∃ k, evO ts q = some (.val (.int k l))) (hhi : match hi with | none => h = s.size | some q => ∃ k, evO ts q = some (.val (.int k h))) (h1 : l ≤ h) (h2 : h ≤ s.size) :
    OpOk P o (fun ts' bs' => ts' = putV o.dst (.val (.string (s.extract l h))) ts ∧ bs' = bs) ts bs := by
  refine OpOk.value fun T φ w a _ ht => ⟨_, ?_, .val _ rfl⟩
  have hxv := RV.bool_of (evO_sound ht hx)
  have hrun : (Instr.slice t (.string s) (lo.map a.eval) (hi.map a.eval) none).run P w = .ok (.string (s.extract l h)) w := by
    have hl' : ∀ (code : BoundsCode), (match lo.map a.eval with | some v => Instr.sliceBound v h code | none => pure 0).run P w = .ok l w := by
      intro code
      cases lo with
      | none => obtain rfl := hlo; rfl
      | some q =>
        obtain ⟨k, hk⟩ := hlo
        have := RV.bool_of (evO_sound ht hk)
        simp [this, Instr.sliceBound, asIntOf, h1]
    have hh' : ∀ (code : BoundsCode), (match hi.map a.eval with | some v => Instr.sliceBound v s.size code | none => pure s.size).run P w = .ok h w := by
      intro code
      cases hi with
      | none => obtain rfl := hhi; rfl
      | some q =>
        obtain ⟨k, hk⟩ := hhi
        have := RV.bool_of (evO_sound ht hk)
        simp [this, Instr.sliceBound, asIntOf, h2]
    cases lo <;> cases hi <;> simp_all [Instr.slice, Instr.sliceBounds, run_underlying (hL.str t hs)]
  have hsl : (Instr.sliceAt t (.string s) (lo.map a.eval) (hi.map a.eval) none).run P w = .ok (.string (s.extract l h)) w := by
    simp [Instr.sliceAt, run_underlying (hL.str t hs), hrun]
  simp [execOp, ho, hxv, hsl]

theorem op_lenS (hL : LayOk P L) {t : Nat} {x0 : Operand} {s : ByteArray} (ho : o.op = .call { callee := .builtin .len, args := #[x0], argTypes := #[t] }) (hx : evO ts x0 = some (.val (.string s))) (hl : L.str t = true) :
    OpOk P o (fun ts' bs' => ts' = putV o.dst (.val (.int .i64 s.size)) ts ∧ bs' = bs) ts bs := by
  refine OpOk.value fun T φ w a hs ht => ⟨_, ?_, .val _ rfl⟩
  have h1 := RV.bool_of (evO_sound ht hx)
  simp [execOp, ho, resolve, h1, invoke, builtin, Builtin.len_, run_underlying (hL.str t hl), goInt, Result.andThen]
end

end Go.Proofs.YtiefcnghjcafbaaDoorV

/- The calculus of values, eighth text: structs and slices built, appended to, cut; strings cut. -/
namespace Go.Proofs.YtiefcnghjcafbaaDoorV
open Go Go.RowKit

theorem fold_set (off : Nat) : ∀ (vs : List Value) (k : Nat) (cs : Array Value), off + k + vs.length ≤ cs.size →
    (vs.zipIdx k).foldl (fun (cs : Array Value) (x : Value × Nat) => cs.setIfInBounds (off + x.2) x.1) cs = (spl cs.toList (off + k) vs).toArray
  | [], k, cs, _ => by simp [spl]
  | v :: vs, k, cs, h => by
    rw [List.zipIdx_cons, List.foldl_cons, fold_set off vs (k + 1) _ (by simp at h ⊢; omega)]
    congr 1
    apply List.ext_getElem?
    intro j
    have e1 : off + (k + 1) + vs.length ≤ (cs.setIfInBounds (off + k) v).toList.length := by simp at h ⊢; omega
    have e2 : off + k + (v :: vs).length ≤ cs.toList.length := by simpa using h
    rw [spl_get e1, spl_get e2]
    by_cases hj : j = off + k
    · subst hj
      have hlt : off + k < cs.size := by simp at h; omega
      rw [if_neg (by omega), if_pos (by simp)]
      simp [hlt]
    · by_cases hj2 : off + k ≤ j ∧ j < off + k + (v :: vs).length
      · rw [if_pos (by simp at hj2 ⊢; omega), if_pos hj2]
        obtain ⟨m, hm⟩ : ∃ m, j - (off + k) = m + 1 := ⟨j - (off + k) - 1, by omega⟩
        rw [hm, List.getElem?_cons_succ]
        congr 1
        omega
      · rw [if_neg (by simp at hj2 ⊢; omega), if_neg hj2]
        simp only [Array.toList_setIfInBounds]
        rw [List.getElem?_set_ne (by omega)]

def fillV (place : Nat → Option (Nat × Nat)) (zs : List V) : List (Nat × V) → Option (List V)
  | [] => some zs
  | (i, x) :: r => match place i, x.cs with
    | some (off, n), some cs => if cs.length = n ∧ off + n ≤ zs.length then fillV place (spl zs off cs) r else none
    | _, _ => none

theorem RCs.spl {ok : Nat → Prop} {w : World} {φ : List Value} {zs cs : List V} {za ca : Array Value} (h : RCs ok w φ zs za) (hc : RCs ok w φ cs ca) {off : Nat} (hb : off + cs.length ≤ zs.length) : RCs ok w φ (spl zs off cs) (spl za.toList off ca.toList).toArray := by
  have e2 : off + ca.toList.length ≤ za.toList.length := by simp [hc.1, h.1]; exact hb
  refine ⟨by rw [List.size_toArray, spl_length e2, spl_length hb]; simpa using h.1, fun j c hj => ?_⟩
  rw [spl_get hb] at hj
  have hg2 : ∀ u, (Go.Proofs.YtiefcnghjcafbaaDoorV.spl za.toList off ca.toList)[j]? = some u → (Go.Proofs.YtiefcnghjcafbaaDoorV.spl za.toList off ca.toList).toArray.getD j Go.undef = u := by
    intro u hu
    simp [Array.getD_eq_getD_getElem?, hu]
  by_cases hin : off ≤ j ∧ j < off + cs.length
  · rw [if_pos hin] at hj
    obtain ⟨h1, h2⟩ := hc.2 _ c hj
    refine ⟨h1, ?_⟩
    rw [hg2 (ca.getD (j - off) Go.undef)]
    · exact h2
    · rw [spl_get e2, if_pos (by simp [hc.1]; exact hin)]
      have : j - off < ca.size := by rw [hc.1]; omega
      simp [Array.getD, this]
  · rw [if_neg hin] at hj
    obtain ⟨h1, h2⟩ := h.2 _ c hj
    refine ⟨h1, ?_⟩
    rw [hg2 (za.getD j Go.undef)]
    · exact h2
    · rw [spl_get e2, if_neg (by simp [hc.1]; simpa using hin)]
      have : j < za.size := by rw [h.1]; exact (List.getElem?_eq_some_iff.1 hj).1
      simp [Array.getD, this]

theorem fill_sound {ok : Nat → Prop} {w : World} {φ : List Value} {place : Nat → Option (Nat × Nat)} : ∀ (ps : List (Nat × V)) (vs : List (Nat × Value)) (zs res : List V) (za : Array Value), RCs ok w φ zs za →
    ps.length = vs.length → (∀ (k : Nat) p v, ps[k]? = some p → vs[k]? = some v → p.1 = v.1 ∧ RV ok w φ p.2 v.2) → fillV place zs ps = some res → ∃ ra, Instr.fill place za vs = some ra ∧ RCs ok w φ res ra
  | [], [], zs, res, za, hz, _, _, h => by
    obtain rfl := Option.some.inj h
    exact ⟨za, rfl, hz⟩
  | [], _ :: _, _, _, _, _, hl, _, _ => by cases hl
  | _ :: _, [], _, _, _, _, hl, _, _ => by cases hl
  | (i, x) :: ps, (i', v) :: vs, zs, res, za, hz, hl, hp, h => by
    obtain ⟨rfl, hr⟩ := hp 0 _ _ rfl rfl
    simp only at hr
    unfold fillV at h
    split at h
    · rename_i off n cs h1 h2
      split at h
      · rename_i h3
        have hc := hr.cells h2
        obtain ⟨ra, k1, k2⟩ := fill_sound ps vs _ res _ (hz.spl hc (by omega)) (by simpa using hl) (fun k p u hk hu => hp (k + 1) p u (by simpa using hk) (by simpa using hu)) h
        refine ⟨ra, ?_, k2⟩
        have hsz : v.cells.size = n := by rw [hc.1]; exact h3.1
        unfold Instr.fill
        simp only [h1]
        rw [if_neg (by simp [hsz, hz.1]; omega)]
        have := fold_set off v.cells.toList 0 za (by simp [hz.1]; omega)
        rw [← k1]
        congr 1
        rw [← Array.foldl_toList, Array.toList_zipIdx]
        simpa using this
      · cases h
    · cases h

section
variable {P : Program} {L : Lay} {ts : List V} {bs : List Bx} {o : Oper}

def evPs (ts : List V) : List (Nat × Operand) → Option (List (Nat × V))
  | [] => some []
  | (i, x) :: r => match evO ts x, evPs ts r with
    | some v, some l => some ((i, v) :: l)
    | _, _ => none

theorem evPs_sound {ok : Nat → Prop} {w : World} {φ : List Value} {a : Act} (ht : Tm ok w φ ts a) : ∀ {ps : List (Nat × Operand)} {l : List (Nat × V)}, evPs ts ps = some l →
    l.length = ps.length ∧ ∀ (k : Nat) p v, l[k]? = some p → (ps.map fun q => (q.1, a.eval q.2))[k]? = some v → p.1 = v.1 ∧ RV ok w φ p.2 v.2
  | [], l, h => by
    obtain rfl := Option.some.inj h
    exact ⟨rfl, fun k p v hk => by simp at hk⟩
  | (i, x) :: r, l, h => by
    unfold evPs at h
    split at h
    · rename_i v l' h1 h2
      obtain rfl := Option.some.inj h
      obtain ⟨k1, k2⟩ := evPs_sound ht h2
      refine ⟨by simp [k1], fun k p u hk hu => ?_⟩
      cases k with
      | zero =>
        obtain rfl : (i, v) = p := by simpa using hk
        obtain rfl : (i, a.eval x) = u := by simpa using hu
        exact ⟨rfl, evO_sound ht h1⟩
      | succ k => exact k2 k p u (by simpa using hk) (by simpa using hu)
    · cases h

theorem zero_cells (hL : LayOk P L) {t : TypeId} {zs : List V} (h : L.zero t = some zs) : ∃ i z, P.info? t = some i ∧ i.zero = some z ∧ ∀ (ok : Nat → Prop) w φ, RCs ok w φ zs z.cells := by
  obtain ⟨i, z, h1, h2, h3⟩ := hL.zero t zs h
  have hlen : z.cells.size = zs.length := by
    have := congrArg List.length h3
    simpa using this
  refine ⟨i, z, h1, h2, fun ok w φ => ⟨hlen, fun j c hj => ?_⟩⟩
  have hj2 : j < z.cells.size := by rw [hlen]; exact (List.getElem?_eq_some_iff.1 hj).1
  have h4 : conV (z.cells.getD j Go.undef) = some c := by
    have := congrArg (fun l => l[j]?) h3
    simp only [List.getElem?_map, hj, Option.map_some] at this
    rw [show z.cells.toList[j]? = some z.cells[j] by simp [hj2]] at this
    simpa [Array.getD, hj2] using this
  exact ⟨conV_atomic h4, conV_sound h4⟩

/-- A struct is built. -/
theorem op_build (hL : LayOk P L) {t : TypeId} {ps : Array (Nat × Operand)} {l : List (Nat × Nat)} {zs res : List V} {vs : List (Nat × V)} (ho : o.op = .build t ps) (hp : evPs ts ps.toList = some vs) (hl : L.off t = some l) (hz : L.zero t = some zs) (hf : fillV (l[·]?) zs vs = some res) :
    OpOk P o (fun ts' bs' => ts' = putV o.dst (.agg res) ts ∧ bs' = bs) ts bs := by
  refine OpOk.value fun T φ w a hs ht => ?_
  obtain ⟨i, z, h1, h2, hzc⟩ := zero_cells hL hz
  obtain ⟨fs, hu, hfs⟩ := hL.off t l hl
  obtain ⟨k1, k2⟩ := evPs_sound ht hp
  obtain ⟨ra, hra, hrc⟩ := fill_sound vs (ps.toList.map fun q => (q.1, a.eval q.2)) zs res z.cells (hzc _ w φ) (by simp [k1]) k2 hf
  refine ⟨.agg ra, ?_, .agg res ra hrc.1.symm (fun c hc => ?_) (fun i c hi => (hrc.2 i c hi).2)⟩
  · have hb : P.built t (ps.map fun q => (q.1, a.eval q.2)).toList = some ra := by
      unfold Program.built
      have hm : fs.toList.mapM (fun f => (P.info? f.type).map fun i => (f.offset, i.size)) = some l := by
        have : ∀ (fl : List Field) (l : List (Nat × Nat)), (fl.map fun f => (P.info? f.type).map fun i => (f.offset, i.size)) = l.map some → fl.mapM (fun f => (P.info? f.type).map fun i => (f.offset, i.size)) = some l := by
          intro fl
          induction fl with
          | nil => intro l h; cases l <;> simp_all
          | cons f fl ih =>
            intro l h
            cases l with
            | nil => simp at h
            | cons q l =>
              simp only [List.map_cons, List.cons.injEq] at h
              rw [List.mapM_cons, h.1, ih l h.2]
              rfl
        exact this _ _ hfs
      simp only [h1, hu, h2, hm]
      simpa using hra
    have := run_build (P := P) w t _ ra hb
    simp only [execOp, ho, Sem.run_bind, this, Result.andThen, Sem.run_pure]
  · obtain ⟨j, hj⟩ := List.mem_iff_getElem?.1 hc
    exact (hrc.2 j c hj).1

def chunk (sz n : Nat) (l : List S) : List (List S) := (List.range n).map fun i => (l.drop (i * sz)).take sz

theorem chunk_get {sz n : Nat} {l : List S} (hl : l.length = n * sz) {i : Nat} {x : List S} (hx : (chunk sz n l)[i]? = some x) : i < n ∧ x.length = sz ∧ ∀ j y, x[j]? = some y → l[i * sz + j]? = some y := by
  have hi : i < n := by
    have := (List.getElem?_eq_some_iff.1 hx).1
    simpa [chunk] using this
  simp only [chunk, List.getElem?_map, List.getElem?_range hi, Option.map_some, Option.some.injEq] at hx
  subst hx
  have h1 : i * sz + sz ≤ n * sz := by
    have := Nat.mul_le_mul_right sz hi
    rwa [Nat.succ_mul] at this
  refine ⟨hi, by simp; omega, fun j y hj => ?_⟩
  have hjs : j < sz := by
    have := (List.getElem?_eq_some_iff.1 hj).1
    simp at this
    omega
  rw [List.getElem?_take_of_lt hjs, List.getElem?_drop] at hj
  exact hj

theorem chunk_length {sz n : Nat} {l : List S} : (chunk sz n l).length = n := by simp [chunk]

theorem rep_get {α : Type} (zs : List α) : ∀ (n q : Nat) c, (List.replicate n zs).flatten[q]? = some c → zs[q % zs.length]? = some c
  | 0, q, c, h => by simp at h
  | n + 1, q, c, h => by
    rw [List.replicate_succ, List.flatten_cons] at h
    by_cases hq : q < zs.length
    · rw [List.getElem?_append_left hq] at h
      rwa [Nat.mod_eq_of_lt hq]
    · rw [List.getElem?_append_right (by omega)] at h
      have := rep_get zs n _ c h
      rwa [Nat.mod_eq_sub_mod (by omega)]

theorem RCs.downs {ok : Nat → Prop} {w : World} {φ : List Value} {cs : List V} {arr : Array Value} {l : List S} (h : RCs ok w φ cs arr) (hd : Go.Proofs.YtiefcnghjcafbaaDoorV.downs cs = some l) : arr.size = l.length ∧ ∀ (j : Nat) y, l[j]? = some y → RS ok w y (arr.getD j Go.undef) := by
  obtain ⟨h1, h2⟩ := downs_get hd
  refine ⟨by rw [h.1, h1], fun j y hj => ?_⟩
  obtain ⟨c, hc, hcd⟩ := h2 j y hj
  exact (h.2 j c hc).2.down hcd

/-- A slice is built. -/
theorem op_rows (hL : LayOk P L) {t e sz n : Nat} {ps : Array (Nat × Operand)} {zs res : List V} {vs : List (Nat × V)} {l : List S} (ho : o.op = .buildSlice t n ps) (hp : evPs ts ps.toList = some vs) (hl : L.sl t = some (e, sz)) (hz : L.zero e = some zs)
    (hf : fillV (fun i => some (i * sz, sz)) (List.replicate n zs).flatten vs = some res) (hd : downs res = some l) (hzs : zs.length = sz) (hll : l.length = n * sz) (hn : n * sz ≤ 16777216) :
    OpOk P o (fun ts' bs' => ts' = putV o.dst (.row bs.length) ts ∧ bs' = bs ++ [.row e sz (chunk sz n l)]) ts bs := by
  refine OpOk.make fun T φ w a hs ht => ?_
  obtain ⟨hu, hinf, hsz0⟩ := hL.sl t e sz hl
  obtain ⟨i, z, h1, h2, hzc⟩ := zero_cells hL hz
  have hisz : i.size = sz := by rw [h1] at hinf; simpa using hinf
  obtain ⟨k1, k2⟩ := evPs_sound ht hp
  have hsize : (sizeOf e).run P w = .ok sz w := by simp [sizeOf, typeInfo, h1, hisz]
  have hzr := hzc (okOf T bs φ) w φ
  have hzl : z.cells.size = sz := by rw [hzr.1, hzs]
  have hzrc : RCs (okOf T bs φ) w φ (List.replicate n zs).flatten ((Array.range (n * sz)).map fun q => z.cells[q % z.cells.size]!) := by
    refine ⟨by simp [hzs], fun q c hq => ?_⟩
    have h3 := rep_get zs n q c hq
    rw [hzs] at h3
    have hqn : q < n * sz := by
      have := (List.getElem?_eq_some_iff.1 hq).1
      simpa [hzs] using this
    obtain ⟨k3, k4⟩ := hzr.2 _ c h3
    refine ⟨k3, ?_⟩
    have hm : q % sz < z.cells.size := by rw [hzl]; exact Nat.mod_lt _ hsz0
    have e : ((Array.range (n * sz)).map fun q => z.cells[q % z.cells.size]!).getD q Go.undef = z.cells.getD (q % sz) Go.undef := by
      simp [Array.getD_eq_getD_getElem?, hqn, hzl]
      rw [getElem!_pos z.cells (q % sz) hm, getElem?_pos z.cells (q % sz) hm]
      rfl
    rw [e]
    exact k4
  obtain ⟨ra, hra, hrc⟩ := fill_sound vs (ps.toList.map fun q => (q.1, a.eval q.2)) _ res _ hzrc (by simp [k1]) k2 hf
  obtain ⟨hras, hrad⟩ := hrc.downs hd
  have hlφ : (φ ++ [Value.slice (some ⟨w.heap.size, 0, none⟩) n n])[bs.length]? = some (.slice (some ⟨w.heap.size, 0, none⟩) n n) := by rw [← hs.len]; simp
  refine ⟨.slice (some ⟨w.heap.size, 0, none⟩) n n, .slice (some ⟨w.heap.size, 0, none⟩) n n, w.alloc (.cells ra e), ?_, below_alloc1 w _, fun g hg => ?_, fun he => ⟨⟨fun x hx => ?_, ra.toList, ⟨?_, .inr ⟨w.heap.size, n, ra, by simp [chunk_length], Nat.zero_le _, heap_alloc_new w _, by simp [chunk_length], ?_, ?_, ?_⟩⟩, fun i x j y hx hy => ?_⟩, ?_⟩⟩
  · have hnot : ¬ (n * sz > 2 ^ 24) := by omega
    by_cases hn0 : n * sz = 0
    · have hra' : Instr.fill (fun i => some (i * sz, sz)) #[] (ps.toList.map fun q => (q.1, a.eval q.2)) = some ra := by
        rw [← hra, hn0, show ((Array.range 0).map fun q => z.cells[q % z.cells.size]!) = (#[] : Array Value) from Array.eq_empty_of_size_eq_zero (by simp)]
      have hrun : (Instr.buildSlice t n (ps.map fun q => (q.1, a.eval q.2))).run P w = .ok (.slice (some ⟨w.heap.size, 0, none⟩) n n) (w.alloc (.cells ra e)) := by
        simp only [Instr.buildSlice, Sem.run_bind, run_underlying hu, hsize, Result.andThen_ok]
        rw [if_neg hnot, if_pos hn0]
        have er : (Array.map (fun _ : Nat => (default : Value)) (Array.range 0)) = #[] := Array.eq_empty_of_size_eq_zero (by simp)
        simp [hra', newRow, hn0, er]
      simp [execOp, ho, hrun]
    · have hrun : (Instr.buildSlice t n (ps.map fun q => (q.1, a.eval q.2))).run P w = .ok (.slice (some ⟨w.heap.size, 0, none⟩) n n) (w.alloc (.cells ra e)) := by
        simp only [Instr.buildSlice, Sem.run_bind, run_underlying hu, hsize, Result.andThen_ok]
        rw [if_neg hnot, if_neg hn0]
        simp [zeroValue, typeInfo, h1, h2, hra, newRow]
      simp [execOp, ho, hrun]
  · obtain rfl : w.heap.size = g := by simpa [blkOf] using hg
    exact Nat.le_refl _
  · obtain ⟨i', hi'⟩ := List.mem_iff_getElem?.1 hx
    exact (chunk_get hll hi').2.1
  · simp [chunk_length, hras, hll]
  · simp only [maxLen]
    have := Nat.le_mul_of_pos_right n hsz0
    omega
  · rw [hras, hll]
  · rw [chunk_length, ← hll, ← hras]
    exact List.take_of_length_le (by simp)
  · obtain ⟨_, _, h5⟩ := chunk_get hll hx
    have h6 := hrad _ y (h5 j y hy)
    have e2 : ra.toList.getD (i * sz + j) Go.undef = ra.getD (i * sz + j) Go.undef := by
      simp [List.getD_eq_getElem?_getD, Array.getD_eq_getD_getElem?]
    rw [e2]
    exact h6.ext he
  · exact .row _ _ _ _ hlφ
end

end Go.Proofs.YtiefcnghjcafbaaDoorV

/- The calculus of values, ninth text: calls, regions, functions. -/
namespace Go.Proofs.YtiefcnghjcafbaaDoorV
open Go Go.RowKit

section
variable {P : Program} {m : Nat} {L : Lay} {Q : Ex → List V → List Bx → Prop} {N : List V → List Bx → Prop} {ts : List V} {bs : List Bx} {o : Oper}

def evOs (ts : List V) : List Operand → Option (List V)
  | [] => some []
  | x :: r => match evO ts x, evOs ts r with
    | some v, some l => some (v :: l)
    | _, _ => none

theorem evOs_sound {ok : Nat → Prop} {w : World} {φ : List Value} {a : Act} (ht : Tm ok w φ ts a) : ∀ {os : List Operand} {vs : List V}, evOs ts os = some vs → RVs ok w φ vs (os.map a.eval).toArray
  | [], vs, h => by
    obtain rfl := Option.some.inj h
    exact ⟨rfl, fun i c hc => by simp at hc⟩
  | x :: r, vs, h => by
    unfold evOs at h
    split at h
    · rename_i v l h1 h2
      obtain rfl := Option.some.inj h
      obtain ⟨k1, k2⟩ := evOs_sound ht h2
      refine ⟨by simpa using k1, fun i c hc => ?_⟩
      cases i with
      | zero =>
        obtain rfl : v = c := by simpa using hc
        simpa [Array.getD] using evO_sound ht h1
      | succ i =>
        have := k2 i c (by simpa using hc)
        simpa [Array.getD_eq_getD_getElem?] using this
    · cases h

/-- A call of a Go function. -/
theorem op_call {f0 : Operand} {args : Array Operand} {tys : Array TypeId} {f : FuncId} {vs : List V} {R : V → List Bx → Prop} (ho : o.op = .call { callee := .value f0, args := args, argTypes := tys }) (hf : evO ts f0 = some (.fn f [])) (hen : Enters P f)
    (hv : evOs ts args.toList = some vs) (h : FnOk P f vs bs R) : OpOk P o (fun ts' bs' => ∃ r, R r bs' ∧ ts' = putV o.dst r ts) ts bs := by
  intro T φ w a hs ht K Qx hK
  have h1 := evO_sound ht hf
  have h2 := evOs_sound ht hv
  generalize he : a.eval f0 = u at h1
  cases h1 with
  | fn f cap arr hl hc =>
    have harr : arr = #[] := by
      have : arr.size = 0 := by simpa using hl.symm
      exact Array.eq_empty_of_size_eq_zero this
    subst harr
    unfold Oper.wp
    have hr : (execOp a.eval o).run P w = .ok (.enter f (args.toList.map a.eval).toArray) w := by
      have hen' := hen (args.map a.eval) w
      have hm : (args.toList.map a.eval).toArray = args.map a.eval := by apply Array.toList_inj.1; simp
      rw [hm]
      simp [execOp, ho, resolve, he, Deferred.ofValue, invoke, hen']
    rw [hr]
    refine (h T φ w _ hs h2).mono ?_
    rintro e w' ⟨v, r, bs', φ', rfl, q, hx, hs', hv'⟩
    exact hK _ _ _ _ _ ⟨r, q, rfl⟩ hx hs' ((ht.ext hx).put hv' _)

/-- Is the operation wanted? -/
def wantV (ops : Array Oper) (o : Oper) (ts : List V) : Option Bool := match o.guard with
  | none => some true
  | some (j, b) => match ((ops[j]?).bind (·.dst)).bind (ts[·]?) with
    | some (.val (.bool u)) => some (u == b)
    | some (.tup _) => some false
    | _ => none

theorem wantV_sound {ok : Nat → Prop} {w : World} {φ : List Value} {a : Act} (ht : Tm ok w φ ts a) {ops : Array Oper} {u : Bool} (h : wantV ops o ts = some u) : Region.wanted o (yielded ops a.tmps) = u := by
  unfold wantV at h
  unfold Region.wanted
  split at h
  · rename_i hg
    rw [hg]
    exact Option.some.inj h
  · rename_i j b hg
    rw [hg]
    simp only
    cases hd : (ops[j]?).bind (·.dst) with
    | none => rw [hd] at h; cases h
    | some t =>
      rw [hd] at h
      simp only [Option.bind_some] at h
      unfold yielded
      rw [hd]
      simp only [Option.bind_some]
      cases hx : ts[t]? with
      | none => rw [hx] at h; cases h
      | some x =>
        rw [hx] at h
        have hlt : t < a.tmps.size := by rw [← ht.1]; exact (List.getElem?_eq_some_iff.1 hx).1
        have hr := ht.2.2 t x hx
        have hget : a.tmps[t]? = some (a.tmps.getD t Go.undef) := by simp [Array.getD, hlt]
        rw [hget]
        generalize a.tmps.getD t Go.undef = v at hr
        split at h
        · rename_i u' hu
          obtain rfl := Option.some.inj hu
          cases hr
          obtain rfl := Option.some.inj h
          simp only
          cases u' <;> cases b <;> rfl
        · rename_i vs hu
          obtain rfl := Option.some.inj hu
          cases hr
          obtain rfl := Option.some.inj h
          simp
        · cases h

/-- Operations in line. -/
def Ops (P : Program) (ops : Array Oper) (N : List V → List Bx → Prop) : List Oper → List V → List Bx → Prop
  | [], ts, bs => N ts bs
  | o :: r, ts, bs => ∃ u, wantV ops o ts = some u ∧ (u = true → OpOk P o (Ops P ops N r) ts bs) ∧ (u = false → Ops P ops N r (putV o.dst (.tup []) ts) bs)

theorem ops_sound {ops : Array Oper} : ∀ (l : List Oper) (ts : List V) (bs : List Bx), Ops P ops (Q .normal) l ts bs → ∀ (T : Nat → Prop) φ w a, Sim T bs φ w → Tm (okOf T bs φ) w φ ts a → ∀ K : Exit → Act → World → Prop,
    (∀ e ts' bs' φ' a' w', Q e ts' bs' → Ext bs φ w bs' φ' w' → Sim T bs' φ' w' → Tm (okOf T bs' φ') w' φ' ts' a' → K e.out a' w') → wpList P ops K l a w
  | [], ts, bs, h, T, φ, w, a, hs, ht, K, hK => hK .normal _ _ _ _ _ h (Ext.refl _ _ _) hs ht
  | o :: r, ts, bs, h, T, φ, w, a, hs, ht, K, hK => by
    obtain ⟨u, hu, h1, h2⟩ := h
    have hw := wantV_sound ht hu
    refine wpList_step fun K' hK' => ?_
    rw [hw]
    cases u with
    | true =>
      simp only [if_true]
      refine h1 rfl T φ w a hs ht K' K fun ts' bs' φ' a' w' q he hs' ht' => hK' _ _ ?_
      exact ops_sound r ts' bs' q T φ' w' a' hs' ht' K fun e ts2 bs2 φ2 a2 w2 q2 he2 => hK e ts2 bs2 φ2 a2 w2 q2 (he.trans he2)
    | false =>
      simp only [Bool.false_eq_true, if_false]
      exact hK' _ _ (ops_sound r _ bs (h2 rfl) T φ w _ hs (ht.put rv_skip _) K hK)

theorem Ok.region {id : Nat} {l : List Oper} (h : Ops P l.toArray (Q .normal) l ts bs) : Ok P m (.region id l.toArray false) Q ts bs :=
  fun T φ w a hs ht K hK => wp_region_lit (ops_sound l ts bs h T φ w a hs ht K fun e ts' bs' φ' a' w' q he => hK e ts' bs' φ' a' w' q he.toM)

/-! ### A function -/
def res1 (L : Lay) (ts : List V) (bs : List Bx) : ResultVar → Option V
  | .tmp t => ts[t]?
  | .cell p t => match ts[p]?, L.cel t with
    | some x, some (n, b) => match rd bs x n with
      | some cs => if b then some (.agg cs) else cs[0]?
      | none => none
    | _, _ => none

def resV (L : Lay) (ts : List V) (bs : List Bx) : List ResultVar → Option (List V)
  | [] => some []
  | x :: r => match res1 L ts bs x, resV L ts bs r with
    | some v, some l => some (v :: l)
    | _, _ => none

def resOf : List V → V
  | [v] => v
  | l => .tup l

theorem run_loadVar (hL : LayOk P L) {T : Nat → Prop} {φ : List Value} {w : World} (hs : Sim T bs φ w) {t n : Nat} {b : Bool} {p x : V} {v : Value} {cs : List V} (hp : RV (okOf T bs φ) w φ p v) (hc : L.cel t = some (n, b)) (hr : rd bs p n = some cs)
    (hx : (if b then some (.agg cs) else cs[0]?) = some x) : ∃ ad u, v = .pointer (some ad) ∧ (loadVar t ad).run P w = .ok u w ∧ RV (okOf T bs φ) w φ x u := by
  obtain ⟨hl, ad, hv, f, hf⟩ := rd_sound hs hp hr
  obtain ⟨h1, h2⟩ := run_cel hL hc w
  cases b with
  | false =>
    have hn : n = 1 := (hL.cel t n false hc).elim fun d h => h.2.2.2 rfl
    subst hn
    have hx' : cs[0]? = some x := hx
    obtain ⟨_, k1, k2⟩ := hf 0 x hx'
    refine ⟨ad, f 0, hv, ?_, k2⟩
    have k3 : w.cell? ad = some (f 0) := by simpa [Addr.add] using k1
    simp [loadVar, h1, k3, Result.andThen]
  | true =>
    obtain rfl : V.agg cs = x := by simpa using hx
    have hlc : (loadCells ad n).run P w = .ok ((List.range n).map f).toArray w := run_loadCells w ad n f fun j hj => by
      obtain ⟨_, k1, _⟩ := hf j _ (List.getElem?_eq_getElem (by omega))
      exact k1
    refine ⟨ad, .agg ((List.range n).map f).toArray, hv, ?_, .agg cs _ (by simp [hl]) (fun c hc => ?_) (fun i c hi => ?_)⟩
    · simp [loadVar, h1, h2, hlc, Result.andThen]
    · obtain ⟨j, hj⟩ := List.mem_iff_getElem?.1 hc
      exact (hf j c hj).1
    · have hin : i < n := by rw [← hl]; exact (List.getElem?_eq_some_iff.1 hi).1
      have := (hf i c hi).2.2
      simpa [Array.getD, hin] using this

theorem res_run (hL : LayOk P L) {T : Nat → Prop} {φ : List Value} {w : World} {a : Act} (hs : Sim T bs φ w) (ht : Tm (okOf T bs φ) w φ ts a) (f : ResultVar → Sem Value) (hf : ∀ u, f (.tmp u) = pure (a.tmps.getD u Go.undef)) (hc : ∀ p t, f (.cell p t) = (do loadVar t (← asAddr (a.tmps.getD p Go.undef)))) :
    ∀ (rs : List ResultVar) (l : List V), resV L ts bs rs = some l → ∃ vs, (rs.mapM f).run P w = .ok vs w ∧ RVs (okOf T bs φ) w φ l vs.toArray
  | [], l, h => by
    obtain rfl := Option.some.inj h
    exact ⟨[], by simp, rfl, fun i c hc => by simp at hc⟩
  | r :: rs, l, h => by
    unfold resV at h
    split at h
    · rename_i x l' h1 h2
      obtain rfl := Option.some.inj h
      obtain ⟨vs, k1, k2, k3⟩ := res_run hL hs ht f hf hc rs l' h2
      have hone : ∃ u, (f r).run P w = .ok u w ∧ RV (okOf T bs φ) w φ x u := by
        cases r with
        | tmp t => exact ⟨_, by rw [hf]; rfl, ht.2.2 t x h1⟩
        | cell p t =>
          simp only [res1] at h1
          cases hp : ts[p]? with
          | none => rw [hp] at h1; cases h1
          | some y =>
            rw [hp] at h1
            cases hcl : L.cel t with
            | none => rw [hcl] at h1; cases h1
            | some nb =>
              obtain ⟨n, b⟩ := nb
              rw [hcl] at h1
              change (match rd bs y n with | some cs => if b = true then some (V.agg cs) else cs[0]? | none => none) = some x at h1
              cases hrd : rd bs y n with
              | none => rw [hrd] at h1; cases h1
              | some cs =>
                rw [hrd] at h1
                obtain ⟨ad, u, hv, hl, hr⟩ := run_loadVar hL hs (ht.2.2 p y hp) hcl hrd h1
                exact ⟨u, by rw [hc, hv]; simp [asAddr, hl], hr⟩
      obtain ⟨u, q1, q2⟩ := hone
      refine ⟨u :: vs, by rw [List.mapM_cons]; simp [q1, k1, Result.andThen], by simpa using k2, fun i c hi => ?_⟩
      cases i with
      | zero =>
        obtain rfl : x = c := by simpa using hi
        simpa [Array.getD] using q2
      | succ i =>
        have := k3 i c (by simpa using hi)
        simpa [Array.getD_eq_getD_getElem?] using this
    · cases h

theorem FnOk.of {f : FuncId} {fn : Func} {c : Code} {args : List V} {R : V → List Bx → Prop} (hL : LayOk P L) (hf : P.funcs[f]? = some fn) (hb : fn.body = some c)
    (h : Ok P bs.length c (fun e ts' bs' => (∀ id, e ≠ .exit id) ∧ ∃ l, resV L ts' bs' fn.results.toList = some l ∧ R (resOf l) bs') (args ++ List.replicate (fn.ntmps - args.length) (.tup [])) bs) : FnOk P f args bs R := by
  intro T φ w vargs hs ha
  refine calls_of_wp hf hb (h T φ w _ hs ⟨by simp [ha.1], rfl, fun i c hc => ?_⟩ _ ?_)
  · rcases Nat.lt_or_ge i args.length with hi | hi
    · rw [List.getElem?_append_left hi] at hc
      have := ha.2 i c hc
      have hi2 : i < vargs.size := by rw [← ha.1]; exact hi
      simpa [Array.getD_eq_getD_getElem?, Array.getElem?_append_left hi2] using this
    · rw [List.getElem?_append_right hi] at hc
      obtain ⟨hi2, rfl⟩ := List.getElem?_eq_some_iff.1 hc
      rw [List.getElem_replicate]
      have hv : (vargs ++ Array.replicate (fn.ntmps - vargs.size) Go.undef).getD i Go.undef = Go.undef := by
        rw [Array.getD_eq_getD_getElem?, Array.getElem?_append_right (by rw [← ha.1]; exact hi)]
        simp only [Array.getElem?_replicate]
        split <;> rfl
      rw [hv]
      exact rv_skip
  · rintro e ts' bs' φ' a' w' ⟨he, l, hl, hR⟩ hxm hs' ht'
    have hx := hxm.full (by rw [hs.len]; exact Nat.le_refl _)
    have key : ∃ v, (results fn a'.tmps).run P w' = .ok v w' ∧ RV (okOf T bs' φ') w' φ' (resOf l) v := by
      obtain ⟨vs, k1, k2, k3⟩ := res_run (P := P) hL hs' ht' (fun | .tmp t => pure (a'.tmps.getD t Go.undef) | .cell p t => do loadVar t (← asAddr (a'.tmps.getD p Go.undef))) (fun _ => rfl) (fun _ _ => rfl) _ l hl
      have hrun : (results fn a'.tmps).run P w' = .ok (if h : vs.toArray.size = 1 then vs.toArray[0] else .tuple vs.toArray) w' := by
        unfold results
        rw [← Array.toArray_toList (xs := fn.results), List.mapM_toArray]
        simp only [Sem.run_bind, Sem.run_map]
        exact (congrArg (fun r : Result (List Value) => (r.andThen fun a w' => Result.ok a.toArray w').andThen fun a w' => Sem.run P (pure (if h : a.size = 1 then a[0] else Value.tuple a)) w') k1).trans rfl
      refine ⟨_, hrun, ?_⟩
      match l, vs, k2, k3 with
      | [x], [u], _, k3 =>
        have := k3 0 x rfl
        simpa [resOf, Array.getD] using this
      | [], [], _, _ => exact .tup [] _ rfl (fun i c hi => by simp at hi)
      | x :: y :: l, [], k2, _ => simp at k2
      | x :: y :: l, [u], k2, _ => simp at k2
      | x :: y :: l, u :: u2 :: vs, k2, k3 =>
        simp only [resOf]
        rw [dif_neg (by simp)]
        exact .tup _ _ k2 k3
    obtain ⟨v, h1, h2⟩ := key
    have hd := ht'.2.1
    cases e with
    | normal => exact ⟨hd, v, h1, v, _, bs', φ', rfl, hR, hx, hs', h2⟩
    | ret => exact ⟨hd, v, h1, v, _, bs', φ', rfl, hR, hx, hs', h2⟩
    | exit id => exact absurd rfl (he id)
end

end Go.Proofs.YtiefcnghjcafbaaDoorV

/- The calculus of values, tenth text: a function that was shown among no boxes serves among whatever boxes. -/
namespace Go.Proofs.YtiefcnghjcafbaaDoorV
open Go Go.RowKit

/-- No box is named. -/
def cleanA : V → Bool
  | .val _ | .nils | .sl _ | .eptr _ => true
  | _ => false
def clean1 : V → Bool
  | .agg cs => cs.all cleanA
  | v => cleanA v
def clean : V → Bool
  | .tup vs => vs.all clean1
  | v => clean1 v

theorem cleanA_move {ok : Nat → Prop} {w : World} {φ φ' : List Value} {x : V} {v : Value} (hc : cleanA x = true) (h : RV ok w φ x v) : RV ok w φ' x v := by
  cases h <;> simp_all [cleanA]
  · exact .val _ ‹_›
  · exact .nils
  · exact .sl _ _ ‹_›
  · exact .eptr _ _ ‹_› ‹_› _ ‹_› ‹_›
theorem clean1_move {ok : Nat → Prop} {w : World} {φ φ' : List Value} {x : V} {v : Value} (hc : clean1 x = true) (h : RV ok w φ x v) : RV ok w φ' x v := by
  cases x with
  | agg cs =>
    cases h with
    | agg cs arr hl ha hr => exact .agg cs arr hl ha fun i c hi => cleanA_move (List.all_eq_true.1 hc c (List.mem_of_getElem? hi)) (hr i c hi)
  | _ => exact cleanA_move hc h
theorem clean_move {ok : Nat → Prop} {w : World} {φ φ' : List Value} {x : V} {v : Value} (hc : clean x = true) (h : RV ok w φ x v) : RV ok w φ' x v := by
  cases x with
  | tup vs =>
    cases h with
    | tup vs arr hl hr => exact .tup vs arr hl fun i c hi => clean1_move (List.all_eq_true.1 hc c (List.mem_of_getElem? hi)) (hr i c hi)
  | _ => exact clean1_move hc h

theorem RV.okm {ok ok' : Nat → Prop} {w : World} {φ : List Value} (hk : ∀ g, ok g → g < w.heap.size → ok' g) {x : V} {v : Value} (h : RV ok w φ x v) : RV ok' w φ x v :=
  h.move (Nat.le_refl _) (fun g h1 h2 => ⟨hk g h1 h2, rfl⟩) (fun _ _ h => h)
theorem RS.okm {ok ok' : Nat → Prop} {w : World} (hk : ∀ g, ok g → g < w.heap.size → ok' g) {x : S} {v : Value} (h : RS ok w x v) : RS ok' w x v :=
  h.move (Nat.le_refl _) (fun g h1 h2 => ⟨hk g h1 h2, rfl⟩)

theorem mine_nil {φ : List Value} {g : Nat} : ¬ mine [] φ g := fun ⟨k, b, v, h, _⟩ => by simp at h

theorem Sim.none {T : Nat → Prop} {bs : List Bx} {φ : List Value} {w : World} (hs : Sim T bs φ w) : Sim (fun g => T g ∨ mine bs φ g) [] [] w where
  inj := fun k k' b b' v v' g h => by simp at h
  off := fun g h => absurd h mine_nil
  tb := fun g h => h.elim (hs.tb g) (mine_lt hs)
  len := rfl
  box := fun k b h => by simp at h

/-- What a box of rows holds, made fast. -/
def frA (bs : List Bx) : V → V
  | .row k => match bs[k]? with
    | some (.row _ _ xs) => .sl xs
    | _ => .row k
  | .nils => .sl []
  | .win k sz o n c => match bs[k]? with
    | some (.cells cs) => match downs ((cs.drop (o * sz)).take (n * sz)) with
      | some l => if l.length = n * sz ∧ 0 < sz then .sl (chunk sz n l) else .win k sz o n c
      | none => .win k sz o n c
    | _ => .win k sz o n c
  | v => v
def fr1 (bs : List Bx) : V → V
  | .agg cs => .agg (cs.map (frA bs))
  | v => frA bs v
def fr (bs : List Bx) : V → V
  | .tup vs => .tup (vs.map (fr1 bs))
  | v => fr1 bs v

theorem row_fast {T : Nat → Prop} {bs : List Bx} {φ : List Value} {w : World} (hs : Sim T bs φ w) {ok : Nat → Prop} (hok : ∀ g, g < w.heap.size → okOf T bs φ g ∨ mine bs φ g → ok g) {k : Nat} {xs : List (List S)} {v : Value} (hv : φ[k]? = some v)
    (hb : ∃ e sz, bs[k]? = some (.row e sz xs)) : RS ok w (.sl xs) v := by
  obtain ⟨e, sz, hb⟩ := hb
  · obtain ⟨v', hv', hlen, vals, how, hc⟩ := hs.box k _ hb
    obtain rfl : v' = v := Option.some.inj (hv'.symm.trans hv)
    rcases how.2 with ⟨rfl, h0⟩ | ⟨g, cap, cur, rfl, hg0, hh, hn, hm, hcs, ht⟩
    · obtain rfl : xs = [] := List.eq_nil_of_length_eq_zero h0
      exact .nil none 0 (Nat.zero_le _)
    · by_cases hx : xs = []
      · subst hx
        exact .nil _ cap hm
      · have hlt : g < w.heap.size := (Array.getElem?_eq_some_iff.1 hh).1
        refine .cons xs ⟨g, 0, none⟩ cap sz (fun i j => vals.getD (i * sz + j) Go.undef) hx hlen hn hm (hok g hlt (.inr ⟨k, _, _, hb, rfl, hv, rfl⟩)) hlt (fun i x j y hi hj => ?_) (fun i x j y hi hj => (hc i x j y hi hj).okm fun g h1 h2 => hok g h2 (.inl h1))
        have h1 := hlen x (List.mem_of_getElem? hi)
        have h2 : i < xs.length := (List.getElem?_eq_some_iff.1 hi).1
        have h3 : j < sz := by rw [← h1]; exact (List.getElem?_eq_some_iff.1 hj).1
        have h4 := Nat.mul_le_mul_right sz h2
        rw [Nat.succ_mul] at h4
        rw [add_plain, Nat.zero_add]
        exact own_cell how rfl (by omega)

theorem frA_row (bs : List Bx) (k : Nat) : (∃ xs, frA bs (.row k) = .sl xs) ∨ frA bs (.row k) = .row k := by
  simp only [frA]
  split
  · exact .inl ⟨_, rfl⟩
  · exact .inr rfl

theorem frA_win (bs : List Bx) (k sz o n c : Nat) : (∃ xs, frA bs (.win k sz o n c) = .sl xs) ∨ frA bs (.win k sz o n c) = .win k sz o n c := by
  simp only [frA]
  repeat' split
  all_goals first
    | exact .inl ⟨_, rfl⟩
    | exact .inr rfl

theorem win_fast {T : Nat → Prop} {bs : List Bx} {φ : List Value} {w : World} (hs : Sim T bs φ w) {ok : Nat → Prop} (hok : ∀ g, g < w.heap.size → okOf T bs φ g ∨ mine bs φ g → ok g) {k sz o n c g : Nat} {cs : List V} {l : List S} (hv : φ[k]? = some (.pointer (some ⟨g, 0, none⟩)))
    (hb : bs[k]? = some (.cells cs)) (hd : downs ((cs.drop (o * sz)).take (n * sz)) = some l) (hl : l.length = n * sz) (hn : n ≤ c) (hm : c ≤ maxLen) : RS ok w (.sl (chunk sz n l)) (.slice (some ⟨g, o * sz, none⟩) n c) := by
  obtain ⟨v', hv', g', arr, t, rfl, hh, hsz, hc⟩ := hs.box k _ hb
  obtain rfl : g = g' := by
    have := hv.symm.trans hv'
    simpa using this
  have hlt : g < w.heap.size := (Array.getElem?_eq_some_iff.1 hh).1
  by_cases h0 : n = 0
  · subst h0
    exact .nil _ c hm
  · have h1 := RS.cons (ok := ok) (w := w) (chunk sz n l) ⟨g, o * sz, none⟩ c sz (fun i j => arr.getD (o * sz + (i * sz + j)) Go.undef) (fun e => h0 (by have := congrArg List.length e; rwa [chunk_length] at this)) (fun x hx => ?_) (by rw [chunk_length]; exact hn) hm (hok g hlt (.inr ⟨k, _, _, hb, rfl, hv, rfl⟩)) hlt (fun i x j y hi hj => ?_) (fun i x j y hi hj => ?_)
    · rwa [chunk_length] at h1
    · obtain ⟨i, hi⟩ := List.mem_iff_getElem?.1 hx
      exact (chunk_get hl hi).2.1
    · obtain ⟨h2, h3, h4⟩ := chunk_get hl hi
      obtain ⟨k1, k2⟩ := downs_get hd
      obtain ⟨x0, hx0, _⟩ := k2 _ y (h4 j y hj)
      have hlt2 : o * sz + (i * sz + j) < cs.length := by
        have := (List.getElem?_eq_some_iff.1 hx0).1
        simp at this
        omega
      rw [add_plain, cell_of hh]
      simp [Array.getD, show o * sz + (i * sz + j) < arr.size by omega]
    · obtain ⟨h2, h3, h4⟩ := chunk_get hl hi
      obtain ⟨k1, k2⟩ := downs_get hd
      obtain ⟨x0, hx0, hdn⟩ := k2 _ y (h4 j y hj)
      have hq : i * sz + j < n * sz := by
        have := (List.getElem?_eq_some_iff.1 (h4 j y hj)).1
        omega
      rw [List.getElem?_take_of_lt hq, List.getElem?_drop] at hx0
      exact ((hc _ x0 hx0).2.down hdn).okm fun g h1 h2 => hok g h2 (.inl h1)

theorem frA_move {T : Nat → Prop} {bs : List Bx} {φ φ' : List Value} {w : World} (hs : Sim T bs φ w) {ok : Nat → Prop} (hok : ∀ g, g < w.heap.size → okOf T bs φ g ∨ mine bs φ g → ok g) {x : V} {v : Value} (hc : cleanA (frA bs x) = true) (h : RV (okOf T bs φ) w φ x v) : RV ok w φ' (frA bs x) v := by
  cases h with
  | row k A n c hk =>
    simp only [frA] at hc ⊢
    cases hb : bs[k]? with
    | none => rw [hb] at hc; cases hc
    | some b =>
      rw [hb] at hc
      cases b with
      | dead => cases hc
      | cells l => cases hc
      | row e sz xs => exact .sl _ _ (row_fast hs hok hk ⟨e, sz, hb⟩)
      | iter s p => cases hc
  | val v h => exact .val v h
  | nils => exact .sl _ _ (.nil none 0 (Nat.zero_le _))
  | sl xs v h => exact .sl _ _ (h.okm fun g h1 h2 => hok g h2 (.inl h1))
  | eptr cs a h1 h2 f h3 h4 => exact .eptr cs a (hok _ h2 (.inl h1)) h2 f h3 (fun j y hj => (h4 j y hj).okm fun g h1 h2 => hok g h2 (.inl h1))
  | ptr => cases hc
  | rptr => cases hc
  | win k sz o n c g hk hn hm =>
    have hc2 := hc
    simp only [frA] at hc2
    split at hc2 <;> try (cases hc2; done)
    rename_i cs hb
    split at hc2 <;> try (cases hc2; done)
    rename_i l hd
    split at hc2 <;> try (cases hc2; done)
    rename_i hl
    have e : frA bs (.win k sz o n c) = .sl (chunk sz n l) := by simp only [frA, hb, hd, if_pos hl]
    rw [e]
    exact .sl _ _ (win_fast hs hok hk hb hd hl.1 hn hm)
  | fn => cases hc
  | agg => cases hc
  | tup => cases hc
  | gone => cases hc
theorem fr1_move {T : Nat → Prop} {bs : List Bx} {φ φ' : List Value} {w : World} (hs : Sim T bs φ w) {ok : Nat → Prop} (hok : ∀ g, g < w.heap.size → okOf T bs φ g ∨ mine bs φ g → ok g) {x : V} {v : Value} (hc : clean1 (fr1 bs x) = true) (h : RV (okOf T bs φ) w φ x v) : RV ok w φ' (fr1 bs x) v := by
  cases x with
  | agg cs =>
    cases h with
    | agg cs arr hl ha hr =>
      refine .agg _ arr (by simp [hl]) (fun c hm => ?_) fun i c hi => ?_
      · have := List.all_eq_true.1 hc c hm
        cases c <;> simp_all [cleanA, V.atomic]
      · simp only [List.getElem?_map] at hi
        obtain ⟨c0, h0, rfl⟩ := Option.map_eq_some_iff.1 hi
        exact frA_move hs hok (List.all_eq_true.1 hc _ (List.mem_map_of_mem (List.mem_of_getElem? h0))) (hr i c0 h0)
  | val u => exact frA_move (x := .val u) hs hok rfl h
  | nils => exact frA_move (x := .nils) hs hok rfl h
  | sl xs => exact frA_move (x := .sl xs) hs hok rfl h
  | eptr cs => exact frA_move (x := .eptr cs) hs hok rfl h
  | row k =>
    rcases frA_row bs k with ⟨xs, e⟩ | e
    · exact frA_move (x := .row k) hs hok (by rw [e]; rfl) h
    · have hc' : clean1 (frA bs (.row k)) = true := hc
      rw [e] at hc'
      cases hc'
  | ptr => cases hc
  | rptr => cases hc
  | win k sz o n c =>
    rcases frA_win bs k sz o n c with ⟨xs, e⟩ | e
    · exact frA_move (x := .win k sz o n c) hs hok (by rw [e]; rfl) h
    · have hc' : clean1 (frA bs (.win k sz o n c)) = true := hc
      rw [e] at hc'
      cases hc'
  | fn => cases hc
  | tup => cases hc
  | gone => cases hc
theorem fr_move {T : Nat → Prop} {bs : List Bx} {φ φ' : List Value} {w : World} (hs : Sim T bs φ w) {ok : Nat → Prop} (hok : ∀ g, g < w.heap.size → okOf T bs φ g ∨ mine bs φ g → ok g) {x : V} {v : Value} (hc : clean (fr bs x) = true) (h : RV (okOf T bs φ) w φ x v) : RV ok w φ' (fr bs x) v := by
  cases x with
  | tup vs =>
    cases h with
    | tup vs arr hl hr =>
      refine .tup _ arr (by simp [hl]) fun i c hi => ?_
      simp only [List.getElem?_map] at hi
      obtain ⟨c0, h0, rfl⟩ := Option.map_eq_some_iff.1 hi
      exact fr1_move hs hok (List.all_eq_true.1 hc _ (List.mem_map_of_mem (List.mem_of_getElem? h0))) (hr i c0 h0)
  | val u => exact fr1_move (x := .val u) hs hok rfl h
  | nils => exact fr1_move (x := .nils) hs hok rfl h
  | sl xs => exact fr1_move (x := .sl xs) hs hok rfl h
  | eptr cs => exact fr1_move (x := .eptr cs) hs hok rfl h
  | row k =>
    rcases frA_row bs k with ⟨xs, e⟩ | e
    · exact fr1_move (x := .row k) hs hok (by show clean1 (frA bs (.row k)) = true; rw [e]; rfl) h
    · have hc' : clean (frA bs (.row k)) = true := hc
      rw [e] at hc'
      cases hc'
  | agg cs => exact fr1_move (x := .agg cs) hs hok hc h
  | ptr => cases hc
  | rptr => cases hc
  | win k sz o n c =>
    rcases frA_win bs k sz o n c with ⟨xs, e⟩ | e
    · exact fr1_move (x := .win k sz o n c) hs hok (by show clean1 (frA bs (.win k sz o n c)) = true; rw [e]; rfl) h
    · have hc' : clean (frA bs (.win k sz o n c)) = true := hc
      rw [e] at hc'
      cases hc'
  | fn => cases hc
  | gone => cases hc

theorem Sim.stay {T : Nat → Prop} {bs bs' : List Bx} {φ φ' : List Value} {w w' : World} (hs : Sim T bs φ w) (he : Ext [] [] w bs' φ' w') : Ext bs φ w bs φ w' ∧ Sim T bs φ w' := by
  have hx : Ext bs φ w bs φ w' := ⟨he.os, he.tape, he.output, he.size, fun _ _ h => h, fun g hg _ => he.keep g hg mine_nil, fun g hg => .inl hg⟩
  exact ⟨hx, hs.step hx hs.inj hs.len fun k b hb => .inl ⟨hb, fun hl v g hv hg => he.keep g (mine_lt hs ⟨k, b, v, hb, hl, hv, hg⟩) mine_nil⟩⟩

section
variable {P : Program} {f : FuncId} {args : List V}

theorem args_none {T : Nat → Prop} {bs : List Bx} {φ : List Value} {w : World} {vargs : Array Value} (ha : args.all clean = true) (hv : RVs (okOf T bs φ) w φ args vargs) : RVs (okOf (fun g => T g ∨ mine bs φ g) [] []) w [] args vargs :=
  ⟨hv.1, fun i c hi => clean_move (List.all_eq_true.1 ha c (List.mem_of_getElem? hi)) ((hv.2 i c hi).okm fun g h1 _ => ⟨fun h => h.elim h1.1 h1.2, mine_nil⟩)⟩

/-- Among whatever boxes: arguments that name none, the result made fast. -/
theorem FnOk.among {R : V → Prop} (h : FnOk P f args [] fun r bs' => R (fr bs' r)) (ha : args.all clean = true) (hR : ∀ r, R r → clean r = true) (bs : List Bx) :
    FnOk P f args bs fun r bs' => R r ∧ bs' = bs := by
  intro T φ w vargs hs hv
  refine (h _ [] w vargs hs.none (args_none ha hv)).mono ?_
  rintro e w' ⟨v, r, bs', φ', rfl, q, he, hs', hr⟩
  obtain ⟨hx, hsim⟩ := hs.stay he
  refine ⟨v, fr bs' r, bs, φ, rfl, ⟨q, rfl⟩, hx, hsim, fr_move hs' (fun g hg ho => ?_) (hR _ q) hr⟩
  have hn : ¬ (T g ∨ mine bs φ g) := by
    rcases ho with h | h
    · exact h.1
    · exact hs'.off g h
  exact ⟨fun ht => hn (.inl ht), fun hm => hn (.inr hm)⟩

def plainA : V → Bool
  | .val _ | .nils => true
  | _ => false
def plain : V → Bool
  | .tup vs => vs.all plainA
  | .agg cs => cs.all plainA
  | v => plainA v

theorem plainA_move {ok ok' : Nat → Prop} {w w' : World} {φ φ' : List Value} {x : V} {v : Value} (hc : plainA x = true) (h : RV ok w φ x v) : RV ok' w' φ' x v := by
  cases h <;> simp_all [plainA]
  · exact .val _ ‹_›
  · exact .nils
theorem plain_move {ok ok' : Nat → Prop} {w w' : World} {φ φ' : List Value} {x : V} {v : Value} (hc : plain x = true) (h : RV ok w φ x v) : RV ok' w' φ' x v := by
  cases x with
  | tup vs =>
    cases h with
    | tup vs arr hl hr => exact .tup vs arr hl fun i c hi => plainA_move (List.all_eq_true.1 hc c (List.mem_of_getElem? hi)) (hr i c hi)
  | agg cs =>
    cases h with
    | agg cs arr hl ha hr => exact .agg cs arr hl ha fun i c hi => plainA_move (List.all_eq_true.1 hc c (List.mem_of_getElem? hi)) (hr i c hi)
  | _ => exact plainA_move hc h

/-- The arguments may be slices of the caller's own, if the result leads to no memory. -/
theorem FnOk.peek {R : V → Prop} {bs : List Bx} (h : FnOk P f (args.map (fr bs)) [] fun r _ => R r) (ha : (args.map (fr bs)).all clean = true) (hR : ∀ r, R r → plain r = true) :
    FnOk P f args bs fun r bs' => R r ∧ bs' = bs := by
  intro T φ w vargs hs hv
  have hs0 : Sim T [] [] w := ⟨fun k k' b b' v v' g h => by simp at h, fun g h => absurd h mine_nil, hs.tb, rfl, fun k b h => by simp at h⟩
  have hargs : RVs (okOf T [] []) w [] (args.map (fr bs)) vargs := by
    refine ⟨by simpa using hv.1, fun i c hi => ?_⟩
    have hc := List.all_eq_true.1 ha c (List.mem_of_getElem? hi)
    simp only [List.getElem?_map] at hi
    obtain ⟨c0, h0, rfl⟩ := Option.map_eq_some_iff.1 hi
    refine fr_move hs (fun g hg ho => ⟨?_, mine_nil⟩) hc (hv.2 i c0 h0)
    rcases ho with h | h
    · exact h.1
    · exact hs.off g h
  refine (h T [] w vargs hs0 hargs).mono ?_
  rintro e w' ⟨v, r, bs', φ', rfl, q, he, hs', hr⟩
  obtain ⟨hx, hsim⟩ := hs.stay he
  exact ⟨v, r, bs, φ, rfl, ⟨q, rfl⟩, hx, hsim, plain_move (hR r q) hr⟩

/-- A new slice, handed over as the caller's own. -/
theorem take_own {T : Nat → Prop} {bs bs' : List Bx} {φ φ' : List Value} {w w' : World} (hs : Sim T bs φ w) (he : Ext [] [] w bs' φ' w') (hs' : Sim (fun g => T g ∨ mine bs φ g) bs' φ' w') {k e sz : Nat} {xs : List (List S)} (hb : bs'[k]? = some (.row e sz xs)) {v : Value} (hv : φ'[k]? = some v) :
    Ext bs φ w (bs ++ [.row e sz xs]) (φ ++ [v]) w' ∧ Sim T (bs ++ [.row e sz xs]) (φ ++ [v]) w' := by
  have hw : Below w.heap.size w w' := ⟨he.os, he.tape, he.output, he.size, fun g hg => he.keep g hg mine_nil⟩
  have hn : ∀ g, blkOf v = some g → w.heap.size ≤ g := fun g hg => by
    rcases he.fresh g ⟨k, _, v, hb, rfl, hv, hg⟩ with h | h
    · exact absurd h mine_nil
    · exact h
  refine ⟨ext_push hs hw hn, hs.push hw hn fun hx => ?_⟩
  obtain ⟨v', hv', hl, vals, how, hc⟩ := hs'.box k _ hb
  obtain rfl : v' = v := Option.some.inj (hv'.symm.trans hv)
  refine ⟨hl, vals, how, fun i x j y hi hj => (hc i x j y hi hj).okm fun g h1 hlt => ⟨fun ht => h1.1 (.inl ht), fun hm => ?_⟩⟩
  obtain ⟨q, b, u, hq, hlv, hu, hg⟩ := hm
  rcases Nat.lt_or_ge q bs.length with h | h
  · rw [List.getElem?_append_left h] at hq
    rw [List.getElem?_append_left (by rw [hs.len]; exact h)] at hu
    exact h1.1 (.inr ⟨q, b, u, hq, hlv, hu, hg⟩)
  · have hqe : q = bs.length := by
      have := (List.getElem?_eq_some_iff.1 hq).1
      simp at this
      omega
    subst hqe
    rw [List.getElem?_append_right (by rw [hs.len]; exact Nat.le_refl _), hs.len, Nat.sub_self] at hu
    obtain rfl : v' = u := by simpa using hu
    exact h1.2 ⟨k, _, v', hb, rfl, hv, hg⟩

/-- A new array, handed over as the caller's own: what its cells hold leads to no box. -/
theorem take_cells {T : Nat → Prop} {bs bs' : List Bx} {φ φ' : List Value} {w w' : World} (hs : Sim T bs φ w) (he : Ext [] [] w bs' φ' w') (hs' : Sim (fun g => T g ∨ mine bs φ g) bs' φ' w') {k : Nat} {l : List S} (hb : bs'[k]? = some (.cells (l.map S.up))) {v : Value} (hv : φ'[k]? = some v) :
    Ext bs φ w (bs ++ [.cells (l.map S.up)]) (φ ++ [v]) w' ∧ Sim T (bs ++ [.cells (l.map S.up)]) (φ ++ [v]) w' := by
  have hw : Below w.heap.size w w' := ⟨he.os, he.tape, he.output, he.size, fun g hg => he.keep g hg mine_nil⟩
  have hn : ∀ g, blkOf v = some g → w.heap.size ≤ g := fun g hg => by
    rcases he.fresh g ⟨k, _, v, hb, rfl, hv, hg⟩ with h | h
    · exact absurd h mine_nil
    · exact h
  refine ⟨ext_push hs hw hn, hs.push hw hn fun hx => ?_⟩
  obtain ⟨v', hv', g0, arr, t, hvv, hh, hsz, hc⟩ := hs'.box k _ hb
  obtain rfl : v' = v := Option.some.inj (hv'.symm.trans hv)
  refine ⟨g0, arr, t, hvv, hh, hsz, fun j c hj => ?_⟩
  obtain ⟨h1, h2⟩ := hc j c hj
  refine ⟨h1, ?_⟩
  rw [List.getElem?_map] at hj
  obtain ⟨s, _, rfl⟩ := Option.map_eq_some_iff.1 hj
  have hd : s.up.down = some s := by cases s <;> rfl
  refine ((h2.down hd).okm fun g h1 hlt => ⟨fun ht => h1.1 (.inl ht), fun hm => ?_⟩).up
  obtain ⟨q, b, u, hq, hlv, hu, hg⟩ := hm
  rcases Nat.lt_or_ge q bs.length with h | h
  · rw [List.getElem?_append_left h] at hq
    rw [List.getElem?_append_left (by rw [hs.len]; exact h)] at hu
    exact h1.1 (.inr ⟨q, b, u, hq, hlv, hu, hg⟩)
  · have hqe : q = bs.length := by
      have := (List.getElem?_eq_some_iff.1 hq).1
      simp at this
      omega
    subst hqe
    rw [List.getElem?_append_right (by rw [hs.len]; exact Nat.le_refl _), hs.len, Nat.sub_self] at hu
    obtain rfl : v' = u := by simpa using hu
    exact h1.2 ⟨k, _, v', hb, rfl, hv, hg⟩

theorem row_val {ok : Nat → Prop} {w : World} {φ : List Value} {k : Nat} {v : Value} (h : RV ok w φ (.row k) v) : φ[k]? = some v := by
  cases h
  assumption

theorem row_new {ok ok' : Nat → Prop} {w w' : World} {φ φ' : List Value} {bs : List Bx} (hl : φ.length = bs.length) {k : Nat} {v : Value} (h : RV ok w φ' (.row k) v) : RV ok' w' (φ ++ [v]) (.row bs.length) v := by
  cases h with
  | row k A n c hk => exact .row _ A n c (by rw [← hl]; simp)

theorem FnOk.own {R : TypeId → Nat → List (List S) → Prop} (h : FnOk P f args [] fun r bs' => ∃ k e sz xs, r = .row k ∧ bs'[k]? = some (.row e sz xs) ∧ R e sz xs) (ha : args.all clean = true) (bs : List Bx) :
    FnOk P f args bs fun r bs' => ∃ e sz xs, r = .row bs.length ∧ bs' = bs ++ [.row e sz xs] ∧ R e sz xs := by
  intro T φ w vargs hs hv
  refine (h _ [] w vargs hs.none (args_none ha hv)).mono ?_
  rintro e w' ⟨v, r, bs', φ', rfl, ⟨k, e, sz, xs, rfl, hb, q⟩, he, hs', hr⟩
  obtain ⟨h1, h2⟩ := take_own hs he hs' hb (row_val hr)
  exact ⟨v, .row bs.length, _, _, rfl, ⟨e, sz, xs, rfl, rfl, q⟩, h1, h2, row_new hs.len hr⟩

theorem FnOk.ownW {k sz q n c : Nat} {l : List S} (h : FnOk P f args [] fun r bs' => r = .win k sz q n c ∧ bs'[k]? = some (.cells (l.map S.up))) (ha : args.all clean = true) (bs : List Bx) :
    FnOk P f args bs fun r bs' => r = .win bs.length sz q n c ∧ bs' = bs ++ [.cells (l.map S.up)] := by
  intro T φ w vargs hs hv
  refine (h _ [] w vargs hs.none (args_none ha hv)).mono ?_
  rintro e w' ⟨v, r, bs', φ', rfl, ⟨rfl, hb⟩, he, hs', hr⟩
  cases hr with
  | win _ _ _ _ _ g hk hn hm =>
    obtain ⟨h1, h2⟩ := take_cells hs he hs' hb hk
    exact ⟨_, .win bs.length sz q n c, _, _, rfl, ⟨rfl, rfl⟩, h1, h2, .win _ sz q n c g (by rw [← hs.len]; simp) hn hm⟩

theorem FnOk.own2 {R : TypeId → Nat → List (List S) → V → Prop} (h : FnOk P f args [] fun r bs' => ∃ k e sz xs x, r = .tup [.row k, x] ∧ bs'[k]? = some (.row e sz xs) ∧ R e sz xs x) (ha : args.all clean = true) (hR : ∀ e sz xs x, R e sz xs x → plain x = true) (bs : List Bx) :
    FnOk P f args bs fun r bs' => ∃ e sz xs x, r = .tup [.row bs.length, x] ∧ bs' = bs ++ [.row e sz xs] ∧ R e sz xs x := by
  intro T φ w vargs hs hv
  refine (h _ [] w vargs hs.none (args_none ha hv)).mono ?_
  rintro e w' ⟨v, r, bs', φ', rfl, ⟨k, e, sz, xs, x, rfl, hb, q⟩, he, hs', hr⟩
  cases hr with
  | tup vs arr hl hr =>
    have h0 := hr 0 _ rfl
    have h1 := hr 1 _ rfl
    obtain ⟨k1, k2⟩ := take_own hs he hs' hb (row_val h0)
    refine ⟨_, .tup [.row bs.length, x], _, _, rfl, ⟨e, sz, xs, x, rfl, rfl, q⟩, k1, k2, .tup _ arr (by simpa using hl) fun i c hi => ?_⟩
    match i, hi with
    | 0, hi =>
      obtain rfl : V.row bs.length = c := by simpa using hi
      exact row_new hs.len h0
    | 1, hi =>
      obtain rfl : x = c := by simpa using hi
      exact plain_move (hR _ _ _ _ q) h1
    | i + 2, hi => simp at hi
end

end Go.Proofs.YtiefcnghjcafbaaDoorV

/- The calculus of values, eleventh text: regions whose order is open: what is held against each operation. -/
namespace Go.Proofs.YtiefcnghjcafbaaDoorV
open Go Go.RowKit

/-- The temporaries that an operation reads. -/
def tmpsOf (l : List Operand) : List Tmp := l.filterMap fun | .tmp t => some t | _ => none

/-- Every edge that binds goes to an earlier operation; what an operation reads out of the region it waits for, or the writer waits for it; its guard it waits for; no two write one temporary. -/
def chk (ops : Array Oper) : Bool :=
  (List.range ops.size).all fun i => match ops[i]? with
    | none => false
    | some o =>
      (o.after.toList.all fun e => !Region.binds .any e || decide (e.on < i)) &&
      ((List.range ops.size).all fun j => match ops[j]? with
        | none => false
        | some p => match p.dst with
          | none => true
          | some t => (j == i || p.dst != o.dst) &&
            ((!(tmpsOf o.op.operands.toList).contains t || o.after.toList.any fun e => Region.binds .any e && e.on == j) || p.after.toList.any fun e => Region.binds .any e && e.on == i)) &&
      (match o.guard with
        | none => true
        | some (j, _) => o.after.toList.any fun e => Region.binds .any e && e.on == j)

/-- The temporaries when some are listed. -/
def Mid (ops : Array Oper) (fin ts0 ts : List V) (listed : Array Bool) : Prop :=
  ts.length = fin.length ∧ (∀ (j : Nat) o t, ops[j]? = some o → o.dst = some t → listed.getD j true = true → ts[t]? = fin[t]?) ∧
  ∀ t, (∀ (j : Nat) o, ops[j]? = some o → o.dst = some t → listed.getD j true = false) → ts[t]? = ts0[t]?

theorem getD_listed {listed : Array Bool} {i j : Nat} {d : Bool} : (listed.setIfInBounds i true).getD j d = if i = j ∧ i < listed.size then true else listed.getD j d := by
  simp only [Array.getD_eq_getD_getElem?, Array.getElem?_setIfInBounds]
  by_cases h : i = j
  · subst h
    by_cases h2 : i < listed.size
    · simp [h2]
    · simp [h2]
  · simp [h]

theorem count_listed {listed : Array Bool} {i : Nat} (hi : i < listed.size) (hun : listed.getD i true = false) : ∀ l : List Nat, l.Nodup → i ∈ l →
    (l.filter fun j => !listed.getD j true).length = (l.filter fun j => !(listed.setIfInBounds i true).getD j true).length + 1
  | [], _, h => by cases h
  | j :: l, hnd, hmem => by
    have hnd' := List.nodup_cons.1 hnd
    by_cases hij : j = i
    · subst hij
      have hrest : l.filter (fun q => !(listed.setIfInBounds j true).getD q true) = l.filter (fun q => !listed.getD q true) := List.filter_congr fun q hq => by
        have hne : j ≠ q := fun e => hnd'.1 (e ▸ hq)
        rw [getD_listed, if_neg (fun h => hne h.1)]
      have e1 : (!listed.getD j true) = true := by rw [hun]; rfl
      have e2 : (!(listed.setIfInBounds j true).getD j true) = false := by rw [getD_listed, if_pos ⟨rfl, hi⟩]; rfl
      rw [List.filter_cons_of_pos (p := fun j => !listed.getD j true) e1, List.filter_cons_of_neg (by rw [e2]; simp), List.length_cons, hrest]
    · have hmem' : i ∈ l := (List.mem_cons.1 hmem).resolve_left fun h => hij h.symm
      have ih := count_listed hi hun l hnd'.2 hmem'
      have e : (!(listed.setIfInBounds i true).getD j true) = (!listed.getD j true) := by rw [getD_listed, if_neg (fun h => hij h.1.symm)]
      cases hb : (!listed.getD j true) with
      | true => rw [List.filter_cons_of_pos (p := fun j => !listed.getD j true) hb, List.filter_cons_of_pos (p := fun j => !(listed.setIfInBounds i true).getD j true) (e.trans hb), List.length_cons, List.length_cons, ih]
      | false => rw [List.filter_cons_of_neg (by rw [hb]; simp), List.filter_cons_of_neg (by rw [e, hb]; simp), ih]

theorem chk_row {ops : Array Oper} (h : chk ops = true) {i : Nat} {o : Oper} (ho : ops[i]? = some o) :
    (∀ e ∈ o.after.toList, Region.binds .any e = true → e.on < i) ∧
    (∀ (j : Nat) p t, ops[j]? = some p → p.dst = some t → (j = i ∨ p.dst ≠ o.dst) ∧ (t ∈ tmpsOf o.op.operands.toList → (∃ e ∈ o.after.toList, Region.binds .any e = true ∧ e.on = j) ∨ ∃ e ∈ p.after.toList, Region.binds .any e = true ∧ e.on = i)) ∧
    (∀ j b, o.guard = some (j, b) → ∃ e ∈ o.after.toList, Region.binds .any e = true ∧ e.on = j) := by
  have hi : i < ops.size := (Array.getElem?_eq_some_iff.1 ho).1
  have h1 := List.all_eq_true.1 h i (List.mem_range.2 hi)
  rw [ho] at h1
  simp only [Bool.and_eq_true] at h1
  obtain ⟨⟨h2, h3⟩, h4⟩ := h1
  refine ⟨fun e he hb => ?_, fun j p t hp ht => ?_, fun j b hg => ?_⟩
  · have := List.all_eq_true.1 h2 e he
    simpa [hb] using this
  · have hj : j < ops.size := (Array.getElem?_eq_some_iff.1 hp).1
    have h5 := List.all_eq_true.1 h3 j (List.mem_range.2 hj)
    rw [hp] at h5
    simp only [ht, Bool.and_eq_true, Bool.or_eq_true, beq_iff_eq, bne_iff_ne, Bool.not_eq_true', List.any_eq_true] at h5
    refine ⟨by rw [ht]; exact h5.1, fun hm => ?_⟩
    rcases h5.2 with (h6 | ⟨e, he, h7⟩) | ⟨e, he, h7⟩
    · have : (tmpsOf o.op.operands.toList).contains t = true := List.contains_iff_mem.2 hm
      rw [this] at h6
      cases h6
    · exact .inl ⟨e, he, h7⟩
    · exact .inr ⟨e, he, h7⟩
  · rw [hg] at h4
    simp only [List.any_eq_true, Bool.and_eq_true, beq_iff_eq] at h4
    exact h4

end Go.Proofs.YtiefcnghjcafbaaDoorV

/- The calculus of values, twelfth text: append onto a slice of the call's own. -/
namespace Go.Proofs.YtiefcnghjcafbaaDoorV
open Go Go.RowKit

theorem own_blk {w : World} {e sz n : Nat} {v : Value} {vals : List Value} (h : w.ownsRow 0 e sz v n vals) : blkOf v = v.ownBlock := by
  rcases h.2 with ⟨rfl, _⟩ | ⟨g, cap, cur, rfl, _⟩ <;> rfl

theorem div_mul_mod {q n sz : Nat} (h : q < n * sz) : q / sz < n ∧ q % sz < sz ∧ q / sz * sz + q % sz = q := by
  have hs : 0 < sz := by
    rcases Nat.eq_zero_or_pos sz with h0 | h0
    · rw [h0, Nat.mul_zero] at h; omega
    · exact h0
  refine ⟨(Nat.div_lt_iff_lt_mul hs).2 h, Nat.mod_lt _ hs, ?_⟩
  rw [Nat.mul_comm]
  exact Nat.div_add_mod q sz

/-- What is appended, cell by cell. -/
theorem src_cells {T : Nat → Prop} {bs : List Bx} {φ : List Value} {w : World} (hs : Sim T bs φ w) {p : V} {ys : List (List S)} {sz : Nat} {v : Value} (h : RV (okOf T bs φ) w φ p v) (hv : view bs p = some ys) (hne : ys ≠ []) (hsz : ∀ y ∈ ys, y.length = sz) :
    ∃ (ad : Addr) (c : Nat) (news : List Value), v = .slice (some ad) ys.length c ∧ news.length = ys.length * sz ∧ (∀ (j : Nat) u, news[j]? = some u → w.cell? (ad.add j) = some u) ∧ (∀ u ∈ news, u.oneCell' = true) ∧
      ∀ (i : Nat) x (j : Nat) y, ys[i]? = some x → x[j]? = some y → RS (okOf T bs φ) w y (news.getD (i * sz + j) Go.undef) := by
  have pos : 0 < ys.length := List.length_pos_iff.2 hne
  have at_ : ∀ q, q < ys.length * sz → ∃ x y, ys[q / sz]? = some x ∧ x[q % sz]? = some y := fun q hq => by
    obtain ⟨h1, h2, _⟩ := div_mul_mod hq
    have hx : ys[q / sz]? = some ys[q / sz] := List.getElem?_eq_getElem h1
    have hl := hsz _ (List.mem_of_getElem? hx)
    exact ⟨_, _, hx, List.getElem?_eq_getElem (by omega)⟩
  have fast : ∀ v, RS (okOf T bs φ) w (.sl ys) v → ∃ (ad : Addr) (c : Nat) (news : List Value), v = .slice (some ad) ys.length c ∧ news.length = ys.length * sz ∧ (∀ (j : Nat) u, news[j]? = some u → w.cell? (ad.add j) = some u) ∧ (∀ u ∈ news, u.oneCell' = true) ∧
      ∀ (i : Nat) x (j : Nat) y, ys[i]? = some x → x[j]? = some y → RS (okOf T bs φ) w y (news.getD (i * sz + j) Go.undef) := by
    intro v hr
    cases hr with
    | nil A c h => exact absurd rfl hne
    | cons xs ad c sz' f h0 hs' hc hm hok hlt hcell hr =>
      have hss : sz' = sz := by
        match ys, hne with
        | y :: r, _ => exact (hs' y List.mem_cons_self).symm.trans (hsz y List.mem_cons_self)
      subst hss
      have hget : ∀ q, q < ys.length * sz' → ((List.range (ys.length * sz')).map fun q => f (q / sz') (q % sz'))[q]? = some (f (q / sz') (q % sz')) := fun q hq => by simp [hq]
      refine ⟨ad, c, (List.range (ys.length * sz')).map fun q => f (q / sz') (q % sz'), rfl, by simp, fun q u hq => ?_, fun u hu => ?_, fun i x j y hx hy => ?_⟩
      · have hql : q < ys.length * sz' := by
          have := (List.getElem?_eq_some_iff.1 hq).1
          simpa using this
        rw [hget q hql] at hq
        obtain rfl := Option.some.inj hq
        obtain ⟨x, y, hx, hy⟩ := at_ q hql
        have := hcell _ x _ y hx hy
        rwa [(div_mul_mod hql).2.2] at this
      · obtain ⟨q, hq⟩ := List.mem_iff_getElem?.1 hu
        have hql : q < ys.length * sz' := by
          have := (List.getElem?_eq_some_iff.1 hq).1
          simpa using this
        rw [hget q hql] at hq
        obtain rfl := Option.some.inj hq
        obtain ⟨x, y, hx, hy⟩ := at_ q hql
        exact ((hr _ x _ y hx hy).up (φ := φ) |>.atom (S.up_atomic y)).1
      · have hi : i < ys.length := (List.getElem?_eq_some_iff.1 hx).1
        have hj : j < sz' := by rw [← hsz x (List.mem_of_getElem? hx)]; exact (List.getElem?_eq_some_iff.1 hy).1
        have h4 := Nat.mul_le_mul_right sz' hi
        rw [Nat.succ_mul] at h4
        have hq : i * sz' + j < ys.length * sz' := by omega
        rw [List.getD_eq_getElem?_getD, hget _ hq]
        have e1 : (i * sz' + j) / sz' = i := by
          rw [Nat.mul_comm, Nat.mul_add_div (by omega), Nat.div_eq_of_lt hj]
          omega
        have e2 : (i * sz' + j) % sz' = j := by
          rw [Nat.mul_comm, Nat.mul_add_mod, Nat.mod_eq_of_lt hj]
        rw [e1, e2]
        exact hr i x j y hx hy
  cases h with
  | nils => obtain rfl := Option.some.inj hv; exact absurd rfl hne
  | sl xs v hr => obtain rfl := Option.some.inj hv; exact fast _ hr
  | row q A m c hq =>
    simp only [view] at hv
    cases hb : bs[q]? with
    | none => rw [hb] at hv; cases hv
    | some b =>
      rw [hb] at hv
      obtain ⟨v', hv', hbo⟩ := hs.box q b hb
      obtain rfl : v' = _ := Option.some.inj (hv'.symm.trans hq)
      cases b with
      | dead => cases hv
      | cells l => cases hv
      | iter s p => cases hv
      | row e' sz' xs =>
        obtain rfl := Option.some.inj hv
        obtain ⟨hlen, vals, how, hc⟩ := hbo
        have hss : sz' = sz := by
          match xs, hne with
          | y :: r, _ => exact (hlen y List.mem_cons_self).symm.trans (hsz y List.mem_cons_self)
        subst hss
        rcases how.2 with ⟨_, h2⟩ | ⟨g, cap, cur, h1, _⟩
        · omega
        · refine ⟨⟨g, 0, none⟩, cap, vals, h1, how.1, fun j u hj => ?_, fun u hu => ?_, hc⟩
          · have hjl : j < xs.length * sz' := by rw [← how.1]; exact (List.getElem?_eq_some_iff.1 hj).1
            rw [add_plain, Nat.zero_add, own_cell how h1 hjl, List.getD_eq_getElem?_getD, hj]
            rfl
          · obtain ⟨q, hq⟩ := List.mem_iff_getElem?.1 hu
            have hql : q < xs.length * sz' := by rw [← how.1]; exact (List.getElem?_eq_some_iff.1 hq).1
            obtain ⟨x, y, hx, hy⟩ := at_ q hql
            have := hc _ x _ y hx hy
            rw [(div_mul_mod hql).2.2, List.getD_eq_getElem?_getD, hq] at this
            exact ((this.up (φ := φ)).atom (S.up_atomic y)).1
  | val => cases hv
  | eptr => cases hv
  | ptr => cases hv
  | rptr => cases hv
  | win => cases hv
  | fn => cases hv
  | agg => cases hv
  | tup => cases hv
  | gone => cases hv

section
variable {P : Program} {L : Lay} {ts : List V} {bs : List Bx} {o : Oper}

theorem app_rows {ok : Nat → Prop} {w : World} {xs ys : List (List S)} {vals news : List Value} {sz : Nat} (hl : vals.length = xs.length * sz) (hxs : ∀ x ∈ xs, x.length = sz)
    (hx : ∀ (i : Nat) x (j : Nat) y, xs[i]? = some x → x[j]? = some y → RS ok w y (vals.getD (i * sz + j) Go.undef)) (hy : ∀ (i : Nat) x (j : Nat) y, ys[i]? = some x → x[j]? = some y → RS ok w y (news.getD (i * sz + j) Go.undef)) :
    ∀ (i : Nat) x (j : Nat) y, (xs ++ ys)[i]? = some x → x[j]? = some y → RS ok w y ((vals ++ news).getD (i * sz + j) Go.undef) := by
  intro i x j y hi hj
  rcases Nat.lt_or_ge i xs.length with h | h
  · rw [List.getElem?_append_left h] at hi
    have hjs : j < sz := by rw [← hxs x (List.mem_of_getElem? hi)]; exact (List.getElem?_eq_some_iff.1 hj).1
    have h4 := Nat.mul_le_mul_right sz h
    rw [Nat.succ_mul] at h4
    have := hx i x j y hi hj
    rwa [List.getD_eq_getElem?_getD, List.getElem?_append_left (by omega), ← List.getD_eq_getElem?_getD]
  · rw [List.getElem?_append_right h] at hi
    have := hy _ x j y hi hj
    have h4 := Nat.mul_le_mul_right sz h
    have h5 : (i - xs.length) * sz = i * sz - xs.length * sz := Nat.sub_mul _ _ _
    rw [List.getD_eq_getElem?_getD, List.getElem?_append_right (by omega), ← List.getD_eq_getElem?_getD]
    rw [show i * sz + j - vals.length = (i - xs.length) * sz + j by omega]
    exact this

/-- append onto nil: a new slice. -/
theorem op_append0 (hL : LayOk P L) {t e sz by_ : Nat} {s0 x0 : Operand} {p : V} {ys : List (List S)} (ho : o.op = .call { callee := .builtin .append, args := #[s0, x0], argTypes := #[t, t] }) (hs0 : evO ts s0 = some .nils) (hx0 : evO ts x0 = some p)
    (hl : L.sl t = some (e, sz)) (hb : L.byt e = some by_) (hv : view bs p = some ys) (hne : ys ≠ []) (hsz : ∀ y ∈ ys, y.length = sz) (hbound : ys.length * by_ ≤ 140737488355328) (hm : ys.length ≤ 140737488355328) :
    OpOk P o (fun ts' bs' => ts' = putV o.dst (.row bs.length) ts ∧ bs' = bs ++ [.row e sz ys]) ts bs := by
  refine OpOk.make fun T φ w a hs ht => ?_
  obtain ⟨hu, hinf, hsz0⟩ := hL.sl t e sz hl
  obtain ⟨i, z, h1, h2, h3, h4⟩ := hL.byt e by_ hb
  have hisz : i.size = sz := by rw [h1] at hinf; simpa using hinf
  have hn := evO_sound ht hs0
  have hnil : a.eval s0 = .slice none 0 0 := by
    generalize a.eval s0 = u at hn
    cases hn
    rfl
  obtain ⟨ad, c, news, he, hnl, hnc, hn1, hnr⟩ := src_cells hs (evO_sound ht hx0) hv hne hsz
  obtain ⟨v', w', hrun, hown, hg, hiff, hat⟩ := run_append_own_at (P := P) w 0 t o.type e i z sz by_ hu h1 h2 hisz h3 (by rw [h4, hisz]) hsz0 (.slice none 0 0) 0 [] ⟨by simp, .inl ⟨rfl, rfl⟩⟩ ad ys.length c news hnl hnc hn1 (by simp only [maxLen]; omega) (by simpa using hbound) (Nat.zero_le _)
  have hw : Below w.heap.size w w' := ⟨hg.os, hg.tape, hg.output, hg.size, fun g hg2 => hg.block g hg2 (by simp [Value.ownBlock])⟩
  have hsl : ∃ A m c, v' = .slice A m c := by
    rcases hown.2 with ⟨rfl, _⟩ | ⟨g, cap, cur, rfl, _⟩
    · exact ⟨_, _, _, rfl⟩
    · exact ⟨_, _, _, rfl⟩
  have hlφ : (φ ++ [v'])[bs.length]? = some v' := by rw [← hs.len]; simp
  refine ⟨v', v', w', ?_, hw, fun g hg2 => ?_, fun hx => ⟨⟨hsz, news, by simpa using hown, fun i x j y hx' hy' => (hnr i x j y hx' hy').ext hx⟩, ?_⟩⟩
  · simp [execOp, ho, resolve, hnil, he, invoke, builtin, hrun]
  · rw [own_blk hown] at hg2
    rcases hat with h | h
    · rw [h] at hg2
      cases hg2
    · rw [h] at hg2
      exact Nat.le_of_eq (Option.some.inj hg2)
  · obtain ⟨A, m, c, rfl⟩ := hsl
    exact .row _ _ _ _ hlφ

/-- append onto a slice of the call's own: it is used up, a new one stands for it. -/
theorem op_append (hL : LayOk P L) {t e sz by_ k : Nat} {s0 x0 : Operand} {p : V} {xs ys : List (List S)} (ho : o.op = .call { callee := .builtin .append, args := #[s0, x0], argTypes := #[t, t] }) (hs0 : evO ts s0 = some (.row k)) (hx0 : evO ts x0 = some p)
    (hk : bs[k]? = some (.row e sz xs)) (hl : L.sl t = some (e, sz)) (hb : L.byt e = some by_) (hv : view bs p = some ys) (hne : ys ≠ []) (hsz : ∀ y ∈ ys, y.length = sz) (hbound : (xs.length + ys.length) * by_ ≤ 140737488355328) (hm : xs.length + ys.length ≤ 140737488355328) :
    OpOk P o (fun ts' bs' => ts' = putV o.dst (.row bs.length) ts ∧ bs' = bs.set k .dead ++ [.row e sz (xs ++ ys)]) ts bs := by
  intro T φ w a hs ht K Qx hK
  obtain ⟨hu, hinf, hsz0⟩ := hL.sl t e sz hl
  obtain ⟨i, z, h1, h2, h3, h4⟩ := hL.byt e by_ hb
  have hisz : i.size = sz := by rw [h1] at hinf; simpa using hinf
  obtain ⟨v, hvφ, hlen, vals, how, hc⟩ := hs.box k _ hk
  have hsv : a.eval s0 = v := by
    have hn := evO_sound ht hs0
    generalize a.eval s0 = u at hn
    cases hn with
    | row k A n c hq => exact Option.some.inj (hq.symm.trans hvφ)
  obtain ⟨ad, c, news, he, hnl, hnc, hn1, hnr⟩ := src_cells hs (evO_sound ht hx0) hv hne hsz
  obtain ⟨v', w', hrun, hown, hg, hiff, hat⟩ := run_append_own_at (P := P) w 0 t o.type e i z sz by_ hu h1 h2 hisz h3 (by rw [h4, hisz]) hsz0 v xs.length vals how ad ys.length c news hnl hnc hn1 (by simp only [maxLen]; omega) hbound (Nat.zero_le _)
  have hkl : k < bs.length := (List.getElem?_eq_some_iff.1 hk).1
  have hsl : ∃ A m c, v' = .slice A m c := by
    rcases hown.2 with ⟨rfl, _⟩ | ⟨g, cap, cur, rfl, _⟩
    · exact ⟨_, _, _, rfl⟩
    · exact ⟨_, _, _, rfl⟩
  have hlφ : (φ ++ [v'])[bs.length]? = some v' := by rw [← hs.len]; simp
  have hblk := own_blk how
  have hblk' := own_blk hown
  have hold : ∀ (j : Nat) b u, (bs.set k .dead ++ [.row e sz (xs ++ ys)])[j]? = some b → b.live = true → (φ ++ [v'])[j]? = some u → (j ≠ k ∧ bs[j]? = some b ∧ φ[j]? = some u) ∨ (j = bs.length ∧ u = v') := by
    intro j b u hj hlv hu'
    rcases Nat.lt_or_ge j bs.length with h | h
    · rw [List.getElem?_append_left (by simpa using h)] at hj
      rw [List.getElem?_append_left (by rw [hs.len]; exact h)] at hu'
      by_cases hjk : j = k
      · subst hjk
        rw [List.getElem?_set_self hkl] at hj
        obtain rfl := Option.some.inj hj
        cases hlv
      · rw [List.getElem?_set_ne (Ne.symm hjk)] at hj
        exact .inl ⟨hjk, hj, hu'⟩
    · have hje : j = bs.length := by
        have := (List.getElem?_eq_some_iff.1 hj).1
        simp at this
        omega
      subst hje
      rw [hlφ] at hu'
      exact .inr ⟨rfl, (Option.some.inj hu').symm⟩
  have hx : Ext bs φ w (bs.set k .dead ++ [.row e sz (xs ++ ys)]) (φ ++ [v']) w' := by
    refine ⟨hg.os, hg.tape, hg.output, hg.size, fun j u hj => ?_, fun g hgl hm => ?_, fun g hm => ?_⟩
    · rw [List.getElem?_append_left (List.getElem?_eq_some_iff.1 hj).1]
      exact hj
    · exact hg.block g hgl (fun e' => hm ⟨k, _, v, hk, rfl, hvφ, by rw [hblk]; exact e'.symm⟩)
    · obtain ⟨j, b, u, hj, hlv, hu', hgb⟩ := hm
      rcases hold j b u hj hlv hu' with ⟨_, q1, q2⟩ | ⟨_, rfl⟩
      · exact .inl ⟨j, b, u, q1, hlv, q2, hgb⟩
      · rw [hblk'] at hgb
        rcases hat with h | h
        · exact .inl ⟨k, _, v, hk, rfl, hvφ, by rw [hblk, ← h]; exact hgb⟩
        · rw [h] at hgb
          exact .inr (Nat.le_of_eq (Option.some.inj hgb))
  have hsim : Sim T (bs.set k .dead ++ [.row e sz (xs ++ ys)]) (φ ++ [v']) w' := by
    refine hs.step hx ?_ (by simp [hs.len]) ?_
    · intro j j' b b' u u' g p1 l1 p2 g1 q1 l2 q2 g2
      have new_ : ∀ (j : Nat) b u, j ≠ k → bs[j]? = some b → b.live = true → φ[j]? = some u → blkOf u = some g → blkOf v' = some g → False := by
        intro j b u hjk hj hlv hu' hgb hgv
        rw [hblk'] at hgv
        rcases hat with h | h
        · exact hjk (hs.inj j k b _ u v g hj hlv hu' hgb hk rfl hvφ (by rw [hblk, ← h]; exact hgv))
        · rw [h] at hgv
          have hlt := mine_lt hs ⟨j, b, u, hj, hlv, hu', hgb⟩
          have := Option.some.inj hgv
          omega
      rcases hold j b u p1 l1 p2 with ⟨a1, a2, a3⟩ | ⟨a1, rfl⟩ <;> rcases hold j' b' u' q1 l2 q2 with ⟨c1, c2, c3⟩ | ⟨c1, rfl⟩
      · exact hs.inj j j' b b' u u' g a2 l1 a3 g1 c2 l2 c3 g2
      · exact (new_ j b u a1 a2 l1 a3 g1 g2).elim
      · exact (new_ j' b' u' c1 c2 l2 c3 g2 g1).elim
      · omega
    · intro j b hj
      rcases Nat.lt_or_ge j bs.length with h | h
      · rw [List.getElem?_append_left (by simpa using h)] at hj
        by_cases hjk : j = k
        · subst hjk
          rw [List.getElem?_set_self hkl] at hj
          obtain rfl := Option.some.inj hj
          exact .inr ⟨v, hx.pre _ _ hvφ, trivial⟩
        · rw [List.getElem?_set_ne (Ne.symm hjk)] at hj
          refine .inl ⟨hj, fun hlv u g hu' hgb => hg.block g (mine_lt hs ⟨j, b, u, hj, hlv, hu', hgb⟩) fun e' => hjk ?_⟩
          exact hs.inj j k b _ u v g hj hlv hu' hgb hk rfl hvφ (by rw [hblk]; exact e'.symm)
      · have hje : j = bs.length := by
          have := (List.getElem?_eq_some_iff.1 hj).1
          simp at this
          omega
        subst hje
        rw [List.getElem?_append_right (by simp)] at hj
        obtain rfl : Bx.row e sz (xs ++ ys) = b := by simpa using hj
        refine .inr ⟨v', hlφ, fun x hx' => ?_, vals ++ news, by simpa using hown, fun i x j y hi hj => (app_rows how.1 hlen hc hnr i x j y hi hj).ext hx⟩
        rcases List.mem_append.1 hx' with h | h
        · exact hlen x h
        · exact hsz x h
  unfold Oper.wp
  have hr : (execOp a.eval o).run P w = .ok (.value v') w' := by simp [execOp, ho, resolve, hsv, he, invoke, builtin, hrun]
  rw [hr]
  refine hK _ _ _ _ _ ⟨rfl, rfl⟩ hx hsim ((ht.ext hx).put ?_ _)
  obtain ⟨A, m, c, rfl⟩ := hsl
  exact .row _ _ _ _ hlφ
/-- Nothing is appended. -/
theorem op_appendE (hL : LayOk P L) {t e sz : Nat} {s0 x0 : Operand} {p s : V} (ho : o.op = .call { callee := .builtin .append, args := #[s0, x0], argTypes := #[t, t] }) (hs0 : evO ts s0 = some s) (hx0 : evO ts x0 = some p)
    (hl : L.sl t = some (e, sz)) (hv : view bs p = some []) (hsv : s = .nils ∨ ∃ k e' sz' xs, s = .row k ∧ bs[k]? = some (.row e' sz' xs)) :
    OpOk P o (fun ts' bs' => ts' = putV o.dst s ts ∧ bs' = bs) ts bs := by
  refine OpOk.value fun T φ w a hs ht => ?_
  obtain ⟨hu, hinf, _⟩ := hL.sl t e sz hl
  obtain ⟨i, hi, hsz⟩ := Option.map_eq_some_iff.1 hinf
  obtain ⟨A, c, he⟩ := view_len hs (evO_sound ht hx0) hv
  have hsr := evO_sound ht hs0
  have hshape : ∃ B n m, a.eval s0 = .slice B n m ∧ n ≤ m := by
    generalize a.eval s0 = u at hsr
    rcases hsv with rfl | ⟨k, e', sz', xs, rfl, hk⟩
    · cases hsr
      exact ⟨none, 0, 0, rfl, Nat.le_refl _⟩
    · obtain ⟨v, hvφ, hlen, vals, how, hc⟩ := hs.box k _ hk
      cases hsr with
      | row k A n c hq =>
        obtain rfl : v = _ := Option.some.inj (hvφ.symm.trans hq)
        rcases how.2 with ⟨h1, h2⟩ | ⟨g, cap, cur, h1, _, _, h4, _⟩
        · cases h1
          exact ⟨_, _, _, rfl, Nat.le_refl _⟩
        · cases h1
          exact ⟨_, _, _, rfl, h4⟩
  obtain ⟨B, n, m, hse, hnm⟩ := hshape
  have hsrc : Src P i.size t (.slice A ([] : List (List S)).length c) 0 [] w := by
    refine ⟨.inl ⟨e, hu⟩, fun w' => ?_, ?_, ?_, by simp, fun u hu => by cases hu⟩
    · simp [Builtin.lenOf]
    · cases A with
      | none => simp [Builtin.firstCells]
      | some ad =>
        simp only [Builtin.firstCells]
        rw [Nat.zero_mul]
        exact run_loadCells w ad 0 (fun _ => Go.undef) fun j hj => by omega
    · cases A with
      | none => simp [Builtin.firstCells]
      | some ad =>
        simp only [Builtin.firstCells]
        rw [Nat.zero_mul]
        exact run_loadCells w.drew ad 0 (fun _ => Go.undef) fun j hj => by omega
  have hrun := run_append_nothing (P := P) w t t o.type e i hu hi B n m hnm _ hsrc
  refine ⟨a.eval s0, ?_, hsr⟩
  simp [execOp, ho, resolve, he, hse, invoke, builtin] at hrun ⊢
  rw [hrun]
  rfl
end

section
variable {P : Program} {L : Lay} {ts : List V} {bs : List Bx} {o : Oper}

/-- A function value. -/
theorem op_fn {f : FuncId} {cap : Array Operand} {vs : List V} (ho : o.op = .makeFunc (.func f) #[] cap) (hv : evOs ts cap.toList = some vs) : OpOk P o (fun ts' bs' => ts' = putV o.dst (.fn f vs) ts ∧ bs' = bs) ts bs := by
  refine OpOk.value fun T φ w a hs ht => ?_
  obtain ⟨k1, k2⟩ := evOs_sound ht hv
  have hm : (cap.toList.map a.eval).toArray = cap.map a.eval := by apply Array.toList_inj.1; simp
  rw [hm] at k1 k2
  exact ⟨.func (.func f) #[] (cap.map a.eval), by simp [execOp, ho, Instr.makeFunc], .fn f vs _ k1 k2⟩

/-- A call of a function value. -/
theorem op_callF {f0 : Operand} {args : Array Operand} {tys : Array TypeId} {f : FuncId} {vs cap : List V} {R : V → List Bx → Prop} (ho : o.op = .call { callee := .value f0, args := args, argTypes := tys }) (hf : evO ts f0 = some (.fn f cap)) (hen : Enters P f)
    (hv : evOs ts args.toList = some vs) (h : FnOk P f (vs ++ cap) bs R) : OpOk P o (fun ts' bs' => ∃ r, R r bs' ∧ ts' = putV o.dst r ts) ts bs := by
  intro T φ w a hs ht K Qx hK
  have h1 := evO_sound ht hf
  have h2 := evOs_sound ht hv
  generalize he : a.eval f0 = u at h1
  cases h1 with
  | fn f cap arr hl hc =>
    unfold Oper.wp
    have hm : (args.toList.map a.eval).toArray = args.map a.eval := by apply Array.toList_inj.1; simp
    rw [hm] at h2
    have hr : (execOp a.eval o).run P w = .ok (.enter f (args.map a.eval ++ arr)) w := by
      have hen' := hen (args.map a.eval ++ arr) w
      simp [execOp, ho, resolve, he, Deferred.ofValue, invoke, hen']
    rw [hr]
    have h3 : RVs (okOf T bs φ) w φ (vs ++ cap) (args.map a.eval ++ arr) := by
      obtain ⟨k1, k2⟩ := h2
      refine ⟨by simp only [List.length_append, Array.size_append]; omega, fun i c hi => ?_⟩
      rcases Nat.lt_or_ge i vs.length with hlt | hge
      · rw [List.getElem?_append_left hlt] at hi
        have := k2 i c hi
        rwa [Array.getD_eq_getD_getElem?, Array.getElem?_append_left (by omega), ← Array.getD_eq_getD_getElem?]
      · rw [List.getElem?_append_right hge] at hi
        have := hc _ c hi
        rwa [Array.getD_eq_getD_getElem?, Array.getElem?_append_right (by omega), ← k1, ← Array.getD_eq_getD_getElem?]
    refine (h T φ w _ hs h3).mono ?_
    rintro e w' ⟨v, r, bs', φ', rfl, q, hx, hs', hv'⟩
    exact hK _ _ _ _ _ ⟨r, q, rfl⟩ hx hs' ((ht.ext hx).put hv' _)

/-- A range over a string begins. -/
theorem op_range (hL : LayOk P L) {t : TypeId} {x0 : Operand} {s : ByteArray} (ho : o.op = .range t x0) (hx : evO ts x0 = some (.val (.string s))) (hst : L.str t = true) :
    OpOk P o (fun ts' bs' => ts' = putV o.dst (.ptr bs.length 0) ts ∧ bs' = bs ++ [.iter s 0]) ts bs := by
  refine OpOk.make fun T φ w a hs ht => ?_
  have hl : (φ ++ [Value.pointer (some ⟨w.heap.size, 0, none⟩)])[bs.length]? = some (.pointer (some ⟨w.heap.size, 0, none⟩)) := by rw [← hs.len]; simp
  have h1 := evO_sound ht hx
  generalize he : a.eval x0 = u at h1
  cases h1 with
  | val =>
    refine ⟨.pointer (some ⟨w.heap.size, 0, none⟩), .pointer (some ⟨w.heap.size, 0, none⟩), w.alloc (.stringIter s 0), ?_, below_alloc1 w _, fun g hg => ?_, fun _ => ⟨⟨w.heap.size, rfl, heap_alloc_new w _⟩, ?_⟩⟩
    · simp [execOp, ho, Instr.range, he, run_underlying (hL.str t hst)]
    · obtain rfl : w.heap.size = g := by simpa [blkOf] using hg
      exact Nat.le_refl _
    · exact .ptr _ 0 _ hl

/-- The next character of a string, and the end. -/
theorem run_next_in {P : Program} {w : World} {s : ByteArray} {p g : Nat} (hh : w.heap[g]? = some (.stringIter s p)) (hp : p < s.size) (ty : TypeId) :
    (Instr.next (.pointer (some ⟨g, 0, none⟩)) true ty).run P w = .ok (.tuple #[.bool true, .int .i64 p, .int .i32 (Utf8.decode s p).1]) { w with heap := w.heap.setIfInBounds g (.stringIter s (p + (Utf8.decode s p).2)) } := by
  simp only [Instr.next, getObj, setObj, Sem.run_bind, Sem.run, hh, Result.andThen, hp, if_true]
  simp [goInt]
theorem run_next_out {P : Program} {w : World} {s : ByteArray} {p g : Nat} (hh : w.heap[g]? = some (.stringIter s p)) (hp : ¬ p < s.size) (ty : TypeId) :
    (Instr.next (.pointer (some ⟨g, 0, none⟩)) true ty).run P w = .ok (.tuple #[.bool false]) w := by
  simp [Instr.next, getObj, Sem.run, hh, hp]

/-- The next character of a string. -/
theorem op_next {k : Nat} {x0 : Operand} {s : ByteArray} {p : Nat} (ho : o.op = .next x0 true) (hx : evO ts x0 = some (.ptr k 0)) (hb : bs[k]? = some (.iter s p)) :
    OpOk P o (fun ts' bs' => ts' = putV o.dst (if p < s.size then .tup [.val (.bool true), .val (.int .i64 p), .val (.int .i32 (Utf8.decode s p).1)] else .tup [.val (.bool false)]) ts ∧ bs' = if p < s.size then bs.set k (.iter s (p + (Utf8.decode s p).2)) else bs) ts bs := by
  intro T φ w a hs ht K Qx hK
  have h1 := evO_sound ht hx
  generalize he : a.eval x0 = u at h1
  cases h1 with
  | ptr k off g hg =>
    obtain ⟨v, hv, g', rfl, hh⟩ := hs.box k _ hb
    obtain rfl : g' = g := by
      have := hv.symm.trans hg
      simpa using this
    have hlt : g' < w.heap.size := (Array.getElem?_eq_some_iff.1 hh).1
    unfold Oper.wp
    by_cases hp : p < s.size
    · have hr : (execOp a.eval o).run P w = .ok (.value (.tuple #[.bool true, .int .i64 p, .int .i32 (Utf8.decode s p).1])) { w with heap := w.heap.setIfInBounds g' (.stringIter s (p + (Utf8.decode s p).2)) } := by
        simp [execOp, ho, he, run_next_in hh hp]
      rw [hr]
      have hkeep : ∀ g, g < w.heap.size → blkOf (Value.pointer (some ⟨g', 0, none⟩)) ≠ some g → (w.heap.setIfInBounds g' (.stringIter s (p + (Utf8.decode s p).2)))[g]? = w.heap[g]? := fun g _ hne => by
        have : g' ≠ g := fun e => hne (by rw [e]; rfl)
        simp [this]
      have hx2 := ext_set (w := w) (w' := { w with heap := w.heap.setIfInBounds g' (.stringIter s (p + (Utf8.decode s p).2)) }) (b' := .iter s (p + (Utf8.decode s p).2)) hb rfl hv rfl rfl rfl (by simp) hkeep
      have hs2 := hs.put hb rfl hv hx2 hkeep ⟨g', rfl, by simp [hlt]⟩
      refine hK _ _ _ _ _ ⟨rfl, by rw [if_pos hp]⟩ hx2 hs2 ?_
      rw [if_pos hp]
      refine (ht.ext hx2).put (.tup _ _ rfl fun i c hi => ?_) _
      rcases i with _ | _ | _ | i
      · obtain rfl := Option.some.inj hi; exact .val _ rfl
      · obtain rfl := Option.some.inj hi; exact .val _ rfl
      · obtain rfl := Option.some.inj hi; exact .val _ rfl
      · simp at hi
    · have hr : (execOp a.eval o).run P w = .ok (.value (.tuple #[.bool false])) w := by
        simp [execOp, ho, he, run_next_out hh hp]
      rw [hr]
      refine hK _ _ _ _ _ ⟨rfl, by rw [if_neg hp]⟩ (Ext.refl _ _ _) hs ?_
      rw [if_neg hp]
      refine ht.put (.tup _ _ rfl fun i c hi => ?_) _
      rcases i with _ | i
      · obtain rfl := Option.some.inj hi; exact .val _ rfl
      · simp at hi

/-- Are two structs of numbers, bools and strings equal? -/
def eqL (L : Lay) : List TypeId → List V → List V → Option Bool
  | [], [], [] => some true
  | t :: l, .val (.int k a) :: r, .val (.int k' b) :: r' => if k = k' ∧ (L.int t).isSome = true then (if a == b then eqL L l r r' else some false) else none
  | t :: l, .val (.bool a) :: r, .val (.bool b) :: r' => if L.bool t = true then (if a == b then eqL L l r r' else some false) else none
  | t :: l, .val (.string a) :: r, .val (.string b) :: r' => if L.str t = true then (if a = b then eqL L l r r' else some false) else none
  | _, _, _ => none

def aggD : TypeDesc → Bool
  | .struct _ | .array _ _ => true
  | _ => false
theorem part_run {t : TypeId} {d : TypeDesc} (ht : P.underlying t = some d) (hd : aggD d = false) {xs : Array Value} {i : Nat} (hi : i < xs.size) (w : World) : (part t xs i).run P w = .ok (xs.getD i Go.undef) w := by
  unfold part isAgg
  cases d <;> simp_all [run_underlying ht, Array.getD, aggD]

theorem eqL_run (hL : LayOk P L) {ok : Nat → Prop} {w : World} {φ : List Value} {d : Nat} : ∀ (fs : List Field) (l : List TypeId) (i : Nat) (cs ds : List V) (xs ys : Array Value) (b : Bool), fs.map (fun f => (f.name != "_", f.type, f.offset)) = (l.zipIdx i).map (fun p => (true, p.1, p.2)) →
    (∀ j c, cs[j]? = some c → RV ok w φ c (xs.getD (i + j) Go.undef)) → i + cs.length ≤ xs.size → (∀ j c, ds[j]? = some c → RV ok w φ c (ys.getD (i + j) Go.undef)) → i + ds.length ≤ ys.size → eqL L l cs ds = some b → (Op.eqFields (d + 1) xs ys fs).run P w = .ok b w := by
  intro fs
  induction fs with
  | nil =>
    intro l i cs ds xs ys b hf hc hcl hd hdl h
    cases l with
    | nil =>
      unfold eqL at h
      split at h <;> first | (cases h; simp [Op.eqFields]; done) | skip
      all_goals simp_all
    | cons t l => simp at hf
  | cons f fs ih =>
    intro l i cs ds xs ys b hf hc hcl hd hdl h
    cases l with
    | nil => simp at hf
    | cons t l =>
      simp only [List.map_cons, List.zipIdx_cons, List.cons.injEq, Prod.mk.injEq, bne_iff_ne, ne_eq] at hf
      obtain ⟨⟨h1, rfl, rfl⟩, hf⟩ := hf
      have go : ∀ (c1 c2 : V) (r r' : List V) (q : Bool) (d0 : TypeDesc), P.underlying f.type = some d0 → aggD d0 = false → cs = c1 :: r → ds = c2 :: r' → (Op.equalIn (d + 1) f.type (xs.getD f.offset Go.undef) (ys.getD f.offset Go.undef)).run P w = .ok q w →
          (if q then eqL L l r r' else some false) = some b → (Op.eqFields (d + 1) xs ys (f :: fs)).run P w = .ok b w := by
        intro c1 c2 r r' q d0 hu hd0 e1 e2 hq hb
        subst e1 e2
        simp only [List.length_cons] at hcl hdl
        simp only [Op.eqFields, h1, ne_eq, not_false_eq_true, if_true, Sem.run_bind, part_run hu hd0 (show f.offset < xs.size by omega), part_run hu hd0 (show f.offset < ys.size by omega), Result.andThen_ok, hq]
        cases q with
        | false =>
          obtain rfl := Option.some.inj hb
          simp
        | true =>
          simp only [Bool.not_true, Bool.false_eq_true, if_false]
          refine ih l (f.offset + 1) r r' xs ys b hf (fun j c hj => ?_) (by omega) (fun j c hj => ?_) (by omega) hb
          · have := hc (j + 1) c (by simpa using hj)
            rwa [show f.offset + (j + 1) = f.offset + 1 + j by omega] at this
          · have := hd (j + 1) c (by simpa using hj)
            rwa [show f.offset + (j + 1) = f.offset + 1 + j by omega] at this
      have at1 : ∀ (v : Value) (r : List V), cs = .val v :: r → xs.getD f.offset Go.undef = v := by
        intro v r e
        have := hc 0 (.val v) (by rw [e]; rfl)
        rw [Nat.add_zero] at this
        generalize xs.getD f.offset Go.undef = u at this
        cases this
        rfl
      have at2 : ∀ (v : Value) (r : List V), ds = .val v :: r → ys.getD f.offset Go.undef = v := by
        intro v r e
        have := hd 0 (.val v) (by rw [e]; rfl)
        rw [Nat.add_zero] at this
        generalize ys.getD f.offset Go.undef = u at this
        cases this
        rfl
      unfold eqL at h
      split at h
      · exact absurd ‹f.type :: l = []› (by simp)
      · rename_i t' l' k a r k' b' r' e0
        cases e0
        split at h
        · rename_i hk
          obtain ⟨rfl, hi⟩ := hk
          obtain ⟨k0, hk0⟩ := Option.isSome_iff_exists.1 hi
          have hu := hL.int _ _ hk0
          exact go _ _ _ _ (a == b') _ hu rfl rfl rfl (by rw [at1 _ _ rfl, at2 _ _ rfl]; exact run_equalIn_int w d _ _ _ _ _ hu) h
        · cases h
      · rename_i t' l' a r b' r' e0
        cases e0
        split at h
        · rename_i hk
          have hu := hL.bool _ hk
          exact go _ _ _ _ (a == b') _ hu rfl rfl rfl (by rw [at1 _ _ rfl, at2 _ _ rfl]; exact run_equalIn_bool' w d _ _ _ hu) h
        · cases h
      · rename_i t' l' a r b' r' e0
        cases e0
        split at h
        · rename_i hk
          have hu := hL.str _ hk
          exact go _ _ _ _ (decide (a = b')) _ hu rfl rfl rfl (by rw [at1 _ _ rfl, at2 _ _ rfl, run_equalIn_string w d _ _ _ hu, bytes_eq]) (by simpa using h)
        · cases h
      · cases h

/-- Two structs compared. -/
theorem op_eqL (hL : LayOk P L) {op : BinOp} {t t' : TypeId} {x0 y0 : Operand} {cs ds : List V} {l : List TypeId} {b : Bool} (ho : o.op = .binOp op t x0 y0 t') (hop : op = .eql ∨ op = .neq) (hx : evO ts x0 = some (.agg cs)) (hy : evO ts y0 = some (.agg ds)) (hl : L.eqs t = some l) (h : eqL L l cs ds = some b) :
    OpOk P o (fun ts' bs' => ts' = putV o.dst (.val (.bool (if op = .eql then b else !b))) ts ∧ bs' = bs) ts bs := by
  refine OpOk.value fun T φ w a hs ht => ?_
  obtain ⟨k1, k2, k3⟩ := hL.eqs t l hl
  have h1 := evO_sound ht hx
  have h2 := evO_sound ht hy
  generalize he : a.eval x0 = u at h1
  generalize hf : a.eval y0 = v at h2
  cases h1 with
  | agg _ xs hl1 ha1 hc1 =>
    cases h2 with
    | agg _ ys hl2 ha2 hc2 =>
      have ht2 : P.underlying t = some (.struct (P.fieldsOf t)) ∧ (P.fieldsOf t).toList.map (fun f => (f.name != "_", f.type, f.offset)) = (l.zipIdx 0).map fun p => (true, p.1, p.2) := by
        unfold Program.fieldsOf
        split at k3
        · rename_i fs hu
          rw [hu]
          exact ⟨rfl, Option.some.inj k3⟩
        · cases k3
      have hrun : (Op.equalIn 10000 t (.agg xs) (.agg ys)).run P w = .ok b w := by
        rw [run_equalIn_struct w 9999 t xs ys ht2.1 k1]
        exact eqL_run hL (d := 9998) _ l 0 cs ds xs ys b ht2.2 (fun j c hj => by rw [Nat.zero_add]; exact hc1 j c hj) (by omega) (fun j c hj => by rw [Nat.zero_add]; exact hc2 j c hj) (by omega) h
      rcases hop with rfl | rfl
      · exact ⟨.bool b, by simp [execOp, ho, he, hf, run_eqGuard_agg w _ t x0 y0 xs ys k2, run_eql_struct, hrun], .val _ rfl⟩
      · exact ⟨.bool (!b), by simp [execOp, ho, he, hf, run_eqGuard_agg w _ t x0 y0 xs ys k2, run_neq_struct, hrun], .val _ rfl⟩
end

end Go.Proofs.YtiefcnghjcafbaaDoorV

/- The calculus of values: windows on arrays of the call's own: slices with a known room. -/
namespace Go.Proofs.YtiefcnghjcafbaaDoorV
open Go Go.RowKit

section
variable {P : Program} {L : Lay} {ts : List V} {bs : List Bx} {o : Oper}

/-- How long a slice is. -/
theorem op_lenW (hL : LayOk P L) {t e m : Nat} {x0 : Operand} {k sz q n c : Nat} (ho : o.op = .call { callee := .builtin .len, args := #[x0], argTypes := #[t] }) (hx : evO ts x0 = some (.win k sz q n c)) (hl : L.sl t = some (e, m)) :
    OpOk P o (fun ts' bs' => ts' = putV o.dst (.val (.int .i64 n)) ts ∧ bs' = bs) ts bs := by
  refine OpOk.value fun T φ w a hs ht => ⟨_, ?_, .val _ rfl⟩
  have h1 := evO_sound ht hx
  obtain ⟨hu, _⟩ := hL.sl t e m hl
  generalize he : a.eval x0 = u at h1
  cases h1 with
  | win _ _ _ _ _ g hk hn hm => simp [execOp, ho, resolve, he, invoke, builtin, Builtin.len_, run_underlying hu, goInt, Result.andThen]

theorem op_capW (hL : LayOk P L) {t e m : Nat} {x0 : Operand} {k sz q n c : Nat} (ho : o.op = .call { callee := .builtin .cap, args := #[x0], argTypes := #[t] }) (hx : evO ts x0 = some (.win k sz q n c)) (hl : L.sl t = some (e, m)) :
    OpOk P o (fun ts' bs' => ts' = putV o.dst (.val (.int .i64 c)) ts ∧ bs' = bs) ts bs := by
  refine OpOk.value fun T φ w a hs ht => ⟨_, ?_, .val _ rfl⟩
  have h1 := evO_sound ht hx
  obtain ⟨hu, _⟩ := hL.sl t e m hl
  generalize he : a.eval x0 = u at h1
  cases h1 with
  | win _ _ _ _ _ g hk hn hm => simp [execOp, ho, resolve, he, invoke, builtin, Builtin.cap_, run_underlying hu, goInt, Result.andThen]

/-- Bounds of a cut. -/
theorem run_cut {P : Program} {w : World} {len cap l h : Nat} {lo hi : Option Value} (hlo : match lo with | none => l = 0 | some v => ∃ k, v = .int k l) (hhi : match hi with | none => h = len | some v => ∃ k, v = .int k h) (h1 : l ≤ h) (h2 : h ≤ cap) :
    (Instr.sliceBounds true len cap lo hi none).run P w = .ok (l, h, cap) w := by
  cases lo <;> cases hi <;> simp only at hlo hhi
  · subst hlo hhi
    simp [Instr.sliceBounds]
  · obtain ⟨k, rfl⟩ := hhi
    subst hlo
    simp [Instr.sliceBounds, Instr.sliceBound, asIntOf, h2]
  · obtain ⟨k, rfl⟩ := hlo
    subst hhi
    simp [Instr.sliceBounds, Instr.sliceBound, asIntOf, h1]
  · obtain ⟨k, rfl⟩ := hlo
    obtain ⟨k', rfl⟩ := hhi
    simp [Instr.sliceBounds, Instr.sliceBound, asIntOf, h1, h2]

theorem run_sliceAt (hL : LayOk P L) {t e sz : Nat} (hl : L.sl t = some (e, sz)) {A : Option Addr} {len cap l h : Nat} {lo hi : Option Value} {w : World} (hlo : match lo with | none => l = 0 | some v => ∃ k, v = .int k l) (hhi : match hi with | none => h = len | some v => ∃ k, v = .int k h) (h1 : l ≤ h) (h2 : h ≤ cap) :
    (Instr.sliceAt t (.slice A len cap) lo hi none).run P w = .ok (.slice (if cap = l then A else A.map (·.add (l * sz))) (h - l) (cap - l)) w := by
  obtain ⟨hu, hi0, _⟩ := hL.sl t e sz hl
  cases hq : P.info? e with
  | none => rw [hq] at hi0; cases hi0
  | some inf =>
    rw [hq] at hi0
    have hi2 : inf.size = sz := by simpa using hi0
    simp [Instr.sliceAt, Instr.slice, run_underlying hu, run_cut hlo hhi h1 h2, sizeOf, typeInfo, hq, hi2]

/-- Operands of bounds. -/
def Bd (ts : List V) (q : Option Operand) (d n : Nat) : Prop := match q with
  | none => n = d
  | some q => ∃ k, evO ts q = some (.val (.int k n))
theorem Bd.val {ok : Nat → Prop} {w : World} {φ : List Value} {a : Act} (ht : Tm ok w φ ts a) {q : Option Operand} {d n : Nat} (h : Bd ts q d n) : match q.map a.eval with | none => n = d | some v => ∃ k, v = .int k n := by
  cases q with
  | none => exact h
  | some q =>
    obtain ⟨k, hk⟩ := h
    exact ⟨k, RV.bool_of (evO_sound ht hk)⟩

/-- A window is cut. -/
theorem op_cutW (hL : LayOk P L) {t e k sz q n c l h : Nat} {x0 : Operand} {lo hi : Option Operand} (ho : o.op = .slice t x0 lo hi none) (hx : evO ts x0 = some (.win k sz q n c)) (hl : L.sl t = some (e, sz)) (hlo : Bd ts lo 0 l) (hhi : Bd ts hi n h) (h1 : l ≤ h) (h2 : h ≤ c) :
    OpOk P o (fun ts' bs' => ts' = putV o.dst (if c = l then .win k sz q (h - l) (c - l) else .win k sz (q + l) (h - l) (c - l)) ts ∧ bs' = bs) ts bs := by
  refine OpOk.value fun T φ w a hs ht => ?_
  have h3 := evO_sound ht hx
  generalize he : a.eval x0 = u at h3
  cases h3 with
  | win _ _ _ _ _ g hk hn hm =>
    refine ⟨.slice (if c = l then some ⟨g, q * sz, none⟩ else some ⟨g, (q + l) * sz, none⟩) (h - l) (c - l), ?_, ?_⟩
    · have hr := run_sliceAt hL hl (A := some ⟨g, q * sz, none⟩) (len := n) (cap := c) (w := w) (hlo.val ht) (hhi.val ht) h1 h2
      simp [execOp, ho, he, hr, add_plain, Nat.add_mul]
    · split
      · exact .win k sz q _ _ g hk (by omega) (by omega)
      · exact .win k sz (q + l) _ _ g hk (by omega) (by omega)

/-- A slice that does not change is cut. -/
theorem op_cutL (hL : LayOk P L) {t e sz l h : Nat} {x0 : Operand} {lo hi : Option Operand} {xs : List (List S)} (ho : o.op = .slice t x0 lo hi none) (hx : evO ts x0 = some (.sl xs)) (hl : L.sl t = some (e, sz)) (hlo : Bd ts lo 0 l) (hhi : Bd ts hi xs.length h) (h1 : l ≤ h) (h2 : h ≤ xs.length) (hsz : ∀ x ∈ xs, x.length = sz) :
    OpOk P o (fun ts' bs' => ts' = putV o.dst (.sl ((xs.take h).drop l)) ts ∧ bs' = bs) ts bs := by
  refine OpOk.value fun T φ w a hs ht => ?_
  have h3 := evO_sound ht hx
  generalize he : a.eval x0 = u at h3
  have hlen : ((xs.take h).drop l).length = h - l := by simp; omega
  cases h3 with
  | sl _ _ hr =>
    cases hr with
    | nil A c hc =>
      have : h = 0 := by simpa using h2
      subst this
      obtain rfl : l = 0 := by omega
      have hr := run_sliceAt hL hl (A := A) (len := 0) (cap := c) (w := w) (hlo.val ht) (hhi.val ht) h1 (Nat.zero_le _)
      exact ⟨.slice (if c = 0 then A else A.map (·.add (0 * sz))) (0 - 0) (c - 0), by simp only [execOp, ho, he, Sem.run_bind, Option.map_none, hr, Result.andThen_ok]; rfl, .sl _ _ (.nil _ c hc)⟩
    | cons _ ad c sz' f h0 hs' hc hm hok hlt hcell hrr =>
      obtain rfl : sz' = sz := by
        match xs, h0 with
        | y :: r, _ => exact (hs' y List.mem_cons_self).symm.trans (hsz y List.mem_cons_self)
      have hr := run_sliceAt hL hl (A := some ad) (len := xs.length) (cap := c) (w := w) (hlo.val ht) (hhi.val ht) h1 (by omega)
      refine ⟨_, by simp [execOp, ho, he, hr]; rfl, ?_⟩
      by_cases hz : h = l
      · have hnil : (xs.take h).drop l = [] := List.eq_nil_of_length_eq_zero (by rw [hlen]; omega)
        rw [hnil, show h - l = 0 by omega]
        exact .sl _ _ (.nil _ _ (by omega))
      · rw [if_neg (by omega)]
        have hget : ∀ i, i < h - l → ((xs.take h).drop l)[i]? = xs[l + i]? := fun i hi => by
          rw [List.getElem?_drop, List.getElem?_take_of_lt (by omega)]
        have hin : ∀ (i : Nat) x, ((xs.take h).drop l)[i]? = some x → xs[l + i]? = some x := fun i x hi => by
          have : i < h - l := by rw [← hlen]; exact (List.getElem?_eq_some_iff.1 hi).1
          rwa [hget i this] at hi
        have := RS.cons (ok := okOf T bs φ) (w := w) ((xs.take h).drop l) (ad.add (l * sz')) (c - l) sz' (fun i j => f (l + i) j) (fun e => by rw [e] at hlen; simp at hlen; omega)
          (fun x hx => hs' x (List.mem_of_mem_take (List.mem_of_mem_drop hx))) (by rw [hlen]; omega) (by omega) (by rw [add_block]; exact hok) (by rw [add_block]; exact hlt)
          (fun i x j y hi hj => by
            have := hcell (l + i) x j y (hin i x hi) hj
            rw [add_add]
            rwa [show l * sz' + (i * sz' + j) = (l + i) * sz' + j by rw [Nat.add_mul]; omega])
          (fun i x j y hi hj => hrr (l + i) x j y (hin i x hi) hj)
        rw [hlen] at this
        exact .sl _ _ this

/-- An array with room. -/
theorem op_makeS (hL : LayOk P L) {t e sz b n c : Nat} {k1 k2 : IntKind} {ln cp : Operand} {zs : List V} (ho : o.op = .makeSlice t ln cp) (hx : evO ts ln = some (.val (.int k1 n))) (hy : evO ts cp = some (.val (.int k2 c))) (hl : L.sl t = some (e, sz)) (hb : L.byt e = some b) (hz : L.zero e = some zs) (hzs : zs.length = sz) (hn : n ≤ c) (hc : c ≤ 140737488355328) (hcb : c * b ≤ 140737488355328) :
    OpOk P o (fun ts' bs' => ts' = putV o.dst (.win bs.length sz 0 n c) ts ∧ bs' = bs ++ [.cells (List.replicate c zs).flatten]) ts bs := by
  refine OpOk.make fun T φ w a hs ht => ?_
  obtain ⟨hu, hinf, hsz0⟩ := hL.sl t e sz hl
  obtain ⟨i, z, h1, h2, hzc⟩ := zero_cells hL hz
  obtain ⟨i', z', h1', h2', hby, _⟩ := hL.byt e b hb
  have hii : i = i' := Option.some.inj (h1.symm.trans h1')
  subst hii
  have hisz : i.size = sz := by rw [h1] at hinf; simpa using hinf
  have hzr := hzc (okOf T bs φ) w φ
  have hzl : z.cells.size = sz := by rw [hzr.1, hzs]
  have hxv := RV.bool_of (evO_sound ht hx)
  have hyv := RV.bool_of (evO_sound ht hy)
  have hlφ : (φ ++ [Value.pointer (some ⟨w.heap.size, 0, none⟩)])[bs.length]? = some (.pointer (some ⟨w.heap.size, 0, none⟩)) := by rw [← hs.len]; simp
  have wn : IntKind.i64.wrap (n : Int) = n := by
    unfold IntKind.wrap
    simp [IntKind.bits, IntKind.signed]
    omega
  have wc : IntKind.i64.wrap (c : Int) = c := by
    unfold IntKind.wrap
    simp [IntKind.bits, IntKind.signed]
    omega
  have hcb2 : ¬ ((b : Int) * c > 2 ^ 48) := by
    have : c * b ≤ 140737488355328 := hcb
    rw [Nat.mul_comm] at this
    have h48 : (2 : Int) ^ 48 = 281474976710656 := by decide
    rw [h48]
    have h5 : ((b * c : Nat) : Int) ≤ 140737488355328 := Int.ofNat_le.2 this
    rw [Int.natCast_mul] at h5
    omega
  have harr : (if c * sz = 0 then (pure #[] : Sem (Array Value)) else do pure (← zeroValue e).cells).run P w = .ok (if c * sz = 0 then #[] else z.cells) w := by
    split
    · rfl
    · simp [zeroValue, typeInfo, h1, h2]
  refine ⟨.slice (some ⟨w.heap.size, 0, none⟩) n c, .pointer (some ⟨w.heap.size, 0, none⟩), w.alloc (.cells ((Array.range (c * sz)).map ((if c * sz = 0 then #[] else z.cells)[· % (if c * sz = 0 then #[] else z.cells).size]!)) e), ?_, below_alloc1 w _, fun g hg => ?_, fun he => ⟨⟨w.heap.size, _, e, rfl, heap_alloc_new w _, by simp [hzs], fun j c0 hj => ?_⟩, ?_⟩⟩
  · have hroom : ¬ (c * i.bytes > roomBytes) := by
      rw [hby]
      simp only [roomBytes]
      omega
    have hlow : ¬ ((n : Int) < 0) := by omega
    have hclow : ¬ ((c : Int) < 0) := by omega
    have hlc : ¬ ((n : Int) > c) := by omega
    have hrun : (Instr.makeSlice t (.int k1 n) (.int k2 c)).run P w = .ok (.slice (some ⟨w.heap.size, 0, none⟩) n c) (w.alloc (.cells ((Array.range (c * sz)).map ((if c * sz = 0 then #[] else z.cells)[· % (if c * sz = 0 then #[] else z.cells).size]!)) e)) := by
      have hb2 : ¬ (281474976710656 < (i.bytes : Int) * c) := by
        have h48 : (2 : Int) ^ 48 = 281474976710656 := by decide
        rw [hby, ← h48]
        exact hcb2
      simp only [Instr.makeSlice, Sem.run_bind, run_underlying hu, Result.andThen_ok]
      by_cases h0 : c * sz = 0
      · simp [asInt, asIntOf, typeInfo, h1, wn, wc, hlow, hclow, hlc, hb2, askRoom, hroom, sizeOf, hisz, h0, newRow]
      · simp [asInt, asIntOf, typeInfo, h1, h2, wn, wc, hlow, hclow, hlc, hb2, askRoom, hroom, sizeOf, hisz, h0, newRow, zeroValue]
    simp [execOp, ho, hxv, hyv, hrun]
  · obtain rfl : w.heap.size = g := by simpa [blkOf] using hg
    exact Nat.le_refl _
  · have hjn : j < c * sz := by
      have := (List.getElem?_eq_some_iff.1 hj).1
      simpa [hzs] using this
    have h3 := rep_get zs c j c0 hj
    rw [hzs] at h3
    obtain ⟨k3, k4⟩ := hzr.2 _ c0 h3
    refine ⟨k3, ?_⟩
    have hm : j % sz < z.cells.size := by rw [hzl]; exact Nat.mod_lt _ hsz0
    have hne : c * sz ≠ 0 := by omega
    have e1 : ((Array.range (c * sz)).map ((if c * sz = 0 then #[] else z.cells)[· % (if c * sz = 0 then #[] else z.cells).size]!)).getD j Go.undef = z.cells.getD (j % sz) Go.undef := by
      simp only [if_neg hne]
      simp [Array.getD_eq_getD_getElem?, hjn, hzl]
      rw [getElem!_pos z.cells (j % sz) hm, getElem?_pos z.cells (j % sz) hm]
      rfl
    rw [e1]
    exact k4.ext he
  · have := RV.win (ok := okOf T (bs ++ [.cells (List.replicate c zs).flatten]) (φ ++ [Value.pointer (some ⟨w.heap.size, 0, none⟩)])) (w := w.alloc (.cells ((Array.range (c * sz)).map ((if c * sz = 0 then #[] else z.cells)[· % (if c * sz = 0 then #[] else z.cells).size]!)) e)) bs.length sz 0 n c w.heap.size hlφ hn (by simp only [maxLen]; omega)
    simpa using this
end

end Go.Proofs.YtiefcnghjcafbaaDoorV

/- The calculus of values: cells copied into an array of the call's own. -/
namespace Go.Proofs.YtiefcnghjcafbaaDoorV
open Go Go.RowKit

/-- Cells to be copied: the first m elements. -/
def rowsS (sz m : Nat) (xs : List (List S)) : Option (List V) := if m ≤ xs.length ∧ xs.all (fun x => x.length == sz) = true then some ((xs.take m).flatten.map S.up) else none
def srcs (bs : List Bx) (sz m : Nat) : V → Option (List V)
  | .nils => if m = 0 then some [] else none
  | .sl xs => rowsS sz m xs
  | .row j => match bs[j]? with
    | some (.row _ s xs) => if s = sz then rowsS sz m xs else none
    | _ => none
  | .win j s q n _ => if s = sz ∧ m ≤ n then match bs[j]? with
    | some (.cells cs) => if (q + m) * sz ≤ cs.length then some ((cs.drop (q * sz)).take (m * sz)) else none
    | _ => none
    else none
  | _ => none
def lenV (bs : List Bx) : V → Option Nat
  | .nils => some 0
  | .sl xs => some xs.length
  | .row j => match bs[j]? with
    | some (.row _ _ xs) => some xs.length
    | _ => none
  | .win _ _ _ n _ => some n
  | _ => none

theorem flat_get {α : Type} {sz : Nat} : ∀ {xs : List (List α)}, (∀ x ∈ xs, x.length = sz) → ∀ (i j : Nat), j < sz → xs.flatten[i * sz + j]? = (xs[i]?).bind (·[j]?)
  | [], _, i, j, _ => by simp
  | x :: xs, h, 0, j, hj => by
    have hx := h x List.mem_cons_self
    rw [List.flatten_cons, Nat.zero_mul, Nat.zero_add, List.getElem?_append_left (by omega)]
    rfl
  | x :: xs, h, i + 1, j, hj => by
    have hx := h x List.mem_cons_self
    rw [List.flatten_cons, List.getElem?_append_right (by rw [Nat.add_mul]; omega)]
    have := flat_get (fun y hy => h y (List.mem_cons_of_mem _ hy)) i j hj (xs := xs)
    rw [show (i + 1) * sz + j - x.length = i * sz + j by rw [Nat.add_mul]; omega, this]
    simp
theorem flat_len {α : Type} {sz : Nat} : ∀ {xs : List (List α)}, (∀ x ∈ xs, x.length = sz) → xs.flatten.length = xs.length * sz
  | [], _ => by simp
  | x :: xs, h => by
    have hx := h x List.mem_cons_self
    rw [List.flatten_cons, List.length_append, flat_len fun y hy => h y (List.mem_cons_of_mem _ hy), hx, List.length_cons, Nat.add_mul]
    omega

section
variable {P : Program} {T : Nat → Prop} {bs : List Bx} {φ : List Value} {w : World}

theorem lenV_sound (hs : Sim T bs φ w) {x : V} {u : Value} {n : Nat} (h : RV (okOf T bs φ) w φ x u) (he : lenV bs x = some n) : ∃ A c, u = .slice A n c := by
  cases x with
  | win k sz q m c =>
    cases h with
    | win _ _ _ _ _ g hk hn hm =>
      obtain rfl := Option.some.inj he
      exact ⟨_, _, rfl⟩
  | nils => exact view_len hs h (by obtain rfl := Option.some.inj he; rfl) (xs := []) |> fun ⟨A, c, e⟩ => ⟨A, c, by obtain rfl := Option.some.inj he; exact e⟩
  | sl xs =>
    obtain rfl := Option.some.inj he
    exact view_len hs h rfl
  | row k =>
    simp only [lenV] at he
    split at he
    · rename_i e sz xs hb
      obtain rfl := Option.some.inj he
      exact view_len hs h (by simp [view, hb])
    · cases he
  | _ => cases he

/-- What is copied, cell by cell. -/
theorem srcs_sound (hs : Sim T bs φ w) {x : V} {u : Value} {sz m : Nat} {l : List V} (h : RV (okOf T bs φ) w φ x u) (he : srcs bs sz m x = some l) :
    l.length = m * sz ∧ ∃ vals : List Value, vals.length = m * sz ∧ (Builtin.firstCells sz m u).run P w = .ok vals.toArray w ∧ (∀ v ∈ vals, v.oneCell' = true) ∧ ∀ (j : Nat) c, l[j]? = some c → c.atomic = true ∧ RV (okOf T bs φ) w φ c (vals.getD j Go.undef) := by
  have none0 : ∀ A n c, u = .slice A n c → ∃ vals : List Value, vals.length = 0 * sz ∧ (Builtin.firstCells sz 0 u).run P w = .ok vals.toArray w ∧ (∀ v ∈ vals, v.oneCell' = true) ∧ ∀ (j : Nat) c, ([] : List V)[j]? = some c → c.atomic = true ∧ RV (okOf T bs φ) w φ c (vals.getD j Go.undef) := by
    rintro A n c rfl
    refine ⟨[], by simp, ?_, fun v hv => (by cases hv), fun j c h => by simp at h⟩
    cases A with
    | none => simp [Builtin.firstCells]
    | some a => exact run_firstCells_some w sz 0 a n c [] (by simp) (fun j v h => by simp at h)
  have rows : ∀ xs, view bs x = some xs → rowsS sz m xs = some l → l.length = m * sz ∧ ∃ vals : List Value, vals.length = m * sz ∧ (Builtin.firstCells sz m u).run P w = .ok vals.toArray w ∧ (∀ v ∈ vals, v.oneCell' = true) ∧ ∀ (j : Nat) c, l[j]? = some c → c.atomic = true ∧ RV (okOf T bs φ) w φ c (vals.getD j Go.undef) := by
    intro xs hv hr
    unfold rowsS at hr
    split at hr
    · rename_i hc
      obtain ⟨hm, hall⟩ := hc
      obtain rfl := Option.some.inj hr
      have hsz : ∀ y ∈ xs, y.length = sz := fun y hy => by
        have := List.all_eq_true.1 hall y hy
        simpa using this
      have hsz2 : ∀ y ∈ xs.take m, y.length = sz := fun y hy => hsz y (List.mem_of_mem_take hy)
      have hlen : ((xs.take m).flatten.map S.up).length = m * sz := by
        rw [List.length_map, flat_len hsz2, List.length_take, Nat.min_eq_left hm]
      refine ⟨hlen, ?_⟩
      by_cases hne : xs = []
      · subst hne
        obtain rfl : m = 0 := by simpa using hm
        obtain ⟨A, c, e⟩ := view_len hs h hv
        exact none0 A _ c e
      · obtain ⟨ad, c, news, rfl, h1, h2, h3, h4⟩ := src_cells hs h hv hne hsz
        have hle : m * sz ≤ xs.length * sz := Nat.mul_le_mul_right _ hm
        refine ⟨news.take (m * sz), by rw [List.length_take, h1]; omega, run_firstCells_some w sz m ad _ c _ (by rw [List.length_take, h1]; omega) (fun j v hj => ?_), fun v hv => h3 v (List.mem_of_mem_take hv), fun q c0 hq => ?_⟩
        · have hlt : j < m * sz := by
            have := (List.getElem?_eq_some_iff.1 hj).1
            rw [List.length_take] at this
            omega
          rw [List.getElem?_take_of_lt hlt] at hj
          exact h2 j v hj
        · have hlt : q < m * sz := by rw [← hlen]; exact (List.getElem?_eq_some_iff.1 hq).1
          obtain ⟨d1, d2, d3⟩ := div_mul_mod hlt
          rw [List.getElem?_map] at hq
          obtain ⟨y, hy, rfl⟩ := Option.map_eq_some_iff.1 hq
          rw [← d3, flat_get hsz2 _ _ d2, List.getElem?_take_of_lt d1] at hy
          obtain ⟨r, hr1, hr2⟩ := Option.bind_eq_some_iff.1 hy
          have := h4 _ r _ y hr1 hr2
          rw [d3] at this
          refine ⟨S.up_atomic y, ?_⟩
          have e : (news.take (m * sz)).getD q Go.undef = news.getD q Go.undef := by
            simp only [List.getD_eq_getElem?_getD]
            rw [List.getElem?_take_of_lt hlt]
          rw [e]
          exact this.up
    · cases hr
  cases x with
  | nils =>
    simp only [srcs] at he
    split at he
    · rename_i hm
      subst hm
      obtain rfl := Option.some.inj he
      cases h with
      | nils => exact ⟨by simp, none0 _ _ _ rfl⟩
    · cases he
  | sl xs => exact rows xs rfl he
  | row k =>
    simp only [srcs] at he
    split at he
    · rename_i e s xs hb
      split at he
      · exact rows xs (by simp [view, hb]) he
      · cases he
    · cases he
  | win k s q n c =>
    simp only [srcs] at he
    split at he
    · rename_i hc
      obtain ⟨rfl, hmn⟩ := hc
      split at he
      · rename_i cs hb
        split at he
        · rename_i hle
          obtain rfl := Option.some.inj he
          cases h with
          | win _ _ _ _ _ g hk hn hm =>
            obtain ⟨v', hv', g', arr, t, rfl, hh, hsz, hcell⟩ := hs.box k _ hb
            obtain rfl : g = g' := by
              have := hk.symm.trans hv'
              simpa using this
            have hmul : q * s + m * s ≤ cs.length := by rw [← Nat.add_mul]; exact hle
            refine ⟨by simp; omega, (arr.toList.drop (q * s)).take (m * s), by simp; omega, run_firstCells_some w s m _ _ c _ (by simp; omega) (fun j v hj => ?_), fun v hv => ?_, fun j c0 hj => ?_⟩
            · have hlt : j < m * s := by
                have := (List.getElem?_eq_some_iff.1 hj).1
                simp at this
                omega
              rw [List.getElem?_take_of_lt hlt, List.getElem?_drop] at hj
              rw [add_plain, cell_of hh]
              simpa using hj
            · obtain ⟨j, hj⟩ := List.mem_iff_getElem?.1 hv
              have hlt : j < m * s := by
                have := (List.getElem?_eq_some_iff.1 hj).1
                simp at this
                omega
              rw [List.getElem?_take_of_lt hlt, List.getElem?_drop] at hj
              obtain ⟨c0, hc0⟩ : ∃ c0, cs[q * s + j]? = some c0 := ⟨_, List.getElem?_eq_getElem (by omega)⟩
              obtain ⟨a1, a2⟩ := hcell _ c0 hc0
              have e : arr.getD (q * s + j) Go.undef = v := by
                have : arr[q * s + j]? = some v := by simpa using hj
                simp [Array.getD_eq_getD_getElem?, this]
              rw [e] at a2
              exact (a2.atom a1).1
            · have hlt : j < m * s := by
                have := (List.getElem?_eq_some_iff.1 hj).1
                simp at this
                omega
              rw [List.getElem?_take_of_lt hlt, List.getElem?_drop] at hj
              obtain ⟨a1, a2⟩ := hcell _ c0 hj
              refine ⟨a1, ?_⟩
              have e : ((arr.toList.drop (q * s)).take (m * s)).getD j Go.undef = arr.getD (q * s + j) Go.undef := by
                simp only [List.getD_eq_getElem?_getD, Array.getD_eq_getD_getElem?]
                rw [List.getElem?_take_of_lt hlt, List.getElem?_drop]
                simp
              rw [e]
              exact a2
        · cases he
      · cases he
    · cases he
  | _ => cases he
end

section
variable {P : Program} {L : Lay} {ts : List V} {bs : List Bx} {o : Oper}

/-- An operation that writes a box and yields a value. -/
theorem OpOk.writeV {k : Nat} {b b' : Bx} {x : V} (hb : bs[k]? = some b) (hl : b.live = true) (h : ∀ (T : Nat → Prop) φ w a v, Sim T bs φ w → Tm (okOf T bs φ) w φ ts a → φ[k]? = some v → BoxOk (okOf T bs φ) φ w b v → ∃ w' u, (execOp a.eval o).run P w = .ok (.value u) w' ∧
      w'.os = w.os ∧ w'.tape = w.tape ∧ w'.output = w.output ∧ w.heap.size ≤ w'.heap.size ∧ (∀ g, g < w.heap.size → blkOf v ≠ some g → w'.heap[g]? = w.heap[g]?) ∧
      (Ext bs φ w (bs.set k b') φ w' → BoxOk (okOf T (bs.set k b') φ) φ w' b' v ∧ RV (okOf T (bs.set k b') φ) w' φ x u)) :
    OpOk P o (fun ts' bs' => ts' = putV o.dst x ts ∧ bs' = bs.set k b') ts bs := by
  intro T φ w a hs ht K Qx hK
  obtain ⟨v, hv, hbo⟩ := hs.box k b hb
  obtain ⟨w', u, hr, h1, h2, h3, h4, h5, h6⟩ := h T φ w a v hs ht hv hbo
  unfold Oper.wp
  rw [hr]
  have he := ext_set (b' := b') hb hl hv h1 h2 h3 h4 h5
  obtain ⟨h7, h8⟩ := h6 he
  exact hK _ _ _ _ _ ⟨rfl, rfl⟩ he (hs.put hb hl hv he h5 h7) ((ht.ext he).put h8 _)

/-- Cells of a box, some written anew. -/
theorem cells_spl {T : Nat → Prop} {φ : List Value} {w w' : World} {g : Nat} {arr : Array Value} {e : TypeId} {cs l : List V} {vals : List Value} {off k : Nat} (hsz : arr.size = cs.length) (hcell : ∀ (j : Nat) c, cs[j]? = some c → c.atomic = true ∧ RV (okOf T bs φ) w φ c (arr.getD j Go.undef))
    (hll : vals.length = l.length) (hlv : ∀ (j : Nat) c, l[j]? = some c → c.atomic = true ∧ RV (okOf T bs φ) w φ c (vals.getD j Go.undef)) (hb : off + l.length ≤ cs.length) (k2 : w'.heap[g]? = some (.cells (spl arr.toList off vals).toArray e (0, 0)))
    (he : Ext bs φ w (bs.set k (.cells (spl cs off l))) φ w') : BoxOk (okOf T (bs.set k (.cells (spl cs off l))) φ) φ w' (.cells (spl cs off l)) (.pointer (some ⟨g, 0, none⟩)) := by
  have e2 : off + vals.length ≤ arr.toList.length := by simp; omega
  refine ⟨g, _, e, rfl, k2, ?_, fun j c hj => ?_⟩
  · rw [List.size_toArray, spl_length e2, spl_length hb]
    simpa using hsz
  · rw [spl_get hb] at hj
    have hg2 : ∀ u, (spl arr.toList off vals)[j]? = some u → (spl arr.toList off vals).toArray.getD j Go.undef = u := by
      intro u hu
      simp [Array.getD_eq_getD_getElem?, hu]
    by_cases hin : off ≤ j ∧ j < off + l.length
    · rw [if_pos hin] at hj
      obtain ⟨h1, h2⟩ := hlv _ c hj
      refine ⟨h1, ?_⟩
      rw [hg2 (vals.getD (j - off) Go.undef)]
      · exact h2.ext he
      · rw [spl_get e2, if_pos (by omega)]
        have : j - off < vals.length := by omega
        simp [List.getD_eq_getElem?_getD, this]
    · rw [if_neg hin] at hj
      obtain ⟨h1, h2⟩ := hcell _ c hj
      refine ⟨h1, ?_⟩
      rw [hg2 (arr.getD j Go.undef)]
      · exact h2.ext he
      · rw [spl_get e2, if_neg (by omega)]
        have : j < arr.size := by rw [hsz]; exact (List.getElem?_eq_some_iff.1 hj).1
        simp [Array.getD, this]

/-- Cells are copied. -/
theorem op_copyW (hL : LayOk P L) {t t' e sz k q n c len : Nat} {d0 s0 : Operand} {x : V} {cs l : List V} (ho : o.op = .call { callee := .builtin .copy, args := #[d0, s0], argTypes := #[t, t'] }) (hd : evO ts d0 = some (.win k sz q n c)) (hx : evO ts s0 = some x) (hl : L.sl t = some (e, sz)) (hm : lenV bs x = some len) (hsr : srcs bs sz (Nat.min len n) x = some l) (hb : bs[k]? = some (.cells cs)) (hle : (q + n) * sz ≤ cs.length) :
    OpOk P o (fun ts' bs' => ts' = putV o.dst (.val (.int .i64 (Nat.min len n : Nat))) ts ∧ bs' = bs.set k (.cells (spl cs (q * sz) l))) ts bs := by
  refine OpOk.writeV hb rfl fun T φ w a v hs ht hv hbo => ?_
  obtain ⟨g, arr, e', rfl, hh, hsz, hcell⟩ := hbo
  obtain ⟨hu, hinf, hsz0⟩ := hL.sl t e sz hl
  have h1 := evO_sound ht hd
  have h2 := evO_sound ht hx
  generalize hed : a.eval d0 = u1 at h1
  generalize hes : a.eval s0 = u2 at h2
  obtain ⟨A, c2, rfl⟩ := lenV_sound hs h2 hm
  obtain ⟨k1, vals, k2, k3, k4, k5⟩ := srcs_sound (P := P) hs h2 hsr
  cases h1 with
  | win _ _ _ _ _ g' hk hn hmx =>
    obtain rfl : g = g' := by
      have := hv.symm.trans hk
      simpa using this
    have hmin : Nat.min len n ≤ n := Nat.min_le_right _ _
    have hmul : q * sz + Nat.min len n * sz ≤ cs.length := by
      have := Nat.mul_le_mul_right sz (Nat.add_le_add_left hmin q)
      rw [Nat.add_mul] at this
      omega
    obtain ⟨w', s1, s2, s3, s4, s5, s6, s7⟩ := store_cells P g (q * sz) e' vals 0 w arr hh (by rw [k2, hsz]; omega) k4
    refine ⟨w', .int .i64 (Nat.min len n : Nat), ?_, s3, s4, s5, by omega, fun q' hq hne => s7 q' (fun e => hne (by rw [e]; rfl)), fun he => ⟨?_, .val _ rfl⟩⟩
    · cases hq : P.info? e with
      | none => rw [hq] at hinf; cases hinf
      | some inf =>
        rw [hq] at hinf
        have hi2 : inf.size = sz := by simpa using hinf
        have hrun : (Builtin.copy_ #[t, t'] o.type #[.slice (some ⟨g, q * sz, none⟩) n c, .slice A len c2]).run P w = .ok (.int .i64 (Nat.min len n : Nat)) w' := by
          simp [Builtin.copy_, run_underlying hu, Builtin.lenOf, sizeOf, typeInfo, hq, hi2, k3, s1, goInt]
        simp [execOp, ho, resolve, hed, hes, invoke, builtin, hrun, Result.andThen]
    · rw [Nat.add_zero] at s2
      exact cells_spl hsz hcell (by rw [k1, k2]) k5 (by rw [k1]; exact hmul) s2 he

/-- Elements are appended where there is room. -/
theorem op_appW (hL : LayOk P L) {t e sz k q n c m : Nat} {d0 s0 : Operand} {x : V} {cs l : List V} (ho : o.op = .call { callee := .builtin .append, args := #[d0, s0], argTypes := #[t, t] }) (hd : evO ts d0 = some (.win k sz q n c)) (hx : evO ts s0 = some x) (hl : L.sl t = some (e, sz)) (hm : lenV bs x = some m) (hsr : srcs bs sz m x = some l) (hroom : n + m ≤ c) (hb : bs[k]? = some (.cells cs)) (hle : (q + c) * sz ≤ cs.length) :
    OpOk P o (fun ts' bs' => ts' = putV o.dst (.win k sz q (n + m) c) ts ∧ bs' = bs.set k (.cells (spl cs ((q + n) * sz) l))) ts bs := by
  refine OpOk.writeV hb rfl fun T φ w a v hs ht hv hbo => ?_
  obtain ⟨g, arr, e', rfl, hh, hsz, hcell⟩ := hbo
  obtain ⟨hu, hinf, hsz0⟩ := hL.sl t e sz hl
  have h1 := evO_sound ht hd
  have h2 := evO_sound ht hx
  generalize hed : a.eval d0 = u1 at h1
  generalize hes : a.eval s0 = u2 at h2
  obtain ⟨A, c2, rfl⟩ := lenV_sound hs h2 hm
  obtain ⟨k1, vals, k2, k3, k4, k5⟩ := srcs_sound (P := P) hs h2 hsr
  cases h1 with
  | win _ _ _ _ _ g' hk hn hmx =>
    obtain rfl : g = g' := by
      have := hv.symm.trans hk
      simpa using this
    have hmul : (q + n) * sz + m * sz ≤ cs.length := by
      have := Nat.mul_le_mul_right sz (Nat.add_le_add_left hroom q)
      rw [← Nat.add_mul]
      rw [← Nat.add_assoc] at this
      omega
    obtain ⟨w', s1, s2, s3, s4, s5, s6, s7⟩ := store_cells P g ((q + n) * sz) e' vals 0 w arr hh (by rw [k2, hsz]; omega) k4
    refine ⟨w', .slice (some ⟨g, q * sz, none⟩) (n + m) c, ?_, s3, s4, s5, by omega, fun q' hq hne => s7 q' (fun e => hne (by rw [e]; rfl)), fun he => ⟨?_, .win k sz q _ c g hk hroom hmx⟩⟩
    · cases hq : P.info? e with
      | none => rw [hq] at hinf; cases hinf
      | some inf =>
        rw [hq] at hinf
        have hi2 : inf.size = sz := by simpa using hinf
        have ha : (⟨g, q * sz, none⟩ : Addr).add (n * sz) = ⟨g, (q + n) * sz, none⟩ := by rw [add_plain, Nat.add_mul]
        have hrun : (Builtin.append_ #[t, t] o.type #[.slice (some ⟨g, q * sz, none⟩) n c, .slice A m c2]).run P w = .ok (.slice (some ⟨g, q * sz, none⟩) (n + m) c) w' := by
          simp [Builtin.append_, run_underlying hu, Builtin.lenOf, sizeOf, typeInfo, hq, hi2, hroom, k3, ha, s1]
        simp [execOp, ho, resolve, hed, hes, invoke, builtin, hrun, Result.andThen]
    · rw [Nat.add_zero] at s2
      exact cells_spl hsz hcell (by rw [k1, k2]) k5 (by rw [k1]; exact hmul) s2 he
end

end Go.Proofs.YtiefcnghjcafbaaDoorV

/- The calculus of values: smallest numbers; calls of functions that the model knows by itself. -/
namespace Go.Proofs.YtiefcnghjcafbaaDoorV
open Go Go.RowKit

section
variable {P : Program} {L : Lay} {ts : List V} {bs : List Bx} {o : Oper}

theorem op_min {x0 y0 : Operand} {tys : Array TypeId} {k k' : IntKind} {a b : Int} (ho : o.op = .call { callee := .builtin .min, args := #[x0, y0], argTypes := tys }) (hx : evO ts x0 = some (.val (.int k a))) (hy : evO ts y0 = some (.val (.int k' b))) :
    OpOk P o (fun ts' bs' => ts' = putV o.dst (.val (.int k (if b < a then b else a))) ts ∧ bs' = bs) ts bs := by
  refine OpOk.value fun T φ w a' hs ht => ⟨_, ?_, .val _ rfl⟩
  have h1 := RV.bool_of (evO_sound ht hx)
  have h2 := RV.bool_of (evO_sound ht hy)
  simp [execOp, ho, resolve, h1, h2, invoke, builtin, Builtin.min_, Builtin.min2, Result.andThen]

/-- Shifts. -/
def evS (op : BinOp) : Value → Value → Option Value
  | .int k a, .int _ b => match op with
    | .shr => if b < 0 then none else some (.int k (a.fdiv (2 ^ (min b.toNat k.bits))))
    | .shl => if b < 0 then none else some (.int k (k.wrap (a * 2 ^ (min b.toNat k.bits))))
    | _ => none
  | _, _ => none
theorem op_shift {op : BinOp} {t t' : TypeId} {x0 y0 : Operand} {x y v : Value} (ho : o.op = .binOp op t x0 y0 t') (hx : evO ts x0 = some (.val x)) (hy : evO ts y0 = some (.val y)) (h : evS op x y = some v) :
    OpOk P o (fun ts' bs' => ts' = putV o.dst (.val v) ts ∧ bs' = bs) ts bs := by
  unfold evS at h
  split at h
  · rename_i k a k' b
    split at h
    · split at h
      · cases h
      · rename_i hb
        obtain rfl := Option.some.inj h
        refine OpOk.value fun T φ w a' hs ht => ⟨_, ?_, .val _ rfl⟩
        have h1 := RV.bool_of (evO_sound ht hx)
        have h2 := RV.bool_of (evO_sound ht hy)
        simp [execOp, ho, h1, h2, eqGuard, binOp, Op.shift, hb]
    · split at h
      · cases h
      · rename_i hb
        obtain rfl := Option.some.inj h
        refine OpOk.value fun T φ w a' hs ht => ⟨_, ?_, .val _ rfl⟩
        have h1 := RV.bool_of (evO_sound ht hx)
        have h2 := RV.bool_of (evO_sound ht hy)
        simp [execOp, ho, h1, h2, eqGuard, binOp, Op.shift, hb]
    · cases h
  · cases h

/-- What a function that the model knows by itself yields. -/
def ExtOk (P : Program) (f : FuncId) (vs : List V) (v : V) : Prop := ∀ (ok : Nat → Prop) (w : World) (φ : List Value) vargs, RVs ok w φ vs vargs → ∃ u, (callFunc f vargs).run P w = .ok (.value u) w ∧ RV ok w φ v u

/-- The same, where the boxes are what they say. -/
def ExtOkB (P : Program) (f : FuncId) (vs : List V) (bs : List Bx) (v : V) : Prop := ∀ (T : Nat → Prop) (w : World) (φ : List Value) vargs, Sim T bs φ w → RVs (okOf T bs φ) w φ vs vargs → ∃ u, (callFunc f vargs).run P w = .ok (.value u) w ∧ RV (okOf T bs φ) w φ v u
theorem ExtOk.b {P : Program} {f : FuncId} {vs : List V} {bs : List Bx} {v : V} (h : ExtOk P f vs v) : ExtOkB P f vs bs v := fun _ w φ vargs _ ha => h _ w φ vargs ha

theorem op_callE {f0 : Operand} {args : Array Operand} {tys : Array TypeId} {f : FuncId} {vs cap : List V} {v : V} (ho : o.op = .call { callee := .value f0, args := args, argTypes := tys }) (hf : evO ts f0 = some (.fn f cap)) (hv : evOs ts args.toList = some vs) (h : ExtOkB P f (vs ++ cap) bs v) :
    OpOk P o (fun ts' bs' => ts' = putV o.dst v ts ∧ bs' = bs) ts bs := by
  refine OpOk.value fun T φ w a hs ht => ?_
  have h1 := evO_sound ht hf
  have h2 := evOs_sound ht hv
  generalize he : a.eval f0 = u at h1
  cases h1 with
  | fn f cap arr hl hc =>
    have hm : (args.toList.map a.eval).toArray = args.map a.eval := by apply Array.toList_inj.1; simp
    rw [hm] at h2
    have h3 : RVs (okOf T bs φ) w φ (vs ++ cap) (args.map a.eval ++ arr) := by
      obtain ⟨k1, k2⟩ := h2
      refine ⟨by simp only [List.length_append, Array.size_append]; omega, fun i c hi => ?_⟩
      rcases Nat.lt_or_ge i vs.length with hlt | hge
      · rw [List.getElem?_append_left hlt] at hi
        have := k2 i c hi
        rwa [Array.getD_eq_getD_getElem?, Array.getElem?_append_left (by omega), ← Array.getD_eq_getD_getElem?]
      · rw [List.getElem?_append_right hge] at hi
        have := hc _ c hi
        rwa [Array.getD_eq_getD_getElem?, Array.getElem?_append_right (by omega), ← k1, ← Array.getD_eq_getD_getElem?]
    obtain ⟨u, hu, hr⟩ := h T _ _ _ hs h3
    exact ⟨u, by simp [execOp, ho, resolve, he, Deferred.ofValue, invoke, hu], hr⟩

theorem ext_two {f : FuncId} {x y : Value} {v : Value} (hv : scalar v = true) (h : ∀ w, (callFunc f #[x, y]).run P w = .ok (.value v) w) : ExtOk P f [.val x, .val y] (.val v) := by
  intro ok w φ vargs hr
  obtain ⟨k1, k2⟩ := hr
  have e1 := RV.bool_of (k2 0 _ rfl)
  have e2 := RV.bool_of (k2 1 _ rfl)
  have : vargs = #[x, y] := by
    apply Array.ext
    · simpa using k1.symm
    · intro i h1 h2
      have h2 : i < 2 := by simpa using h2
      rcases i with _ | _ | i
      · simpa [Array.getD, h1] using e1
      · simpa [Array.getD, h1] using e2
      · omega
  subst this
  exact ⟨v, h w, .val v hv⟩

/-- Functions on bytes that the model knows by itself. -/
inductive Ext2 where
  | idx
  | cnt

def extR : Ext2 → List V → Option V
  | .idx, [.val (.string s), .val (.int .u8 c)] => some (.val (.int .i64 (firstIdx s c.toNat.toUInt8)))
  | .cnt, [.val (.string s), .val (.int .u8 c)] => some (.val (.int .i64 (Lib.countByte s.data.toList c.toNat.toUInt8)))
  | _, _ => none

def ExtFn (P : Program) (f : FuncId) : Ext2 → Prop
  | .idx => ∀ args w, (callFunc f args).run P w = ((Extern.BytealgIndexByte.indexByte args).run P w).andThen fun v w' => .ok (.value v) w'
  | .cnt => ∀ args w, (callFunc f args).run P w = ((Extern.BytealgCount.count args).run P w).andThen fun v w' => .ok (.value v) w'

theorem extR_sound {f : FuncId} {k : Ext2} {vs : List V} {v : V} (hf : ExtFn P f k) (h : extR k vs = some v) : ExtOk P f vs v := by
  unfold extR at h
  split at h
  · obtain rfl := Option.some.inj h
    exact ext_two rfl fun w => by rw [hf, run_indexByte_string]; rfl
  · obtain rfl := Option.some.inj h
    exact ext_two rfl fun w => by rw [hf, Lib.run_countString]; rfl
  · cases h
end

end Go.Proofs.YtiefcnghjcafbaaDoorV
