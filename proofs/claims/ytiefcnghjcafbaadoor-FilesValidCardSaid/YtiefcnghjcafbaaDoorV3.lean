/- The calculus of values, third text: the operations that make no call, each as a step on values and boxes, held against the model's rules. -/
import Derived.Deep.MidRow
import Derived.Laws.Small
import Derived.Laws.Strings
import Derived.Laws.Concat
import Derived.Laws.Slices
import Derived.ChangeKeysEq
import Derived.Test.YtiefcnghjcafbaaDoorV2
namespace Go.Proofs.YtiefcnghjcafbaaDoorV
open Go Go.RowKit

/-- What is told of the program's types, as tables. -/
structure Lay where
  sl : TypeId → Option (TypeId × Nat)
  off : TypeId → Option (List (Nat × Nat))
  cel : TypeId → Option (Nat × Bool)
  zero : TypeId → Option (List V)
  byt : TypeId → Option Nat
  bool : TypeId → Bool
  str : TypeId → Bool
  int : TypeId → Option IntKind
  eqs : TypeId → Option (List TypeId)
  arr : TypeId → Option (Nat × Nat)

structure LayOk (P : Program) (L : Lay) : Prop where
  sl : ∀ t e n, L.sl t = some (e, n) → P.underlying t = some (.slice e) ∧ (P.info? e).map (·.size) = some n ∧ 0 < n
  off0 : ∀ t l, L.off t = some l → (match P.underlying t with | some (.struct fs) => some (fs.toList.map fun f => (P.info? f.type).map fun i => (f.offset, i.size)) | _ => none) = some (l.map some)
  cel0 : ∀ t n b, L.cel t = some (n, b) → (P.underlying t).map (fun d => d.isRow) = some b ∧ (P.info? t).map (·.size) = some n ∧ (b = false → n = 1)
  zero0 : ∀ t l, L.zero t = some l → ((P.info? t).bind (·.zero)).map (fun z => z.cells.toList.map conV) = some (l.map some)
  byt0 : ∀ e n, L.byt e = some n → (P.info? e).map (fun i => (i.zero.map (fun z => decide (z.cells.size = i.size)), i.bytes)) = some (some true, n)
  bool : ∀ t, L.bool t = true → P.underlying t = some .bool
  str : ∀ t, L.str t = true → P.underlying t = some .string
  int : ∀ t k, L.int t = some k → P.underlying t = some (.int k)
  eqs : ∀ t l, L.eqs t = some l → P.stoodInHeld t = false ∧ P.eqGuardType P.depth t = false ∧ (match P.underlying t with | some (.struct fs) => some (fs.toList.map fun f => (f.name != "_", f.type, f.offset)) | _ => none) = some ((l.zipIdx 0).map fun p => (true, p.1, p.2))
  arr0 : ∀ t n k, L.arr t = some (n, k) → (match P.underlying t with | some (.array n e) => (P.info? e).map fun i => (n, i.size) | _ => none) = some (n, k)

section
variable {P : Program} {L : Lay}
theorem LayOk.off (h : LayOk P L) : ∀ t l, L.off t = some l → ∃ fs : Array Field, P.underlying t = some (.struct fs) ∧ (fs.toList.map fun f => (P.info? f.type).map fun i => (f.offset, i.size)) = l.map some := by
  intro t l hl
  have h1 := h.off0 t l hl
  split at h1
  · rename_i fs hu
    exact ⟨fs, hu, Option.some.inj h1⟩
  · cases h1
theorem LayOk.arr (h : LayOk P L) : ∀ t n k, L.arr t = some (n, k) → ∃ e i, P.underlying t = some (.array n e) ∧ P.info? e = some i ∧ i.size = k := by
  intro t n k hl
  have h1 := h.arr0 t n k hl
  split at h1
  · rename_i n' e hu
    obtain ⟨i, hi, he⟩ := Option.map_eq_some_iff.1 h1
    cases he
    exact ⟨e, i, hu, hi, rfl⟩
  · cases h1
theorem LayOk.cel (h : LayOk P L) : ∀ t n b, L.cel t = some (n, b) → ∃ d, P.underlying t = some d ∧ d.isRow = b ∧ (P.info? t).map (·.size) = some n ∧ (b = false → n = 1) := by
  intro t n b hl
  obtain ⟨h1, h2⟩ := h.cel0 t n b hl
  obtain ⟨d, hd, hb⟩ := Option.map_eq_some_iff.1 h1
  exact ⟨d, hd, hb, h2⟩
theorem LayOk.zero (h : LayOk P L) : ∀ t l, L.zero t = some l → ∃ i z, P.info? t = some i ∧ i.zero = some z ∧ z.cells.toList.map conV = l.map some := by
  intro t l hl
  obtain ⟨z, hz, he⟩ := Option.map_eq_some_iff.1 (h.zero0 t l hl)
  obtain ⟨i, hi, hz2⟩ := Option.bind_eq_some_iff.1 hz
  exact ⟨i, z, hi, hz2, he⟩
theorem LayOk.byt (h : LayOk P L) : ∀ e n, L.byt e = some n → ∃ i z, P.info? e = some i ∧ i.zero = some z ∧ i.bytes = n ∧ z.cells.size = i.size := by
  intro e n hl
  obtain ⟨i, hi, he⟩ := Option.map_eq_some_iff.1 (h.byt0 e n hl)
  simp only [Prod.mk.injEq] at he
  obtain ⟨z, hz, hd⟩ := Option.map_eq_some_iff.1 he.1
  exact ⟨i, z, hi, hz, he.2, of_decide_eq_true hd⟩
end

def putV (d : Option Tmp) (v : V) (ts : List V) : List V := match d with
  | none => ts
  | some t => ts.set t v

theorem getD_set {tmps : Array Value} {t i : Nat} {v : Value} (h : t < tmps.size) : (tmps.setIfInBounds t v).getD i Go.undef = if t = i then v else tmps.getD i Go.undef := by
  simp only [Array.getD_eq_getD_getElem?, Array.getElem?_setIfInBounds]
  by_cases hi : t = i
  · subst hi
    simp [h]
  · simp [hi]

theorem Tm.put {ok : Nat → Prop} {w : World} {φ : List Value} {ts : List V} {a : Act} (h : Tm ok w φ ts a) {x : V} {v : Value} (hr : RV ok w φ x v) (d : Option Tmp) : Tm ok w φ (putV d x ts) (a.put d v) := by
  cases d with
  | none => exact h
  | some t =>
    obtain ⟨h1, h2, h3⟩ := h
    refine ⟨by simp [putV, Act.put, h1], h2, fun i c hc => ?_⟩
    have hc' : (ts.set t x)[i]? = some c := hc
    show RV ok w φ c ((a.tmps.setIfInBounds t v).getD i Go.undef)
    by_cases hi : t = i
    · subst hi
      have hl : t < ts.length := by
        have := (List.getElem?_eq_some_iff.1 hc').1
        simpa using this
      rw [List.getElem?_set_self hl] at hc'
      obtain rfl := Option.some.inj hc'
      have hl2 : t < a.tmps.size := h1 ▸ hl
      rw [getD_set hl2, if_pos rfl]
      exact hr
    · rw [List.getElem?_set_ne hi] at hc'
      have := h3 i c hc'
      rcases Nat.lt_or_ge t a.tmps.size with hl | hl
      · rw [getD_set hl, if_neg hi]
        exact this
      · rw [Array.setIfInBounds_eq_of_size_le hl]
        exact this

theorem rv_skip {ok : Nat → Prop} {w : World} {φ : List Value} : RV ok w φ (.tup []) Go.undef := .tup [] #[] rfl (fun i c hc => by simp at hc)

section
variable {P : Program} {L : Lay} {N : List V → List Bx → Prop} {ts : List V} {bs : List Bx} {o : Oper}

/-- An operation that yields a value, the world as it is. -/
theorem OpOk.value {x : V} (h : ∀ (T : Nat → Prop) φ w a, Sim T bs φ w → Tm (okOf T bs φ) w φ ts a → ∃ v, (execOp a.eval o).run P w = .ok (.value v) w ∧ RV (okOf T bs φ) w φ x v) :
    OpOk P o (fun ts' bs' => ts' = putV o.dst x ts ∧ bs' = bs) ts bs := by
  intro T φ w a hs ht K Qx hK
  obtain ⟨v, hr, hv⟩ := h T φ w a hs ht
  unfold Oper.wp
  rw [hr]
  exact hK _ _ _ _ _ ⟨rfl, rfl⟩ (Ext.refl _ _ _) hs (ht.put hv _)

/-- An operation that makes a box. -/
theorem OpOk.make {x : V} {b : Bx} (h : ∀ (T : Nat → Prop) φ w a, Sim T bs φ w → Tm (okOf T bs φ) w φ ts a → ∃ v u w', (execOp a.eval o).run P w = .ok (.value v) w' ∧ Below w.heap.size w w' ∧
      (∀ g, blkOf u = some g → w.heap.size ≤ g) ∧ (Ext bs φ w (bs ++ [b]) (φ ++ [u]) w' → BoxOk (okOf T (bs ++ [b]) (φ ++ [u])) (φ ++ [u]) w' b u ∧ RV (okOf T (bs ++ [b]) (φ ++ [u])) w' (φ ++ [u]) x v)) :
    OpOk P o (fun ts' bs' => ts' = putV o.dst x ts ∧ bs' = bs ++ [b]) ts bs := by
  intro T φ w a hs ht K Qx hK
  obtain ⟨v, u, w', hr, hw, hu, hb⟩ := h T φ w a hs ht
  unfold Oper.wp
  rw [hr]
  have he := ext_push (b := b) hs hw hu
  obtain ⟨h1, h2⟩ := hb he
  exact hK _ _ _ _ _ ⟨rfl, rfl⟩ he (hs.push hw hu (fun _ => h1)) ((ht.ext he).put h2 _)

/-- An operation that writes a box. -/
theorem OpOk.write {k : Nat} {b b' : Bx} (hb : bs[k]? = some b) (hl : b.live = true) (h : ∀ (T : Nat → Prop) φ w a v, Sim T bs φ w → Tm (okOf T bs φ) w φ ts a → φ[k]? = some v → BoxOk (okOf T bs φ) φ w b v → ∃ w', (execOp a.eval o).run P w = .ok .skip w' ∧
      w'.os = w.os ∧ w'.tape = w.tape ∧ w'.output = w.output ∧ w.heap.size ≤ w'.heap.size ∧ (∀ g, g < w.heap.size → blkOf v ≠ some g → w'.heap[g]? = w.heap[g]?) ∧
      (Ext bs φ w (bs.set k b') φ w' → BoxOk (okOf T (bs.set k b') φ) φ w' b' v)) :
    OpOk P o (fun ts' bs' => ts' = putV o.dst (.tup []) ts ∧ bs' = bs.set k b') ts bs := by
  intro T φ w a hs ht K Qx hK
  obtain ⟨v, hv, hbo⟩ := hs.box k b hb
  obtain ⟨w', hr, h1, h2, h3, h4, h5, h6⟩ := h T φ w a v hs ht hv hbo
  unfold Oper.wp
  rw [hr]
  have he := ext_set (b' := b') hb hl hv h1 h2 h3 h4 h5
  exact hK _ _ _ _ _ ⟨rfl, rfl⟩ he (hs.put hb hl hv he h5 (h6 he)) ((ht.ext he).put rv_skip _)
end

/-! ### Numbers, bools, strings -/
def bitsV (k : IntKind) (f : BitVec k.bits → BitVec k.bits → BitVec k.bits) (x y : Int) : Value := .int k (k.wrap (f (BitVec.ofInt k.bits x) (BitVec.ofInt k.bits y)).toNat)

def evB (L : Lay) (op : BinOp) (t : TypeId) : Value → Value → Option Value
  | .int k a, .int k' b => if k ≠ k' then none else match op with
    | .add => some (.int k (k.wrap (a + b)))
    | .sub => some (.int k (k.wrap (a - b)))
    | .mul => some (.int k (k.wrap (a * b)))
    | .quo => if b = 0 then none else some (.int k (k.wrap (a.tdiv b)))
    | .rem => if b = 0 then none else some (.int k (a.tmod b))
    | .and => some (bitsV k (· &&& ·) a b)
    | .or => some (bitsV k (· ||| ·) a b)
    | .eql => some (.bool (a == b))
    | .neq => some (.bool (a != b))
    | .lss => some (.bool (decide (a < b)))
    | .leq => some (.bool (decide (a ≤ b)))
    | .gtr => some (.bool (decide (a > b)))
    | .geq => some (.bool (decide (a ≥ b)))
    | _ => none
  | .string a, .string b => match op with
    | .add => if a.size + b.size ≤ 9223372036854775807 then some (.string (a ++ b)) else none
    | .eql => some (.bool (decide (a = b)))
    | .neq => some (.bool !(decide (a = b)))
    | .lss => some (.bool (Op.bytesLess a.toList b.toList))
    | .leq => some (.bool (Op.bytesLess a.toList b.toList || a.toList == b.toList))
    | .gtr => some (.bool !(Op.bytesLess a.toList b.toList || a.toList == b.toList))
    | .geq => some (.bool !(Op.bytesLess a.toList b.toList))
    | _ => none
  | .bool a, .bool b => if L.bool t then match op with
    | .eql => some (.bool (a == b))
    | .neq => some (.bool (!(a == b)))
    | _ => none
    else none
  | _, _ => none

theorem bytes_eq (a b : ByteArray) : (a.toList == b.toList) = decide (a = b) := by
  by_cases h : a = b
  · subst h; simp
  · have : ¬ a.toList = b.toList := fun e => h (by
      rw [ByteArray.toList_eq, ByteArray.toList_eq] at e
      exact ByteArray.ext (Array.toList_inj.1 e))
    simp [h, this]

theorem evB_sound {P : Program} {L : Lay} (hL : LayOk P L) {op : BinOp} {t : TypeId} {x y v : Value} (h : evB L op t x y = some v) (w : World) : (binOp op t x y).run P w = .ok v w := by
  unfold evB at h
  split at h
  · rename_i k a k' b
    split at h
    · cases h
    · rename_i hk
      have hk : k = k' := by simpa using hk
      subst hk
      split at h <;> (try split at h) <;> first
        | (obtain rfl := Option.some.inj h; simp [binOp, Op.intArith, Op.intDiv, Op.intBits, Op.intCmp, bitsV, *]; done)
        | (cases h; done)
  · rename_i a b
    split at h <;> (try split at h) <;> first
      | (obtain rfl := Option.some.inj h; simp [binOp, Op.stringOp, bytes_eq]; done)
      | (cases h; done)
      | skip
    · rename_i hs
      obtain rfl := Option.some.inj h
      have : ¬ (((a.size + b.size : Nat) : Int) > IntKind.i64.max) := by
        have e : IntKind.i64.max = 9223372036854775807 := rfl
        rw [e]
        omega
      simp only [binOp, Op.stringOp]
      rw [if_neg this]
      rfl
  · rename_i a b
    split at h
    · rename_i hb
      have hu := hL.bool t hb
      split at h
      · obtain rfl := Option.some.inj h
        exact run_eql_bool w t a b hu
      · obtain rfl := Option.some.inj h
        exact run_neq_bool w t a b hu
      · cases h
    · cases h
  · cases h

theorem evB_scalar {L : Lay} {op : BinOp} {t : TypeId} {x y v : Value} (h : evB L op t x y = some v) : scalar v = true := by
  unfold evB at h
  repeat' split at h
  all_goals first
    | (obtain rfl := Option.some.inj h; rfl)
    | (cases h; done)

theorem evB_guard {P : Program} {L : Lay} {op : BinOp} {t t' : TypeId} {x y v : Value} (h : evB L op t x y = some v) (p q : Operand) (w : World) : (eqGuard op t' p q x y).run P w = .ok () w := by
  have hx : (∃ k a, x = .int k a) ∨ (∃ a, x = .string a) ∨ (∃ a, x = .bool a) := by
    unfold evB at h
    split at h
    · exact .inl ⟨_, _, rfl⟩
    · exact .inr (.inl ⟨_, rfl⟩)
    · exact .inr (.inr ⟨_, rfl⟩)
    · cases h
  unfold eqGuard
  rcases hx with ⟨k, a, rfl⟩ | ⟨a, rfl⟩ | ⟨a, rfl⟩ <;> split <;> simp

end Go.Proofs.YtiefcnghjcafbaaDoorV
