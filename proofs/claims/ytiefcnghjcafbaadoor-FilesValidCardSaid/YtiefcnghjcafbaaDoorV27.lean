/- The calculus of values, twenty-seventh text: strings as lists of bytes. -/
import Derived.Test.YtiefcnghjcafbaaDoorV26
namespace Go.Proofs.YtiefcnghjcafbaaDoorV
open Go Go.RowKit

abbrev B (l : List UInt8) : ByteArray := ⟨l.toArray⟩
abbrev T (l : List UInt8) : V := .val (.string (B l))
abbrev iV (n : Int) : V := .val (.int .i64 n)
abbrev bV (b : Bool) : V := .val (.bool b)

theorem B_inj {l l' : List UInt8} : B l = B l' ↔ l = l' := by
  constructor
  · intro h
    have := congrArg (fun b => b.data.toList) h
    simpa using this
  · rintro rfl
    rfl
theorem B_size (l : List UInt8) : (B l).size = l.length := by simp [B, ByteArray.size]
theorem B_get (l : List UInt8) (z : Nat) : (B l)[z]? = l[z]? := by
  by_cases h : z < l.length
  · have h2 : z < (B l).size := by rw [B_size]; exact h
    rw [getElem?_pos (B l) z h2, List.getElem?_eq_getElem h]
    rfl
  · have h2 : ¬ z < (B l).size := by rw [B_size]; exact h
    rw [getElem?_neg (B l) z h2, List.getElem?_eq_none (by omega)]
theorem B_data (s : ByteArray) : s = B s.data.toList := by cases s; simp [B]
theorem B_cut (l : List UInt8) (a b : Nat) : (B l).extract a b = B ((l.take b).drop a) := by
  have : ((B l).extract a b).data = (B ((l.take b).drop a)).data := by
    rw [ByteArray.data_extract]
    apply Array.toList_inj.1
    simp [List.drop_take]
  cases h : (B l).extract a b
  rw [h] at this
  simp only at this
  rw [this]
theorem B_app (l l' : List UInt8) : B l ++ B l' = B (l ++ l') := by
  have : (B l ++ B l').data = (B (l ++ l')).data := by
    rw [ByteArray.data_append]
    simp
  cases h : B l ++ B l'
  rw [h] at this
  simp only at this
  rw [this]

section
variable {L : Lay} {C : CallT} {ts : List V} {bs : List Bx} {t t' : TypeId} {x y : Operand} {k : IntKind} {v : Bool} {l l' : List UInt8}
theorem eqT (h : decide (l = l') = v) (hx : evO ts x = some (T l)) (hy : evO ts y = some (T l')) : evX L C (.binOp .eql t x y t') ts bs = some (bV v, bs) :=
  eqlS (by rw [← h]; simp only [B_inj]) hx hy
theorem neqT (h : decide (l = l') = v) (hx : evO ts x = some (T l)) (hy : evO ts y = some (T l')) : evX L C (.binOp .neq t x y t') ts bs = some (bV !v, bs) := by
  subst h
  have : decide (B l = B l') = decide (l = l') := by simp only [B_inj]
  simp only [evX, ev, hx, hy, evB, Option.map_some, this, bne, BEq.beq]
theorem addT (h : l.length + l'.length ≤ 9223372036854775807) (hx : evO ts x = some (T l)) (hy : evO ts y = some (T l')) : evX L C (.binOp .add t x y t') ts bs = some (T (l ++ l'), bs) := by
  simp only [evX, ev, hx, hy, evB, Option.map_some, B_app, B_size, h, if_true]
theorem lenT (hs : L.str t = true) (hx : evO ts x = some (T l)) : evX L C (.call { callee := .builtin .len, args := #[x], argTypes := #[t] }) ts bs = some (iV l.length, bs) := by
  simp only [evX, evCall, hx, hs, if_true, B_size]
theorem idxT {c : UInt8} {z : Nat} (hs : L.str t = true) (hx : evO ts x = some (T l)) (hy : evO ts y = some (.val (.int k (z : Int)))) (hc : l[z]? = some c) : evX L C (.index t x y) ts bs = some (.val (.int .u8 c.toNat), bs) :=
  idxK hx hy hs (by rw [B_get]; exact hc)
theorem cutT {lo hi : Operand} {a b : Nat} {k' : IntKind} (hs : L.str t = true) (hx : evO ts x = some (T l)) (hl : evO ts lo = some (.val (.int k (a : Int)))) (hh : evO ts hi = some (.val (.int k' (b : Int)))) (h : a ≤ b ∧ b ≤ l.length) :
    evX L C (.slice t x (some lo) (some hi) none) ts bs = some (T ((l.take b).drop a), bs) := by
  simp only [evX, ev, hx, hs, if_true, evCut, hl, hh, Int.natCast_nonneg, Int.toNat_natCast, B_size, h, and_self, Option.map_some, B_cut]
theorem cutToT {hi : Operand} {b : Nat} {k' : IntKind} (hs : L.str t = true) (hx : evO ts x = some (T l)) (hh : evO ts hi = some (.val (.int k' (b : Int)))) (h : b ≤ l.length) :
    evX L C (.slice t x none (some hi) none) ts bs = some (T (l.take b), bs) := by
  simp only [evX, ev, hx, hs, if_true, evCut, hh, Int.natCast_nonneg, Int.toNat_natCast, B_size, h, Nat.zero_le, and_self, Option.map_some, B_cut, List.drop_zero]
theorem cutFromT {lo : Operand} {a : Nat} (hs : L.str t = true) (hx : evO ts x = some (T l)) (hl : evO ts lo = some (.val (.int k (a : Int)))) (h : a ≤ l.length) :
    evX L C (.slice t x (some lo) none none) ts bs = some (T (l.drop a), bs) := by
  simp only [evX, ev, hx, hs, if_true, evCut, hl, Int.natCast_nonneg, Int.toNat_natCast, B_size, h, Nat.le_refl, and_self, Option.map_some, B_cut]
  rw [List.take_of_length_le (Nat.le_refl _)]
theorem convT {s d : TypeId} {k0 k1 : IntKind} {n : Int} (he : Utf8.encode n = B l) (hs : L.int s = some k0) (hd : L.int d = none) (hd2 : L.str d = true) (hx : evO ts x = some (.val (.int k1 n))) : evX L C (.convert s d x) ts bs = some (T l, bs) := by
  simp only [evX, ev, hx, hs, hd, hd2, if_true, he]
/-- One more. -/
theorem incT {k : Nat} (hk : k < 4611686018427387904) (hx : evO ts x = some (iV (k : Int))) (hy : evO ts y = some (iV 1)) : evX L C (.binOp .add t x y t') ts bs = some (iV ((k + 1 : Nat) : Int), bs) :=
  addK (by rw [wrap64 (by omega) (by omega)]; omega) hx hy
theorem ltT {a b : Nat} (h : decide (a < b) = v) (hx : evO ts x = some (iV (a : Int))) (hy : evO ts y = some (iV (b : Int))) : evX L C (.binOp .lss t x y t') ts bs = some (bV v, bs) :=
  lssK (by rw [← h]; exact decide_eq_decide.2 (by omega)) hx hy
/-- Bytes compared. -/
theorem eqC {c d : UInt8} {z : Int} (hz : z = d.toNat) (h : decide (c = d) = v) (hx : evO ts x = some (.val (.int .u8 c.toNat))) (hy : evO ts y = some (.val (.int .u8 z))) : evX L C (.binOp .eql t x y t') ts bs = some (bV v, bs) :=
  eqlK (by
    subst hz
    rw [← h]
    by_cases he : c = d
    · simp [he]
    · have : c.toNat ≠ d.toNat := fun e => he (UInt8.toNat_inj.1 e)
      simp [he]
      omega) hx hy
end

/-- Rows of strings. -/
def rowsT (l : List (List UInt8)) : List (List S) := l.map fun a => [S.val (.string (B a))]
theorem rowsT_len (l : List (List UInt8)) : (rowsT l).length = l.length := by simp [rowsT]
theorem rowsT_at {l : List (List UInt8)} {k : Nat} {a : List UInt8} (h : l[k]? = some a) : (rowsT l)[k]? = some [S.val (.string (B a))] := by simp [rowsT, h]

section
variable {L : Lay} {C : CallT} {ts : List V} {bs : List Bx} {t t' : TypeId} {x y : Operand} {k : IntKind} {v : Bool} {l l' : List UInt8}
theorem cutToR {hi : Operand} {b : Nat} {k' : IntKind} (h : b ≤ l.length) (hr : l.take b = l') (hs : L.str t = true) (hx : evO ts x = some (T l)) (hh : evO ts hi = some (.val (.int k' (b : Int)))) :
    evX L C (.slice t x none (some hi) none) ts bs = some (T l', bs) := by
  rw [← hr]
  exact cutToT hs hx hh h
theorem cutFromR {lo : Operand} {a : Nat} (h : a ≤ l.length) (hr : l.drop a = l') (hs : L.str t = true) (hx : evO ts x = some (T l)) (hl : evO ts lo = some (.val (.int k (a : Int)))) :
    evX L C (.slice t x (some lo) none none) ts bs = some (T l', bs) := by
  rw [← hr]
  exact cutFromT hs hx hl h
/-- A new array of one cell each. -/
theorem mkW {ln cp : Operand} {e b n : Nat} {z : V} (h1 : n ≤ 140737488355328) (h2 : n * b ≤ 140737488355328) (hl : L.sl t = some (e, 1)) (hb : L.byt e = some b) (hz : L.zero e = some [z]) (hn : evO ts ln = some (iV (n : Int))) (hc : evO ts cp = some (iV (n : Int))) :
    evX L C (.makeSlice t ln cp) ts bs = some (.win bs.length 1 0 n n, bs ++ [.cells (List.replicate n z)]) := by
  have : (List.replicate n [z]).flatten = List.replicate n z := by
    induction n with
    | zero => rfl
    | succ n ih => simp [List.replicate_succ]
  have h3 : (n : Int) ≤ 140737488355328 := by omega
  simp only [evX, ev, hn, hc, hl, hb, hz, List.length_cons, List.length_nil, Nat.zero_add, Int.natCast_nonneg, Int.le_refl, h3, Int.toNat_natCast, h2, and_self, if_true, this]
theorem ixW {q m c z e : Nat} (hz : z < m) (hl : L.sl t = some (e, 1)) (hx : evO ts x = some (.win q 1 0 m c)) (hi : evO ts y = some (.val (.int k (z : Int)))) : evX L C (.indexAddr t x y) ts bs = some (.ptr q z, bs) := by
  simp only [evX, ev, hx, hi, hl, Int.natCast_nonneg, if_true, Int.toNat_natCast, idxP, hz, and_self, Option.map_some, Nat.zero_add, Nat.mul_one]
theorem stC {q off : Nat} {cs cs' : List V} {u : V} (ho : off < cs.length) (hr : cs.set off u = cs') (ha : evO ts x = some (.ptr q off)) (hy : evO ts y = some u) (hu : u.cs = some [u]) (hc : L.cel t = some (1, false)) (hb : bs[q]? = some (.cells cs)) : evX L C (.store t x y) ts bs = some (.tup [], bs.set q (.cells cs')) := by
  have h1 : spl cs off [u] = cs' := by
    rw [← hr, spl, List.set_eq_take_append_cons_drop, if_pos ho]
    simp
  simp only [evX, ev, ha, hy, hc, hu, hb, List.length_cons, List.length_nil, Nat.zero_add, show off + 1 ≤ cs.length from ho, and_self, if_true, h1]
theorem toW {hi : Operand} {q n c h e : Nat} (hh : h ≤ c) (hx : evO ts x = some (.win q 1 0 n c)) (hl : L.sl t = some (e, 1)) (hi2 : evO ts hi = some (.val (.int k (h : Int)))) : evX L C (.slice t x none (some hi) none) ts bs = some (.win q 1 0 h c, bs) := by
  simp only [evX, ev, hx, hl, bd, hi2, Int.natCast_nonneg, if_true, Int.toNat_natCast, Nat.zero_le, hh, and_self, Nat.sub_zero, Nat.add_zero, ite_self]
theorem downs_T (l : List (List UInt8)) : downs (l.map T) = some (l.map fun a => S.val (.string (B a))) := by
  induction l with
  | nil => rfl
  | cons a l ih => simp only [List.map_cons, downs, ih]; rfl
theorem chunk_one (l : List S) : chunk 1 l.length l = l.map fun s => [s] := by
  refine List.ext_getElem? fun i => ?_
  unfold chunk
  rw [List.getElem?_map, List.getElem?_map]
  by_cases h : i < l.length
  · rw [List.getElem?_range h, List.getElem?_eq_getElem h]
    simp only [Option.map_some, Nat.mul_one]
    rw [List.take_one, List.head?_drop, List.getElem?_eq_getElem h]
    rfl
  · rw [List.getElem?_eq_none (by simpa using h), List.getElem?_eq_none (by simpa using h)]
    rfl
theorem fr_rowsT {q n c : Nat} {l : List (List UInt8)} (hb : bs[q]? = some (.cells (l.map T))) (hn : l.length = n) : fr bs (.win q 1 0 n c) = .sl (rowsT l) := by
  subst hn
  show frA bs (.win q 1 0 l.length c) = .sl (rowsT l)
  simp only [frA, hb, Nat.zero_mul, List.drop_zero, Nat.mul_one]
  rw [List.take_of_length_le (by simp), downs_T]
  simp only [List.length_map, Nat.zero_lt_one, and_self, if_true]
  have := chunk_one (l.map fun a => S.val (.string (B a)))
  rw [List.length_map] at this
  rw [this, rowsT, List.map_map]
  rfl
end

/-- Explicit temporaries. -/
def tsOf (n : Nat) (l : List (Nat × V)) : List V := l.foldl (fun ts p => ts.set p.1 p.2) (List.replicate n .gone)

end Go.Proofs.YtiefcnghjcafbaaDoorV
