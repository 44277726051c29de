/- Part 3 of 6 of the proof: V27, Rune, Any, Split, Plain, PlainF, Name, Paths, RefP, Awake. -/
import Derived.Test.YtiefcnghjcafbaaDoorS2
import Derived.Lib.Bytealg
/- The calculus of values, twenty-seventh text: strings as lists of bytes. -/
namespace Go.Proofs.YtiefcnghjcafbaaDoorV
open Go Go.RowKit

abbrev B (l : List UInt8) : ByteArray := ⟨l.toArray⟩
abbrev T (l : List UInt8) : V := .val (.string (B l))
abbrev iV (n : Int) : V := .val (.int .i64 n)
abbrev bV (b : Bool) : V := .val (.bool b)

theorem B_inj {l l' : List UInt8} : B l = B l' ↔ l = l' := by
  constructor
  · intro h
    have := congrArg (fun b => b.data.toList) h
    simpa using this
  · rintro rfl
    rfl
theorem B_size (l : List UInt8) : (B l).size = l.length := by simp [B, ByteArray.size]
theorem B_get (l : List UInt8) (z : Nat) : (B l)[z]? = l[z]? := by
  by_cases h : z < l.length
  · have h2 : z < (B l).size := by rw [B_size]; exact h
    rw [getElem?_pos (B l) z h2, List.getElem?_eq_getElem h]
    rfl
  · have h2 : ¬ z < (B l).size := by rw [B_size]; exact h
    rw [getElem?_neg (B l) z h2, List.getElem?_eq_none (by omega)]
theorem B_data (s : ByteArray) : s = B s.data.toList := by cases s; simp [B]
theorem B_cut (l : List UInt8) (a b : Nat) : (B l).extract a b = B ((l.take b).drop a) := by
  have : ((B l).extract a b).data = (B ((l.take b).drop a)).data := by
    rw [ByteArray.data_extract]
    apply Array.toList_inj.1
    simp [List.drop_take]
  cases h : (B l).extract a b
  rw [h] at this
  simp only at this
  rw [this]
theorem B_app (l l' : List UInt8) : B l ++ B l' = B (l ++ l') := by
  have : (B l ++ B l').data = (B (l ++ l')).data := by
    rw [ByteArray.data_append]
    simp
  cases h : B l ++ B l'
  rw [h] at this
  simp only at this
  rw [this]

section
variable {L : Lay} {C : CallT} {ts : List V} {bs : List Bx} {t t' : TypeId} {x y : Operand} {k : IntKind} {v : Bool} {l l' : List UInt8}
theorem eqT (h : decide (l = l') = v) (hx : evO ts x = some (T l)) (hy : evO ts y = some (T l')) : evX L C (.binOp .eql t x y t') ts bs = some (bV v, bs) :=
  eqlS (by rw [← h]; simp only [B_inj]) hx hy
theorem neqT (h : decide (l = l') = v) (hx : evO ts x = some (T l)) (hy : evO ts y = some (T l')) : evX L C (.binOp .neq t x y t') ts bs = some (bV !v, bs) := by
  subst h
  have : decide (B l = B l') = decide (l = l') := by simp only [B_inj]
  simp only [evX, ev, hx, hy, evB, Option.map_some, this, bne, BEq.beq]
theorem addT (h : l.length + l'.length ≤ 9223372036854775807) (hx : evO ts x = some (T l)) (hy : evO ts y = some (T l')) : evX L C (.binOp .add t x y t') ts bs = some (T (l ++ l'), bs) := by
  simp only [evX, ev, hx, hy, evB, Option.map_some, B_app, B_size, h, if_true]
theorem lenT (hs : L.str t = true) (hx : evO ts x = some (T l)) : evX L C (.call { callee := .builtin .len, args := #[x], argTypes := #[t] }) ts bs = some (iV l.length, bs) := by
  simp only [evX, evCall, hx, hs, if_true, B_size]
theorem idxT {c : UInt8} {z : Nat} (hs : L.str t = true) (hx : evO ts x = some (T l)) (hy : evO ts y = some (.val (.int k (z : Int)))) (hc : l[z]? = some c) : evX L C (.index t x y) ts bs = some (.val (.int .u8 c.toNat), bs) :=
  idxK hx hy hs (by rw [B_get]; exact hc)
theorem cutT {lo hi : Operand} {a b : Nat} {k' : IntKind} (hs : L.str t = true) (hx : evO ts x = some (T l)) (hl : evO ts lo = some (.val (.int k (a : Int)))) (hh : evO ts hi = some (.val (.int k' (b : Int)))) (h : a ≤ b ∧ b ≤ l.length) :
    evX L C (.slice t x (some lo) (some hi) none) ts bs = some (T ((l.take b).drop a), bs) := by
  simp only [evX, ev, hx, hs, if_true, evCut, hl, hh, Int.natCast_nonneg, Int.toNat_natCast, B_size, h, and_self, Option.map_some, B_cut]
theorem cutToT {hi : Operand} {b : Nat} {k' : IntKind} (hs : L.str t = true) (hx : evO ts x = some (T l)) (hh : evO ts hi = some (.val (.int k' (b : Int)))) (h : b ≤ l.length) :
    evX L C (.slice t x none (some hi) none) ts bs = some (T (l.take b), bs) := by
  simp only [evX, ev, hx, hs, if_true, evCut, hh, Int.natCast_nonneg, Int.toNat_natCast, B_size, h, Nat.zero_le, and_self, Option.map_some, B_cut, List.drop_zero]
theorem cutFromT {lo : Operand} {a : Nat} (hs : L.str t = true) (hx : evO ts x = some (T l)) (hl : evO ts lo = some (.val (.int k (a : Int)))) (h : a ≤ l.length) :
    evX L C (.slice t x (some lo) none none) ts bs = some (T (l.drop a), bs) := by
  simp only [evX, ev, hx, hs, if_true, evCut, hl, Int.natCast_nonneg, Int.toNat_natCast, B_size, h, Nat.le_refl, and_self, Option.map_some, B_cut]
  rw [List.take_of_length_le (Nat.le_refl _)]
theorem convT {s d : TypeId} {k0 k1 : IntKind} {n : Int} (he : Utf8.encode n = B l) (hs : L.int s = some k0) (hd : L.int d = none) (hd2 : L.str d = true) (hx : evO ts x = some (.val (.int k1 n))) : evX L C (.convert s d x) ts bs = some (T l, bs) := by
  simp only [evX, ev, hx, hs, hd, hd2, if_true, he]
/-- One more. -/
theorem incT {k : Nat} (hk : k < 4611686018427387904) (hx : evO ts x = some (iV (k : Int))) (hy : evO ts y = some (iV 1)) : evX L C (.binOp .add t x y t') ts bs = some (iV ((k + 1 : Nat) : Int), bs) :=
  addK (by rw [wrap64 (by omega) (by omega)]; omega) hx hy
theorem ltT {a b : Nat} (h : decide (a < b) = v) (hx : evO ts x = some (iV (a : Int))) (hy : evO ts y = some (iV (b : Int))) : evX L C (.binOp .lss t x y t') ts bs = some (bV v, bs) :=
  lssK (by rw [← h]; exact decide_eq_decide.2 (by omega)) hx hy
/-- Bytes compared. -/
theorem eqC {c d : UInt8} {z : Int} (hz : z = d.toNat) (h : decide (c = d) = v) (hx : evO ts x = some (.val (.int .u8 c.toNat))) (hy : evO ts y = some (.val (.int .u8 z))) : evX L C (.binOp .eql t x y t') ts bs = some (bV v, bs) :=
  eqlK (by
    subst hz
    rw [← h]
    by_cases he : c = d
    · simp [he]
    · have : c.toNat ≠ d.toNat := fun e => he (UInt8.toNat_inj.1 e)
      simp [he]
      omega) hx hy
end

/-- Rows of strings. -/
def rowsT (l : List (List UInt8)) : List (List S) := l.map fun a => [S.val (.string (B a))]
theorem rowsT_len (l : List (List UInt8)) : (rowsT l).length = l.length := by simp [rowsT]
theorem rowsT_at {l : List (List UInt8)} {k : Nat} {a : List UInt8} (h : l[k]? = some a) : (rowsT l)[k]? = some [S.val (.string (B a))] := by simp [rowsT, h]

section
variable {L : Lay} {C : CallT} {ts : List V} {bs : List Bx} {t t' : TypeId} {x y : Operand} {k : IntKind} {v : Bool} {l l' : List UInt8}
theorem cutToR {hi : Operand} {b : Nat} {k' : IntKind} (h : b ≤ l.length) (hr : l.take b = l') (hs : L.str t = true) (hx : evO ts x = some (T l)) (hh : evO ts hi = some (.val (.int k' (b : Int)))) :
    evX L C (.slice t x none (some hi) none) ts bs = some (T l', bs) := by
  rw [← hr]
  exact cutToT hs hx hh h
theorem cutFromR {lo : Operand} {a : Nat} (h : a ≤ l.length) (hr : l.drop a = l') (hs : L.str t = true) (hx : evO ts x = some (T l)) (hl : evO ts lo = some (.val (.int k (a : Int)))) :
    evX L C (.slice t x (some lo) none none) ts bs = some (T l', bs) := by
  rw [← hr]
  exact cutFromT hs hx hl h
/-- A new array of one cell each. -/
theorem mkW {ln cp : Operand} {e b n : Nat} {z : V} (h1 : n ≤ 140737488355328) (h2 : n * b ≤ 140737488355328) (hl : L.sl t = some (e, 1)) (hb : L.byt e = some b) (hz : L.zero e = some [z]) (hn : evO ts ln = some (iV (n : Int))) (hc : evO ts cp = some (iV (n : Int))) :
    evX L C (.makeSlice t ln cp) ts bs = some (.win bs.length 1 0 n n, bs ++ [.cells (List.replicate n z)]) := by
  have : (List.replicate n [z]).flatten = List.replicate n z := by
    induction n with
    | zero => rfl
    | succ n ih => simp [List.replicate_succ]
  have h3 : (n : Int) ≤ 140737488355328 := by omega
  simp only [evX, ev, hn, hc, hl, hb, hz, List.length_cons, List.length_nil, Nat.zero_add, Int.natCast_nonneg, Int.le_refl, h3, Int.toNat_natCast, h2, and_self, if_true, this]
theorem ixW {q m c z e : Nat} (hz : z < m) (hl : L.sl t = some (e, 1)) (hx : evO ts x = some (.win q 1 0 m c)) (hi : evO ts y = some (.val (.int k (z : Int)))) : evX L C (.indexAddr t x y) ts bs = some (.ptr q z, bs) := by
  simp only [evX, ev, hx, hi, hl, Int.natCast_nonneg, if_true, Int.toNat_natCast, idxP, hz, and_self, Option.map_some, Nat.zero_add, Nat.mul_one]
theorem stC {q off : Nat} {cs cs' : List V} {u : V} (ho : off < cs.length) (hr : cs.set off u = cs') (ha : evO ts x = some (.ptr q off)) (hy : evO ts y = some u) (hu : u.cs = some [u]) (hc : L.cel t = some (1, false)) (hb : bs[q]? = some (.cells cs)) : evX L C (.store t x y) ts bs = some (.tup [], bs.set q (.cells cs')) := by
  have h1 : spl cs off [u] = cs' := by
    rw [← hr, spl, List.set_eq_take_append_cons_drop, if_pos ho]
    simp
  simp only [evX, ev, ha, hy, hc, hu, hb, List.length_cons, List.length_nil, Nat.zero_add, show off + 1 ≤ cs.length from ho, and_self, if_true, h1]
theorem toW {hi : Operand} {q n c h e : Nat} (hh : h ≤ c) (hx : evO ts x = some (.win q 1 0 n c)) (hl : L.sl t = some (e, 1)) (hi2 : evO ts hi = some (.val (.int k (h : Int)))) : evX L C (.slice t x none (some hi) none) ts bs = some (.win q 1 0 h c, bs) := by
  simp only [evX, ev, hx, hl, bd, hi2, Int.natCast_nonneg, if_true, Int.toNat_natCast, Nat.zero_le, hh, and_self, Nat.sub_zero, Nat.add_zero, ite_self]
theorem downs_T (l : List (List UInt8)) : downs (l.map T) = some (l.map fun a => S.val (.string (B a))) := by
  induction l with
  | nil => rfl
  | cons a l ih => simp only [List.map_cons, downs, ih]; rfl
theorem chunk_one (l : List S) : chunk 1 l.length l = l.map fun s => [s] := by
  refine List.ext_getElem? fun i => ?_
  unfold chunk
  rw [List.getElem?_map, List.getElem?_map]
  by_cases h : i < l.length
  · rw [List.getElem?_range h, List.getElem?_eq_getElem h]
    simp only [Option.map_some, Nat.mul_one]
    rw [List.take_one, List.head?_drop, List.getElem?_eq_getElem h]
    rfl
  · rw [List.getElem?_eq_none (by simpa using h), List.getElem?_eq_none (by simpa using h)]
    rfl
theorem fr_rowsT {q n c : Nat} {l : List (List UInt8)} (hb : bs[q]? = some (.cells (l.map T))) (hn : l.length = n) : fr bs (.win q 1 0 n c) = .sl (rowsT l) := by
  subst hn
  show frA bs (.win q 1 0 l.length c) = .sl (rowsT l)
  simp only [frA, hb, Nat.zero_mul, List.drop_zero, Nat.mul_one]
  rw [List.take_of_length_le (by simp), downs_T]
  simp only [List.length_map, Nat.zero_lt_one, and_self, if_true]
  have := chunk_one (l.map fun a => S.val (.string (B a)))
  rw [List.length_map] at this
  rw [this, rowsT, List.map_map]
  rfl
end

/-- Explicit temporaries. -/
def tsOf (n : Nat) (l : List (Nat × V)) : List V := l.foldl (fun ts p => ts.set p.1 p.2) (List.replicate n .gone)

end Go.Proofs.YtiefcnghjcafbaaDoorV

/- Where a byte or a rune lies in a short string. -/
namespace Go.Proofs.YtiefcnghjcafbaaDoorV
open Go Go.RowKit Go.Proofs.YtiefcnghjcafbaaDoor
set_option maxRecDepth 20000
set_option maxHeartbeats 4000000

inductive NoT : FuncId → List V → V → Prop
theorem noT : Good Tryd.prog (TabP NoT) := TabP_good fun f vs v h => nomatch h

theorem byte112 (l : List UInt8) (c : Int) : FnOk Tryd.prog 112 [T l, .val (.int .u8 c)] [] (fun r bs' => fr bs' r = iV (firstIdx (B l) c.toNat.toUInt8)) :=
  FnOk.fast (Q := fun r => r = iV (firstIdx (B l) c.toNat.toUInt8)) layOk Tryd.func112 rfl (goOut 100 (r := iV (firstIdx (B l) c.toNat.toUInt8)) (by kernel_rfl) rfl)

theorem valid_is {c : Int} {b1 b2 b3 b4 : Bool} (h1 : decide (0 ≤ c) = b1) (h2 : decide (c < 55296) = b2) (h3 : decide (57343 < c) = b3) (h4 : decide (c ≤ 1114111) = b4) : ((b1 && b2) || (b3 && b4)) = Utf8.valid c := by
  unfold Utf8.valid
  rw [← h1, ← h2, ← h3, ← h4]
  have : decide (57343 < c) = decide (57344 ≤ c) := decide_eq_decide.2 (by omega)
  rw [this]

theorem valid113 (c : Int) : FnOk Tryd.prog 113 [.val (.int .i32 c)] [] (fun r bs' => fr bs' r = bV (Utf8.valid c)) := by
  refine FnOk.fast (Q := fun r => r = bV (Utf8.valid c)) layOk Tryd.func113 rfl ?_
  cases h1 : decide (0 ≤ c) <;> cases h2 : decide (c < 55296) <;> cases h3 : decide (57343 < c) <;> cases h4 : decide (c ≤ 1114111) <;> (
    rw [← valid_is h1 h2 h3 h4]
    refine Ok.seq (go 10 rfl ?_)
    refine Ok.seq (Ok.block ?_)
    refine Ok.seq (Ok.regionW (G := fun _ => true) (C := TabP _) mixed layOk noT TabP_calm (.inl rfl) ?_)
    refine wstepN rfl rfl (by dsimp only [putV, List.set]) ?_
    first
      | refine wstepN rfl (leqK (by assumption) rfl rfl) (by dsimp only [putV, List.set]) ?_
      | refine wstepN rfl rfl (by dsimp only [putV, List.set]) ?_
    refine wstepN rfl rfl (by dsimp only [putV, List.set]) ?_
    first
      | refine wskipN rfl (by dsimp only [putV, List.set]) ?_
      | refine wstepN rfl rfl (by dsimp only [putV, List.set]) ?_
    first
      | refine wskipN rfl (by dsimp only [putV, List.set]) ?_
      | refine wstepN rfl (ltT (by assumption) rfl rfl) (by dsimp only [putV, List.set]) ?_
      | refine wstepN rfl (lssK (by assumption) rfl rfl) (by dsimp only [putV, List.set]) ?_
      | refine wstepN rfl rfl (by dsimp only [putV, List.set]) ?_
    refine wstepN rfl rfl (by dsimp only [putV, List.set]) ?_
    refine wstepN rfl rfl (by dsimp only [putV, List.set]) ?_
    refine wnil (Ok.cond (b := _) rfl (fun h => ?_) (fun h => ?_))
    · first
        | (cases h; done)
        | exact go 10 rfl ⟨fun _ h => (by cases h), _, rfl, rfl⟩
    · first
        | (cases h; done)
        | (refine Ok.seq (Ok.regionW (G := fun _ => true) (C := TabP _) mixed layOk noT TabP_calm (.inl rfl) ?_)
           refine wstepN rfl rfl (by dsimp only [putV, List.set]) ?_
           first
             | refine wstepN rfl (ltT (by assumption) rfl rfl) (by dsimp only [putV, List.set]) ?_
             | refine wstepN rfl (lssK (by assumption) rfl rfl) (by dsimp only [putV, List.set]) ?_
             | refine wstepN rfl rfl (by dsimp only [putV, List.set]) ?_
           refine wstepN rfl rfl (by dsimp only [putV, List.set]) ?_
           first
             | refine wskipN rfl (by dsimp only [putV, List.set]) ?_
             | refine wstepN rfl rfl (by dsimp only [putV, List.set]) ?_
           first
             | refine wskipN rfl (by dsimp only [putV, List.set]) ?_
             | refine wstepN rfl (leqK (by assumption) rfl rfl) (by dsimp only [putV, List.set]) ?_
             | refine wstepN rfl rfl (by dsimp only [putV, List.set]) ?_
           refine wstepN rfl rfl (by dsimp only [putV, List.set]) ?_
           refine wstepN rfl rfl (by dsimp only [putV, List.set]) ?_
           refine wnil (Ok.cond (b := _) rfl (fun h => ?_) (fun h => ?_))
           · first
               | (cases h; done)
               | exact go 10 rfl ⟨fun _ h => (by cases h), _, rfl, rfl⟩
           · first
               | (cases h; done)
               | (refine Ok.skip ?_
                  exact go 10 rfl ⟨fun _ h => (by cases h), _, rfl, rfl⟩)))

inductive TR (c : Int) : FuncId → List V → V → Prop
  | k112 (l : List UInt8) (z : Int) : TR c 112 [T l, .val (.int .u8 z)] (iV (firstIdx (B l) z.toNat.toUInt8))
  | k113 : TR c 113 [.val (.int .i32 c)] (bV (Utf8.valid c))
theorem TR_good (c : Int) : Good Tryd.prog (TabP (TR c)) := TabP_good fun f vs v h => by
  cases h with
  | k112 l z => exact ⟨byte112 l z, rfl, rfl, Tryd.call112⟩
  | k113 => exact ⟨valid113 c, rfl, rfl, Tryd.call113⟩

abbrev nul : List UInt8 := [47, 0]
def runeIdx (c : Nat) : Int := if c = 47 then 0 else if c = 0 then 1 else -1
theorem first_nul : ∀ c : Nat, c < 128 → firstIdx (B nul) (Int.toNat (c : Int)).toUInt8 = runeIdx c := by
  have h : (List.range 128).all (fun c => firstIdx (B nul) (Int.toNat (c : Int)).toUInt8 == runeIdx c) = true := by kernel_rfl
  intro c hc
  simpa using List.all_eq_true.1 h c (List.mem_range.2 hc)

theorem enc_is {c : Nat} (h : 128 ≤ c) (hv : Utf8.valid c = true) : ∃ l, Utf8.encode c = B l ∧ 2 ≤ l.length ∧ l.length ≤ 4 ∧ (∀ {N}, l.length = N + 1 → N = 1 → ∃ b, l[1]? = some b ∧ b ≠ 0) := by
  unfold Utf8.encode
  rw [if_pos hv]
  simp only [Int.toNat_natCast]
  rw [if_neg (by omega)]
  split
  · refine ⟨[_, _], rfl, by simp, by simp, fun _ _ => ⟨_, rfl, fun e => ?_⟩⟩
    have := congrArg UInt8.toNat e
    simp at this
    omega
  · split
    · exact ⟨[_, _, _], rfl, by simp, by simp, fun h1 h2 => by simp at h1; omega⟩
    · exact ⟨[_, _, _, _], rfl, by simp, by simp, fun h1 h2 => by simp at h1; omega⟩

theorem rune96 (c : Nat) (hc : c ≤ 2147483647) : FnOk Tryd.prog 96 [T nul, .val (.int .i32 c)] [] (fun r bs' => fr bs' r = iV (runeIdx c)) := by
  refine FnOk.fast (Q := fun r => r = iV (runeIdx c)) layOk Tryd.func96 rfl ?_
  have hT := TR_good (c : Int)
  refine Ok.seq (go 10 rfl ?_)
  refine Ok.block ?_
  have h1 : decide ((0 : Int) ≤ (c : Int)) = true := by simp
  cases h2 : decide ((c : Int) < 128)
  · have hn : runeIdx c = -1 := by
      have : ¬ ((c : Int) < 128) := by simpa using h2
      unfold runeIdx
      rw [if_neg (by omega), if_neg (by omega)]
    rw [hn]
    refine Ok.seq (Ok.regionW (G := fun _ => true) (C := TabP _) mixed layOk hT TabP_calm (.inl rfl) ?_)
    refine wstepN rfl rfl (by dsimp only [putV, List.set]) ?_
    first
      | refine wstepN rfl (leqK (by assumption) rfl rfl) (by dsimp only [putV, List.set]) ?_
      | refine wstepN rfl rfl (by dsimp only [putV, List.set]) ?_
    refine wstepN rfl rfl (by dsimp only [putV, List.set]) ?_
    first
      | refine wskipN rfl (by dsimp only [putV, List.set]) ?_
      | refine wstepN rfl rfl (by dsimp only [putV, List.set]) ?_
    first
      | refine wskipN rfl (by dsimp only [putV, List.set]) ?_
      | refine wstepN rfl (ltT (by assumption) rfl rfl) (by dsimp only [putV, List.set]) ?_
      | refine wstepN rfl (lssK (by assumption) rfl rfl) (by dsimp only [putV, List.set]) ?_
      | refine wstepN rfl rfl (by dsimp only [putV, List.set]) ?_
    refine wstepN rfl rfl (by dsimp only [putV, List.set]) ?_
    refine wstepN rfl rfl (by dsimp only [putV, List.set]) ?_
    refine wnil (Ok.cond (b := false) rfl (fun h => by cases h) (fun _ => ?_))
    refine Ok.seq (Ok.regionW (G := fun _ => true) (C := TabP _) mixed layOk hT TabP_calm (.inl rfl) ?_)
    cases h3 : ((c : Int) == 65533)
    · skip
      refine wstepN rfl rfl (by dsimp only [putV, List.set]) ?_
      first
        | refine wstepN rfl (eqlK (by assumption) rfl rfl) (by dsimp only [putV, List.set]) ?_
        | refine wstepN rfl rfl (by dsimp only [putV, List.set]) ?_
      refine wstepN rfl rfl (by dsimp only [putV, List.set]) ?_
      refine wnil (Ok.cond (b := false) rfl (fun h => by cases h) (fun _ => ?_))
      refine Ok.seq (Ok.regionW (G := fun _ => true) (C := TabP _) mixed layOk hT TabP_calm (.inl rfl) ?_)
      cases h4 : Utf8.valid c
      · have hv : bV (Utf8.valid c) = bV false := by rw [h4]
        refine wstepN rfl rfl (by dsimp only [putV, List.set]) ?_
        refine wstepN rfl ((TabP_hit (fun v' h => by cases h; rfl) (by constructor)).trans (by rw [hv])) (by dsimp only [putV, List.set]) ?_
        refine wstepN rfl rfl (by dsimp only [putV, List.set]) ?_
        refine wstepN rfl rfl (by dsimp only [putV, List.set]) ?_
        refine wnil (Ok.cond (b := true) rfl (fun _ => ?_) (fun h => by cases h))
        exact go 10 rfl ⟨fun _ h => (by cases h), _, rfl, rfl⟩
      · have hv : bV (Utf8.valid c) = bV true := by rw [h4]
        refine wstepN rfl rfl (by dsimp only [putV, List.set]) ?_
        refine wstepN rfl ((TabP_hit (fun v' h => by cases h; rfl) (by constructor)).trans (by rw [hv])) (by dsimp only [putV, List.set]) ?_
        refine wstepN rfl rfl (by dsimp only [putV, List.set]) ?_
        refine wstepN rfl rfl (by dsimp only [putV, List.set]) ?_
        refine wnil (Ok.cond (b := false) rfl (fun h => by cases h) (fun _ => ?_))
        refine Ok.scope ?_
        have hge : 128 ≤ c := by
          have : ¬ ((c : Int) < 128) := by simpa using h2
          omega
        obtain ⟨l, henc, hl2, hl4, hb⟩ := enc_is hge h4
        refine Ok.seq (Ok.regionW (G := fun _ => true) (C := TabP _) mixed layOk noT TabP_calm (.inl rfl) ?_)
        refine wstepN rfl rfl (by dsimp only [putV, List.set]) ?_
        refine wstepN rfl (convT henc rfl rfl rfl rfl) (by dsimp only [putV, List.set]) ?_
        refine wstepN rfl rfl (by dsimp only [putV, List.set]) ?_
        refine wnil ?_
        obtain ⟨N, hN⟩ : ∃ N, l.length = N + 1 := ⟨l.length - 1, by omega⟩
        have hsub : IntKind.i64.wrap ((l.length : Int) - 1) = (N : Int) := by
          rw [hN, wrap64 (by omega) (by omega)]
          omega
        refine Ok.seq (Ok.regionW (G := fun _ => true) (C := TabP _) mixed layOk noT TabP_calm (.inl rfl) ?_)
        refine wstepN rfl rfl (by dsimp only [putV, List.set]) ?_
        first
          | refine wstepN rfl (lenT rfl rfl) (by dsimp only [putV, List.set]) ?_
          | refine wstepN rfl rfl (by dsimp only [putV, List.set]) ?_
        first
          | refine wstepN rfl (subK (by assumption) rfl rfl) (by dsimp only [putV, List.set]) ?_
          | refine wstepN rfl rfl (by dsimp only [putV, List.set]) ?_
        refine wstepN rfl rfl (by dsimp only [putV, List.set]) ?_
        refine wnil ?_
        refine Ok.seq (go 10 rfl ?_)
        refine Ok.seq (go 10 rfl ?_)
        refine Ok.seq ?_
        refine Ok.block (Ok.loop (fun n ts bs => ts = _ ∧ bs = _) 0 ⟨rfl, rfl⟩ ?_)
        rintro _ _ _ ⟨rfl, rfl⟩
        refine Ok.seq ?_
        cases h5 : decide (N < 2)
        · refine Ok.seq (Ok.regionW (G := fun _ => true) (C := TabP _) mixed layOk noT TabP_calm (.inl rfl) ?_)
          refine wstepN rfl rfl (by dsimp only [putV, List.set]) ?_
          refine wstepN rfl rfl (by dsimp only [putV, List.set]) ?_
          first
            | refine wstepN rfl (lenT rfl rfl) (by dsimp only [putV, List.set]) ?_
            | refine wstepN rfl rfl (by dsimp only [putV, List.set]) ?_
          refine wstepN rfl (ltT (b := 2) h5 rfl rfl) (by dsimp only [putV, List.set]) ?_
          refine wnil (Ok.cond (b := false) rfl (fun h => by cases h) (fun _ => ?_))
          refine Ok.exit ?_
          exact go 10 rfl ⟨fun _ h => (by cases h), _, rfl, rfl⟩
        · have h5' : N < 2 := by simpa using h5
          obtain rfl : N = 1 := by omega
          obtain ⟨b, hb1, hb2⟩ := hb hN rfl
          refine Ok.seq (Ok.regionW (G := fun _ => true) (C := TabP _) mixed layOk noT TabP_calm (.inl rfl) ?_)
          refine wstepN rfl rfl (by dsimp only [putV, List.set]) ?_
          refine wstepN rfl rfl (by dsimp only [putV, List.set]) ?_
          first
            | refine wstepN rfl (lenT rfl rfl) (by dsimp only [putV, List.set]) ?_
            | refine wstepN rfl rfl (by dsimp only [putV, List.set]) ?_
          refine wstepN rfl (ltT (b := 2) h5 rfl rfl) (by dsimp only [putV, List.set]) ?_
          refine wnil (Ok.cond (b := true) rfl (fun _ => ?_) (fun h => by cases h))
          refine Ok.skip ?_
          refine Ok.block (Ok.scope ?_)
          refine Ok.seq ?_
          have h0 : nul[1]? = some (0 : UInt8) := rfl
          have hne : ((0 : Int) != (b.toNat : Int)) = true := by
            have : b.toNat ≠ (0 : UInt8).toNat := fun e => hb2 (UInt8.toNat_inj.1 e)
            simp at this ⊢
            omega
          refine Ok.seq (Ok.regionW (G := fun _ => true) (C := TabP _) mixed layOk noT TabP_calm (.inr ⟨by kernel_rfl, by kernel_rfl⟩) ?_)
          refine wstepN rfl rfl (by dsimp only [putV, List.set]) ?_
          refine wstepN rfl rfl (by dsimp only [putV, List.set]) ?_
          refine wstepN rfl (idxT (z := 1) rfl rfl rfl h0) (by dsimp only [putV, List.set]) ?_
          refine wstepN rfl rfl (by dsimp only [putV, List.set]) ?_
          refine wstepN rfl rfl (by dsimp only [putV, List.set]) ?_
          refine wstepN rfl (idxT (z := 1) rfl rfl rfl hb1) (by dsimp only [putV, List.set]) ?_
          refine wstepN rfl (neqK hne rfl rfl) (by dsimp only [putV, List.set]) ?_
          refine wnil (Ok.cond (b := true) rfl (fun _ => ?_) (fun h => by cases h))
          refine Ok.seq ?_
          refine Ok.regionW (G := fun _ => true) (C := TabP _) mixed layOk hT TabP_calm (.inr ⟨by kernel_rfl, by kernel_rfl⟩) ?_
          have hw : IntKind.i64.wrap ((1 : Nat) + 1 : Int) = ((2 : Nat) : Int) := by kernel_rfl
          refine wstepN rfl rfl (by dsimp only [putV, List.set]) ?_
          refine wstepN rfl rfl (by dsimp only [putV, List.set]) ?_
          refine wstepN rfl (addK hw rfl rfl) (by dsimp only [putV, List.set]) ?_
          refine wstepN rfl (cutFromT (a := 2) rfl rfl rfl (by decide)) (by dsimp only [putV, List.set]) ?_
          refine wstepN rfl rfl (by dsimp only [putV, List.set]) ?_
          refine wstepN rfl rfl (by dsimp only [putV, List.set]) ?_
          refine wstepN rfl (idxT (z := 1) rfl rfl rfl hb1) (by dsimp only [putV, List.set]) ?_
          refine wstepN rfl (TabP_hit (fun v' h => by cases h; rfl) (by constructor)) (by dsimp only [putV, List.set]) ?_
          refine wstepN rfl rfl (by dsimp only [putV, List.set]) ?_
          refine wnil ?_
          exact go 20 rfl ⟨fun _ h => (by cases h), _, rfl, rfl⟩
    · have h3 : (c : Int) = 65533 := by simpa using h3
      refine wstepN rfl rfl (by dsimp only [putV, List.set]) ?_
      first
        | refine wstepN rfl (eqlK (by assumption) rfl rfl) (by dsimp only [putV, List.set]) ?_
        | refine wstepN rfl rfl (by dsimp only [putV, List.set]) ?_
      refine wstepN rfl rfl (by dsimp only [putV, List.set]) ?_
      refine wnil (Ok.cond (b := true) rfl (fun _ => ?_) (fun h => by cases h))
      rw [h3]
      refine go 1000 rfl ?_
      exact ⟨fun _ h => (by cases h), _, rfl, rfl⟩
  · have hlt : c < 128 := by
      have : (c : Int) < 128 := by simpa using h2
      omega
    refine Ok.seq (Ok.regionW (G := fun _ => true) (C := TabP _) mixed layOk hT TabP_calm (.inl rfl) ?_)
    refine wstepN rfl rfl (by dsimp only [putV, List.set]) ?_
    first
      | refine wstepN rfl (leqK (by assumption) rfl rfl) (by dsimp only [putV, List.set]) ?_
      | refine wstepN rfl rfl (by dsimp only [putV, List.set]) ?_
    refine wstepN rfl rfl (by dsimp only [putV, List.set]) ?_
    first
      | refine wskipN rfl (by dsimp only [putV, List.set]) ?_
      | refine wstepN rfl rfl (by dsimp only [putV, List.set]) ?_
    first
      | refine wskipN rfl (by dsimp only [putV, List.set]) ?_
      | refine wstepN rfl (ltT (by assumption) rfl rfl) (by dsimp only [putV, List.set]) ?_
      | refine wstepN rfl (lssK (by assumption) rfl rfl) (by dsimp only [putV, List.set]) ?_
      | refine wstepN rfl rfl (by dsimp only [putV, List.set]) ?_
    refine wstepN rfl rfl (by dsimp only [putV, List.set]) ?_
    refine wstepN rfl rfl (by dsimp only [putV, List.set]) ?_
    refine wnil (Ok.cond (b := true) rfl (fun _ => ?_) (fun h => by cases h))
    refine Ok.seq (Ok.regionW (G := fun _ => true) (C := TabP _) mixed layOk hT TabP_calm (.inl rfl) ?_)
    have hw : IntKind.u8.wrap (c : Int) = (c : Int) := wrap8 (by omega) (by omega)
    refine wstepN rfl rfl (by dsimp only [putV, List.set]) ?_
    refine wstepN rfl rfl (by dsimp only [putV, List.set]) ?_
    refine wstepN rfl (convK rfl rfl hw rfl) (by dsimp only [putV, List.set]) ?_
    first
      | refine wstepN rfl (TabP_hit (fun v' h => by cases h; rfl) (by constructor)) (by dsimp only [putV, List.set]) ?_
      | refine wstepN rfl (TabP_hit (fun v' h => by cases h; rfl) (by assumption)) (by dsimp only [putV, List.set]) ?_
      | refine wstepN rfl rfl (by dsimp only [putV, List.set]) ?_
    refine wstepN rfl rfl (by dsimp only [putV, List.set]) ?_
    refine wnil (Ok.ret ⟨fun _ h => (by cases h), _, rfl, ?_⟩)
    show V.val (.int .i64 (firstIdx (B nul) (Int.toNat (c : Int)).toUInt8)) = _
    rw [first_nul c hlt]

end Go.Proofs.YtiefcnghjcafbaaDoorV

/- Whether a string holds a slash or a null. -/
namespace Go.Proofs.YtiefcnghjcafbaaDoorV
open Go Go.RowKit Go.Proofs.YtiefcnghjcafbaaDoor
set_option maxRecDepth 20000
set_option maxHeartbeats 4000000

def bad (c : UInt8) : Bool := c == 47 || c == 0
def asc : List V := ((List.replicate 256 (bV false)).set 47 (bV true)).set 0 (bV true)
theorem asc_at (c : UInt8) : asc[c.toNat]? = some (bV (bad c)) := by
  have hc : c.toNat < 256 := c.toNat_lt
  unfold asc bad
  rw [List.getElem?_set, List.getElem?_set, List.getElem?_replicate]
  by_cases h0 : c = 0
  · subst h0
    rfl
  · have : ¬ 0 = c.toNat := fun e => h0 (UInt8.toNat_inj.1 e.symm)
    rw [if_neg this]
    by_cases h1 : c = 47
    · subst h1
      rfl
    · have : ¬ 47 = c.toNat := fun e => h1 (UInt8.toNat_inj.1 e.symm)
      rw [if_neg this, if_pos hc]
      simp [h0, h1]

theorem set98 : FnOk Tryd.prog 98 [T nul] [] (fun r bs' => fr bs' r = .tup [.agg asc, bV true]) :=
  FnOk.fast (Q := fun r => r = .tup [.agg asc, bV true]) layOk Tryd.func98 rfl (goOut 100 (r := .tup [.agg asc, bV true]) (by kernel_rfl) rfl)
theorem use97 (n : Nat) : FnOk Tryd.prog 97 [iV n] [] (fun r bs' => fr bs' r = bV (decide ((n : Int) > 8))) :=
  FnOk.fast (Q := fun r => r = bV (decide ((n : Int) > 8))) layOk Tryd.func97 rfl (goOut 100 (r := bV (decide ((n : Int) > 8))) (by kernel_rfl) rfl)

theorem ldC {L : Lay} {C : CallT} {ts : List V} {bs : List Bx} {t : TypeId} {x : Operand} {k off : Nat} {cs : List V} {v : V} (ha : evO ts x = some (.ptr k off)) (hc : L.cel t = some (1, false)) (hb : bs[k]? = some (.cells cs)) (hv : cs[off]? = some v) : evX L C (.load t x) ts bs = some (v, bs) := by
  have h1 : off < cs.length := (List.getElem?_eq_some_iff.1 hv).1
  have h2 : ((cs.drop off).take 1)[0]? = some v := by
    rw [List.getElem?_take, if_pos (by omega), List.getElem?_drop]
    exact hv
  simp only [evX, ev, ha, hc, rd, hb, if_pos (show off + 1 ≤ cs.length by omega), h2, Option.map_some, Bool.false_eq_true, if_false]
theorem ixC {L : Lay} {C : CallT} {ts : List V} {bs : List Bx} {t : TypeId} {x y : Operand} {q off n e z : Nat} {k : IntKind} (hx : evO ts x = some (.ptr q off)) (hy : evO ts y = some (.val (.int k (z : Int)))) (hl : L.sl t = none) (ha : L.arr t = some (n, e)) (hz : z < n) : evX L C (.indexAddr t x y) ts bs = some (.ptr q (off + z * e), bs) := by
  simp only [evX, ev, hx, hy, hl, ha, Int.natCast_nonneg, Int.toNat_natCast, Int.ofNat_lt, hz, and_self, if_true]

theorem has99 (c : UInt8) : FnOk Tryd.prog 99 [.ptr 0 0, .val (.int .u8 c.toNat)] [.cells asc] (fun r bs' => r = bV (bad c) ∧ bs' = [.cells asc]) := by
  refine FnOk.of layOk Tryd.func99 rfl ?_
  refine Ok.seq (go 10 rfl ?_)
  refine Ok.seq (Ok.regionW (G := fun _ => true) (C := TabP _) mixed layOk noT TabP_calm (.inl rfl) ?_)
  refine wstepN rfl rfl (by dsimp only [putV, List.set]) ?_
  refine wstepN rfl rfl (by dsimp only [putV, List.set]) ?_
  refine wstepN rfl rfl (by dsimp only [putV, List.set]) ?_
  refine wstepN rfl (ixC rfl rfl rfl rfl c.toNat_lt) (by dsimp only [putV, List.set]) ?_
  refine wstepN rfl (ldC rfl rfl rfl (by rw [Nat.zero_add, Nat.mul_one]; exact asc_at c)) (by dsimp only [putV, List.set]) ?_
  refine wstepN rfl rfl (by dsimp only [putV, List.set]) ?_
  refine wnil (Ok.ret ⟨fun _ h => (by cases h), _, rfl, rfl, rfl⟩)

inductive T99 : FuncId → List V → List Bx → V → List Bx → Prop
  | k (c : UInt8) (n : Nat) (h : c.toNat = n) : T99 99 [.ptr 0 0, .val (.int .u8 n)] [.cells asc] (bV (bad c)) [.cells asc]
theorem T99_good : Good Tryd.prog (TabB T99) := TabB_good fun f vs bs v bs' h => by
  cases h with
  | k c n h => subst h; exact ⟨has99 c, Tryd.call99⟩
theorem T99_calm {G : FuncId → Bool} (h : G 99 = false) : Calm G (TabB T99) := by
  intro f vs hg
  refine .inl fun bs => ?_
  unfold TabB
  rw [dif_neg]
  rintro ⟨p, hp⟩
  generalize p.1 = a at hp
  generalize p.2 = b at hp
  cases hp with
  | k c n h0 => rw [h] at hg; cases hg

def anyIdx (s : List UInt8) : Int := match s.findIdx? bad with
  | some i => (i : Int)
  | none => -1
theorem anyIdx_at {s : List UInt8} {k : Nat} {c : UInt8} (h : (s.take k).any bad = false) (hk : s[k]? = some c) (hc : bad c = true) : anyIdx s = (k : Int) := by
  have hlt : k < s.length := (List.getElem?_eq_some_iff.1 hk).1
  have : s.findIdx? bad = some k := by
    rw [List.findIdx?_eq_some_iff_getElem]
    refine ⟨hlt, ?_, fun j hj => ?_⟩
    · rw [List.getElem?_eq_getElem hlt] at hk
      obtain rfl := Option.some.inj hk
      exact hc
    · have h1 := List.any_eq_false.1 h s[j] (List.mem_iff_getElem.2 ⟨j, by simp; omega, by simp⟩)
      simpa using h1
  unfold anyIdx
  rw [this]
theorem anyIdx_none {s : List UInt8} (h : s.any bad = false) : anyIdx s = -1 := by
  have : s.findIdx? bad = none := by
    rw [List.findIdx?_eq_none_iff]
    intro x hx
    have := List.any_eq_false.1 h x hx
    simpa using this
  unfold anyIdx
  rw [this]
theorem take_any {s : List UInt8} {k : Nat} {c : UInt8} (h : (s.take k).any bad = false) (hk : s[k]? = some c) (hc : bad c = false) : (s.take (k + 1)).any bad = false := by
  rw [List.take_add_one, List.any_append, h, hk]
  simp [hc]
theorem anyIdx_pos (s : List UInt8) : decide (anyIdx s ≥ 0) = s.any bad := by
  unfold anyIdx
  cases h : s.findIdx? bad with
  | none =>
    have h1 := List.findIdx?_eq_none_iff.1 h
    have : s.any bad = false := List.any_eq_false.2 fun x hx => by simp [h1 x hx]
    rw [this]
    rfl
  | some i =>
    obtain ⟨h1, h2, _⟩ := List.findIdx?_eq_some_iff_getElem.1 h
    have : s.any bad = true := List.any_eq_true.2 ⟨_, List.getElem_mem h1, h2⟩
    rw [this]
    simp

theorem dec_cont {l : List UInt8} {p k : Nat} (h : (decide (p + k < (B l).size) && ((B l).get! (p + k)).toNat / 64 == 2) = true) : ∃ d, l[p + k]? = some d ∧ 128 ≤ d.toNat := by
  simp only [Bool.and_eq_true, decide_eq_true_eq, beq_iff_eq] at h
  obtain ⟨h1, h2⟩ := h
  rw [B_size] at h1
  refine ⟨l[p + k], List.getElem?_eq_getElem h1, ?_⟩
  have : (B l).get! (p + k) = l[p + k] := by
    simp [ByteArray.get!, B, h1]
  rw [this] at h2
  omega
theorem dec_hi {l : List UInt8} {p : Nat} {c : UInt8} (hp : l[p]? = some c) (hc : 128 ≤ c.toNat) : ∀ j, p < j → j < p + (Utf8.decode (B l) p).2 → ∃ d, l[j]? = some d ∧ 128 ≤ d.toNat := by
  intro j hj
  obtain ⟨k, rfl⟩ : ∃ k, j = p + k := ⟨j - p, by omega⟩
  unfold Utf8.decode
  simp only
  split
  · intro h; omega
  split
  · rename_i h1
    rw [Bool.and_eq_true] at h1
    split
    · intro h
      obtain rfl : k = 1 := by omega
      exact dec_cont h1.2
    · intro h; omega
  split
  · rename_i h1
    rw [Bool.and_eq_true, Bool.and_eq_true] at h1
    split
    · intro h
      rcases (show k = 1 ∨ k = 2 by omega) with rfl | rfl
      · exact dec_cont h1.1.2
      · exact dec_cont h1.2
    · intro h; omega
  split
  · rename_i h1
    rw [Bool.and_eq_true, Bool.and_eq_true, Bool.and_eq_true] at h1
    split
    · intro h
      rcases (show k = 1 ∨ k = 2 ∨ k = 3 by omega) with rfl | rfl | rfl
      · exact dec_cont h1.1.1.2
      · exact dec_cont h1.1.2
      · exact dec_cont h1.2
    · intro h; omega
  · intro h; omega
theorem B_at {l : List UInt8} {p : Nat} {c : UInt8} (hp : l[p]? = some c) : ∃ h : p < (B l).size, (B l)[p]'h = c := by
  have h1 : p < l.length := (List.getElem?_eq_some_iff.1 hp).1
  have h2 : p < (B l).size := by rw [B_size]; exact h1
  refine ⟨h2, ?_⟩
  have h3 := B_get l p
  rw [getElem?_pos (B l) p h2, hp] at h3
  exact Option.some.inj h3
theorem bad_lo {c : UInt8} (h : 128 ≤ c.toNat) : bad c = false := by
  unfold bad
  have h1 : c ≠ 47 := fun e => by subst e; simp at h
  have h2 : c ≠ 0 := fun e => by subst e; simp at h
  simp [h1, h2]
theorem dec_is {l : List UInt8} {p : Nat} {c : UInt8} (hp : l[p]? = some c) : 1 ≤ (Utf8.decode (B l) p).2 ∧ (Utf8.decode (B l) p).1 ≤ 2147483647 ∧ ∀ j, p < j → j < p + (Utf8.decode (B l) p).2 → ∃ d, l[j]? = some d ∧ bad d = false := by
  obtain ⟨h2, h3⟩ := B_at hp
  refine ⟨?_, decode_le _ _, ?_⟩
  · rcases Nat.lt_or_ge c.toNat 128 with h | h
    · rw [decode_ascii (B l) p h2 (by rw [h3]; exact h)]
      exact Nat.le_refl _
    · exact (decode_high (B l) p h2 (by rw [h3]; exact h)).2
  · intro j hj hlt
    rcases Nat.lt_or_ge c.toNat 128 with h | h
    · rw [decode_ascii (B l) p h2 (by rw [h3]; exact h)] at hlt
      omega
    · obtain ⟨d, hd, hd2⟩ := dec_hi hp h j hj hlt
      exact ⟨d, hd, bad_lo hd2⟩
theorem idx_bad {l : List UInt8} {p : Nat} {c : UInt8} (hp : l[p]? = some c) : decide (runeIdx (Utf8.decode (B l) p).1 ≥ 0) = bad c ∧ True := by
  obtain ⟨h2, h3⟩ := B_at hp
  refine ⟨?_, trivial⟩
  rcases Nat.lt_or_ge c.toNat 128 with h | h
  · rw [decode_ascii (B l) p h2 (by rw [h3]; exact h), h3]
    unfold runeIdx bad
    by_cases h47 : c = 47
    · subst h47; rfl
    · have : ¬ c.toNat = 47 := fun e => h47 (UInt8.toNat_inj.1 e)
      rw [if_neg this]
      by_cases h0 : c = 0
      · subst h0; rfl
      · have : ¬ c.toNat = 0 := fun e => h0 (UInt8.toNat_inj.1 e)
        rw [if_neg this]
        simp [h47, h0]
  · have h5 := (decode_high (B l) p h2 (by rw [h3]; exact h)).1
    rw [bad_lo h]
    unfold runeIdx
    rw [if_neg (by omega), if_neg (by omega)]
    rfl
theorem take_anys {s : List UInt8} {k w : Nat} {c : UInt8} (h : (s.take k).any bad = false) (hk : s[k]? = some c) (hc : bad c = false) (hw : ∀ j, k < j → j < k + w → ∃ d, s[j]? = some d ∧ bad d = false) : (s.take (k + w)).any bad = false := by
  refine List.any_eq_false.2 fun x hx => ?_
  obtain ⟨j, hj⟩ := List.mem_iff_getElem?.1 hx
  rw [List.getElem?_take] at hj
  split at hj
  · rename_i hlt
    rcases Nat.lt_trichotomy j k with h1 | rfl | h1
    · exact List.any_eq_false.1 h x (List.mem_iff_getElem?.2 ⟨j, by rw [List.getElem?_take, if_pos h1]; exact hj⟩)
    · obtain rfl := Option.some.inj (hj.symm.trans hk)
      simp [hc]
    · obtain ⟨d, hd, hd2⟩ := hw j h1 hlt
      obtain rfl := Option.some.inj (hj.symm.trans hd)
      simp [hd2]
  · cases hj

inductive T77 (n : Nat) : FuncId → List V → V → Prop
  | k97 : T77 n 97 [iV n] (bV (decide ((n : Int) > 8)))
  | k98 : T77 n 98 [T nul] (.tup [.agg asc, bV true])
  | k96 (c : Nat) (hc : c ≤ 2147483647) : T77 n 96 [T nul, .val (.int .i32 c)] (iV (runeIdx c))
theorem T77_good (n : Nat) : Good Tryd.prog (TabP (T77 n)) := TabP_good fun f vs v h => by
  cases h with
  | k97 => exact ⟨use97 n, rfl, rfl, Tryd.call97⟩
  | k98 => exact ⟨set98, rfl, rfl, Tryd.call98⟩
  | k96 c hc => exact ⟨rune96 c hc, rfl, rfl, Tryd.call96⟩

theorem any77 (s : List UInt8) (hs : s.length ≤ 1000) : FnOk Tryd.prog 77 [T s, T nul] [] (fun r bs' => fr bs' r = iV (anyIdx s)) := by
  refine FnOk.fast (Q := fun r => r = iV (anyIdx s)) layOk Tryd.func77 rfl ?_
  have hT := T77_good s.length
  have hq1 : decide (nul = []) = false := rfl
  have hq2 : (((nul.length : Nat) : Int) == 1) = false := rfl
  refine Ok.seq (go 10 rfl ?_)
  refine Ok.seq ?_
  refine Ok.seq (Ok.regionW (G := fun _ => true) (C := TabP _) mixed layOk noT TabP_calm (.inl rfl) ?_)
  refine wstepN rfl rfl (by dsimp only [putV, List.set]) ?_
  first
    | refine wstepN rfl (eqT (by assumption) rfl rfl) (by dsimp only [putV, List.set]) ?_
    | refine wstepN rfl rfl (by dsimp only [putV, List.set]) ?_
  refine wnil (Ok.cond (b := false) rfl (fun h => by cases h) (fun _ => ?_))
  refine Ok.skip ?_
  refine Ok.seq ?_
  refine Ok.seq (Ok.regionW (G := fun _ => true) (C := TabP _) mixed layOk noT TabP_calm (.inl rfl) ?_)
  refine wstepN rfl rfl (by dsimp only [putV, List.set]) ?_
  first
    | refine wstepN rfl (lenT rfl rfl) (by dsimp only [putV, List.set]) ?_
    | refine wstepN rfl rfl (by dsimp only [putV, List.set]) ?_
  first
    | refine wstepN rfl (eqlK (by assumption) rfl rfl) (by dsimp only [putV, List.set]) ?_
    | refine wstepN rfl rfl (by dsimp only [putV, List.set]) ?_
  refine wnil (Ok.cond (b := false) rfl (fun h => by cases h) (fun _ => ?_))
  refine Ok.skip ?_
  refine Ok.seq ?_
  refine Ok.seq (Ok.regionW (G := fun _ => true) (C := TabP _) mixed layOk hT TabP_calm (.inl rfl) ?_)
  refine wstepN rfl rfl (by dsimp only [putV, List.set]) ?_
  first
    | refine wstepN rfl (lenT rfl rfl) (by dsimp only [putV, List.set]) ?_
    | refine wstepN rfl rfl (by dsimp only [putV, List.set]) ?_
  first
    | refine wstepN rfl (TabP_hit (fun v' h => by cases h; rfl) (by constructor)) (by dsimp only [putV, List.set]) ?_
    | refine wstepN rfl (TabP_hit (fun v' h => by cases h; rfl) (by assumption)) (by dsimp only [putV, List.set]) ?_
    | refine wstepN rfl rfl (by dsimp only [putV, List.set]) ?_
  refine wnil (Ok.cond (b := decide ((s.length : Int) > 8)) rfl (fun he => ?_) (fun he => ?_))
  · refine Ok.seq (Ok.regionW (G := fun _ => true) (C := TabP _) mixed layOk hT TabP_calm (.inl rfl) ?_)
    refine wstepN rfl rfl (by dsimp only [putV, List.set]) ?_
    first
      | refine wstepN rfl (TabP_hit (fun v' h => by cases h; rfl) (by constructor)) (by dsimp only [putV, List.set]) ?_
      | refine wstepN rfl (TabP_hit (fun v' h => by cases h; rfl) (by assumption)) (by dsimp only [putV, List.set]) ?_
      | refine wstepN rfl rfl (by dsimp only [putV, List.set]) ?_
    refine wstepN rfl rfl (by dsimp only [putV, List.set]) ?_
    refine wstepN rfl rfl (by dsimp only [putV, List.set]) ?_
    refine wstepN rfl rfl (by dsimp only [putV, List.set]) ?_
    refine wstepN rfl rfl (by dsimp only [putV, List.set]) ?_
    refine wstepN rfl rfl (by dsimp only [putV, List.set]) ?_
    refine wstepN rfl rfl (by dsimp only [putV, List.set]) ?_
    refine wnil ?_
    refine Ok.gc (bs2 := [.cells asc]) [0] [0, 4, 6, 7] (by kernel_rfl) (by decide) (floor_ok rfl) ?_
    refine Ok.seq (Ok.regionW (G := fun _ => true) (C := TabP _) mixed layOk noT TabP_calm (.inl rfl) ?_)
    refine wstepN rfl rfl (by dsimp only [putV, List.set]) ?_
    refine wnil (Ok.cond (b := true) rfl (fun _ => ?_) (fun h => by cases h))
    refine Ok.seq (Ok.seq ?_)
    refine go 10 rfl ?_
    refine Ok.gc (bs2 := [.cells asc]) [0] [0, 4, 6, 8] (by kernel_rfl) (by decide) (floor_ok rfl) ?_
    refine Ok.count s.length (fun k ts bs => (s.take k).any bad = false ∧ k ≤ s.length ∧ bs = [.cells asc] ∧ ts = ((((List.replicate 55 V.gone).set 0 (T s)).set 4 (iV 0)).set 6 (.ptr 0 0)).set 8 (iV (k : Int))) ?_ ?_
    · exact ⟨by simp, Nat.zero_le _, rfl, rfl⟩
    rintro k _ _ ⟨hno, hk, rfl, rfl⟩
    simp only [List.replicate, List.set]
    refine Ok.seq (Ok.seq ?_)
    cases hlt : decide (k < s.length)
    · refine Ok.regionW (G := fun _ => true) (C := TabP _) mixed layOk noT TabP_calm (.inl rfl) ?_
      refine wstepN rfl rfl (by dsimp only [putV, List.set]) ?_
      refine wstepN rfl rfl (by dsimp only [putV, List.set]) ?_
      first
        | refine wstepN rfl (lenT rfl rfl) (by dsimp only [putV, List.set]) ?_
        | refine wstepN rfl rfl (by dsimp only [putV, List.set]) ?_
      first
        | refine wstepN rfl (ltT (by assumption) rfl rfl) (by dsimp only [putV, List.set]) ?_
        | refine wstepN rfl (lssK (by assumption) rfl rfl) (by dsimp only [putV, List.set]) ?_
        | refine wstepN rfl rfl (by dsimp only [putV, List.set]) ?_
      refine wnil (Ok.cond (b := false) rfl (fun h => by cases h) (fun _ => ?_))
      refine Ok.exit ?_
      have hk2 : k = s.length := by
        have : ¬ k < s.length := by simpa using hlt
        omega
      subst hk2
      rw [List.take_of_length_le (Nat.le_refl _)] at hno
      rw [anyIdx_none hno]
      exact go 10 rfl ⟨fun _ h => (by cases h), _, rfl, rfl⟩
    · have hlt' : k < s.length := by simpa using hlt
      obtain ⟨c, hc⟩ : ∃ c, s[k]? = some c := ⟨_, List.getElem?_eq_getElem hlt'⟩
      refine Ok.regionW (G := fun _ => true) (C := TabP _) mixed layOk noT TabP_calm (.inl rfl) ?_
      refine wstepN rfl rfl (by dsimp only [putV, List.set]) ?_
      refine wstepN rfl rfl (by dsimp only [putV, List.set]) ?_
      first
        | refine wstepN rfl (lenT rfl rfl) (by dsimp only [putV, List.set]) ?_
        | refine wstepN rfl rfl (by dsimp only [putV, List.set]) ?_
      first
        | refine wstepN rfl (ltT (by assumption) rfl rfl) (by dsimp only [putV, List.set]) ?_
        | refine wstepN rfl (lssK (by assumption) rfl rfl) (by dsimp only [putV, List.set]) ?_
        | refine wstepN rfl rfl (by dsimp only [putV, List.set]) ?_
      refine wnil (Ok.cond (b := true) rfl (fun _ => ?_) (fun h => by cases h))
      refine Ok.skip ?_
      refine Ok.after (Ok.seq (Ok.block (Ok.seq ?_)))
      refine Ok.regionW (G := fun _ => false) (C := TabB T99) mixed layOk T99_good (T99_calm rfl) (.inl rfl) ?_
      refine wstepN rfl rfl (by dsimp only [putV, List.set]) ?_
      refine wstepN rfl rfl (by dsimp only [putV, List.set]) ?_
      first
        | refine wstepN rfl (idxT rfl rfl rfl (by assumption)) (by dsimp only [putV, List.set]) ?_
        | refine wstepN rfl rfl (by dsimp only [putV, List.set]) ?_
      refine wstepN rfl (TabB_hit (fun v' b' h => by cases h with | k c' n h => exact ⟨by rw [UInt8.toNat_inj.1 h], rfl⟩) (.k c _ rfl)) (by dsimp only [putV, List.set]) ?_
      cases hb : bad c
      · refine wnil (Ok.cond (b := false) rfl (fun h => by cases h) (fun _ => ?_))
        refine Ok.skip ?_
        refine Ok.regionW (G := fun _ => true) (C := TabP _) mixed layOk noT TabP_calm (.inl rfl) ?_
        refine wstepN rfl rfl (by dsimp only [putV, List.set]) ?_
        first
          | refine wstepN rfl (incT (by omega) rfl rfl) (by dsimp only [putV, List.set]) ?_
          | refine wstepN rfl (addK (by assumption) rfl rfl) (by dsimp only [putV, List.set]) ?_
          | refine wstepN rfl rfl (by dsimp only [putV, List.set]) ?_
        refine wstepN rfl rfl (by dsimp only [putV, List.set]) ?_
        refine wnil ?_
        exact ⟨[0], [0, 4, 6, 8], [.cells asc], by kernel_rfl, by decide, floor_ok rfl, hlt', take_any hno hc hb, hlt', rfl, rfl⟩
      · refine wnil (Ok.cond (b := true) rfl (fun _ => ?_) (fun h => by cases h))
        rw [anyIdx_at hno hc hb]
        refine Ok.seq (Ok.regionW (G := fun _ => true) (C := TabP _) mixed layOk noT TabP_calm (.inl rfl) ?_)
        refine wstepN rfl rfl (by dsimp only [putV, List.set]) ?_
        refine wstepN rfl rfl (by dsimp only [putV, List.set]) ?_
        refine wnil (Ok.ret ?_)
        exact ⟨[0], [0, 4, 6, 8], [.cells asc], by kernel_rfl, by decide, floor_ok rfl, fun _ h => (by cases h), _, rfl, rfl⟩
  · refine Ok.skip ?_
    refine Ok.seq (Ok.seq ?_)
    refine go 10 rfl ?_
    refine Ok.gc (bs2 := [.iter (B s) 0]) [0] [0, 1, 4, 45] (by kernel_rfl) (by decide) (floor_ok rfl) ?_
    refine Ok.block (Ok.loop (fun n ts bs => ∃ p, n = s.length - p ∧ (s.take p).any bad = false ∧ bs = [.iter (B s) p] ∧ ts = ((((List.replicate 55 V.gone).set 0 (T s)).set 1 (T nul)).set 4 (iV 0)).set 45 (.ptr 0 0)) s.length ?_ ?_)
    · exact ⟨0, by omega, by simp, rfl, rfl⟩
    rintro n _ _ ⟨p, rfl, hno, rfl, rfl⟩
    simp only [List.replicate, List.set]
    refine Ok.seq ?_
    cases hlt : decide (p < s.length)
    · have hge : ¬ p < s.length := by simpa using hlt
      refine Ok.regionW (G := fun _ => true) (C := TabP _) mixed layOk noT TabP_calm (.inl rfl) ?_
      refine wstepN rfl (next_out (p := p) (by rw [B_size]; exact hge) rfl rfl) (by dsimp only [putV, List.set]) ?_
      refine wstepN rfl rfl (by dsimp only [putV, List.set]) ?_
      refine wnil (Ok.seq (Ok.cond (b := false) rfl (fun h => by cases h) (fun _ => Ok.exit ?_)))
      rw [List.take_of_length_le (by omega)] at hno
      rw [anyIdx_none hno]
      exact go 10 rfl ⟨fun _ h => (by cases h), _, rfl, rfl⟩
    · have hlt' : p < s.length := by simpa using hlt
      obtain ⟨c, hc⟩ : ∃ c, s[p]? = some c := ⟨_, List.getElem?_eq_getElem hlt'⟩
      obtain ⟨hw, hr, hskip⟩ := dec_is hc
      obtain ⟨hb1, hb2⟩ := idx_bad hc
      refine Ok.regionW (G := fun _ => true) (C := TabP _) mixed layOk noT TabP_calm (.inl rfl) ?_
      refine wstepN rfl (next_in (p := p) (by rw [B_size]; exact hlt') rfl rfl) (by dsimp only [putV, List.set]) ?_
      refine wstepN rfl rfl (by dsimp only [putV, List.set]) ?_
      refine wnil (Ok.seq (Ok.cond (b := true) rfl (fun _ => Ok.skip ?_) (fun h => by cases h)))
      refine Ok.after (Ok.block (Ok.seq ?_))
      refine Ok.regionW (G := fun _ => true) (C := TabP _) mixed layOk noT TabP_calm (.inl rfl) ?_
      refine wstepN rfl rfl (by dsimp only [putV, List.set]) ?_
      refine wstepN rfl rfl (by dsimp only [putV, List.set]) ?_
      refine wstepN rfl rfl (by dsimp only [putV, List.set]) ?_
      refine wstepN rfl rfl (by dsimp only [putV, List.set]) ?_
      refine wnil ?_
      refine Ok.seq ?_
      refine Ok.regionW (G := fun _ => true) (C := TabP _) mixed layOk hT TabP_calm (.inl rfl) ?_
      refine wstepN rfl rfl (by dsimp only [putV, List.set]) ?_
      refine wstepN rfl rfl (by dsimp only [putV, List.set]) ?_
      refine wstepN rfl (TabP_hit (fun v' h => by cases h; rfl) (.k96 _ hr)) (by dsimp only [putV, List.set]) ?_
      cases hb : bad c
      · refine wstepN rfl (geqK (v := false) (by rw [hb1]; exact hb) rfl rfl) (by dsimp only [putV, List.set]) ?_
        refine wnil (Ok.cond (b := false) rfl (fun h => by cases h) (fun _ => ?_))
        refine Ok.skip ?_
        exact ⟨[0], [0, 1, 4, 45], [.iter (B s) (p + (Utf8.decode (B s) p).2)], by kernel_rfl, by decide, floor_ok rfl, s.length - (p + (Utf8.decode (B s) p).2), by omega, p + (Utf8.decode (B s) p).2, rfl, take_anys hno hc hb hskip, rfl, rfl⟩
      · refine wstepN rfl (geqK (v := true) (by rw [hb1]; exact hb) rfl rfl) (by dsimp only [putV, List.set]) ?_
        refine wnil (Ok.cond (b := true) rfl (fun _ => ?_) (fun h => by cases h))
        rw [anyIdx_at hno hc hb]
        refine Ok.seq (Ok.regionW (G := fun _ => true) (C := TabP _) mixed layOk noT TabP_calm (.inl rfl) ?_)
        refine wstepN rfl rfl (by dsimp only [putV, List.set]) ?_
        refine wstepN rfl rfl (by dsimp only [putV, List.set]) ?_
        refine wnil (Ok.ret ?_)
        exact ⟨[0], [0, 1, 4, 45], [.iter (B s) (p + (Utf8.decode (B s) p).2)], by kernel_rfl, by decide, floor_ok rfl, fun _ h => (by cases h), _, rfl, rfl⟩

theorem has61 (s : List UInt8) (hs : s.length ≤ 1000) : FnOk Tryd.prog 61 [T s, T nul] [] (fun r bs' => fr bs' r = bV (s.any bad)) := by
  refine FnOk.fast (Q := fun r => r = bV (s.any bad)) layOk Tryd.func61 rfl ?_
  have hT : Good Tryd.prog (Tab [((77 : FuncId), [T s, T nul], iV (anyIdx s))]) := Tab_good fun e he => by
    obtain rfl := List.mem_singleton.1 he
    exact fact (any77 s hs) rfl rfl Tryd.call77
  refine Ok.seq (go 10 rfl ?_)
  refine Ok.seq (Ok.regionW (G := fun _ => true) (C := Tab _) mixed layOk hT Tab_calm (.inl rfl) ?_)
  refine wstepN rfl rfl (by dsimp only [putV, List.set]) ?_
  refine wstepN rfl rfl (by dsimp only [putV, List.set]) ?_
  refine wstepN rfl Tab_hit (by dsimp only [putV, List.set]) ?_
  refine wstepN rfl (geqK (anyIdx_pos s) rfl rfl) (by dsimp only [putV, List.set]) ?_
  refine wstepN rfl rfl (by dsimp only [putV, List.set]) ?_
  refine wnil (Ok.ret ⟨fun _ h => (by cases h), _, rfl, rfl⟩)

end Go.Proofs.YtiefcnghjcafbaaDoorV

/- Strings cut at slashes: strings.Split. -/
namespace Go.Proofs.YtiefcnghjcafbaaDoorV
open Go Go.RowKit Go.Proofs.YtiefcnghjcafbaaDoor
set_option maxRecDepth 20000
set_option maxHeartbeats 4000000

/-- Up to the first slash, and what follows it. -/
def brk : List UInt8 → List UInt8 × Option (List UInt8)
  | [] => ([], none)
  | c :: r => if c = 47 then ([], some r) else (c :: (brk r).1, (brk r).2)
def cnt (s : List UInt8) : Nat := Lib.countByte s 47
def splitB : List UInt8 → List (List UInt8)
  | [] => [[]]
  | c :: r => if c = 47 then [] :: splitB r else match splitB r with
    | p :: q => (c :: p) :: q
    | [] => [[c]]

theorem brk_none : ∀ {s p : List UInt8}, brk s = (p, none) → p = s ∧ cnt s = 0 ∧ splitB s = [s] ∧ firstIdx (B s) 47 = -1
  | [], p, h => by cases h; exact ⟨rfl, rfl, rfl, rfl⟩
  | c :: r, p, h => by
    unfold brk at h
    split at h
    · cases h
    · rename_i hc
      obtain ⟨p', hp'⟩ : ∃ p', brk r = (p', none) := ⟨(brk r).1, Prod.ext rfl (by have := congrArg Prod.snd h; exact this)⟩
      obtain ⟨h1, h2, h3, h4⟩ := brk_none hp'
      rw [hp'] at h
      cases h
      subst h1
      refine ⟨rfl, ?_, ?_, ?_⟩
      · unfold cnt Lib.countByte at h2 ⊢
        rw [List.count_cons, h2]
        simp [hc]
      · unfold splitB
        rw [if_neg hc, h3]
      · rw [Lib.firstIdx_eq] at h4 ⊢
        simp only [B] at h4 ⊢
        unfold Lib.indexByte
        simp [hc, h4]
theorem brk_some : ∀ {s p r : List UInt8}, brk s = (p, some r) → s = p ++ 47 :: r ∧ cnt s = cnt r + 1 ∧ splitB s = p :: splitB r ∧ firstIdx (B s) 47 = (p.length : Int)
  | [], p, r, h => by cases h
  | c :: s, p, r, h => by
    unfold brk at h
    split at h
    · rename_i hc
      cases h
      subst hc
      refine ⟨rfl, ?_, ?_, ?_⟩
      · unfold cnt Lib.countByte
        rw [List.count_cons]
        simp
      · rw [splitB]
        simp
      · rw [Lib.firstIdx_eq]
        simp only [B]
        unfold Lib.indexByte
        simp
    · rename_i hc
      obtain ⟨p', hp'⟩ : ∃ p', brk s = (p', some r) := ⟨(brk s).1, Prod.ext rfl (by have := congrArg Prod.snd h; exact this)⟩
      obtain ⟨h1, h2, h3, h4⟩ := brk_some hp'
      rw [hp'] at h
      cases h
      refine ⟨by rw [h1]; rfl, ?_, ?_, ?_⟩
      · unfold cnt Lib.countByte at h2 ⊢
        rw [List.count_cons, h2]
        simp [hc]
      · rw [splitB, if_neg hc, h3]
      · rw [Lib.firstIdx_eq] at h4 ⊢
        simp only [B] at h4 ⊢
        unfold Lib.indexByte
        simp [hc, h4]

theorem rnL_vals {ks : List Nat} : ∀ {l : List V}, (∀ x ∈ l, ∃ v, x = .val v) → rnL ks l = some l
  | [], _ => rfl
  | x :: l, h => by
    obtain ⟨v, rfl⟩ := h x List.mem_cons_self
    rw [rnL, rnL_vals fun y hy => h y (List.mem_cons_of_mem _ hy)]
    rfl
theorem gcB {cs : List V} {r : List Bx} (h : ∀ x ∈ cs, ∃ v, x = .val v) : rnBs (.cells cs :: r) [0] [0] = some [.cells cs] := by
  have h1 : rnB [0] (.cells cs) = some (.cells cs) := by simp only [rnB, rnL_vals h, Option.map_some]
  have h2 : ((Bx.cells cs :: r)[0]?).bind (rnB [0]) = some (.cells cs) := h1
  rw [rnBs, h2]
  rfl
theorem minV {L : Lay} {C : CallT} {ts : List V} {bs : List Bx} {t t' : TypeId} {x y : Operand} {k : IntKind} {a b n : Int} (h : (if b < a then b else a) = n) (hx : evO ts x = some (.val (.int k a))) (hy : evO ts y = some (.val (.int k b))) : evX L C (.call { callee := .builtin .min, args := #[x, y], argTypes := #[t, t'] }) ts bs = some (.val (.int k n), bs) := by
  subst h
  simp only [evX, evCall, hx, hy]

theorem T_vals (done : List (List UInt8)) (n : Nat) : ∀ x ∈ done.map T ++ List.replicate n (T []), ∃ v, x = .val v := fun x hx => by
  rcases List.mem_append.1 hx with h | h
  · obtain ⟨a, _, rfl⟩ := List.mem_map.1 h
    exact ⟨_, rfl⟩
  · rw [(List.mem_replicate.1 h).2]
    exact ⟨_, rfl⟩
theorem put_T {done : List (List UInt8)} {k n : Nat} {p : List UInt8} (hk : done.length = k) (hn : k < n) : (done.map T ++ List.replicate (n - k) (T [])).set k (T p) = (done ++ [p]).map T ++ List.replicate (n - (k + 1)) (T []) := by
  obtain ⟨m, rfl⟩ : ∃ m, n = k + (m + 1) := ⟨n - k - 1, by omega⟩
  rw [show k + (m + 1) - k = m + 1 by omega, show k + (m + 1) - (k + 1) = m by omega, List.set_append_right _ _ (by simp [hk]), List.replicate_succ]
  simp [hk]

inductive T60 (s : List UInt8) : FuncId → List V → V → Prop
  | c : T60 s 75 [T s, T [47]] (iV (cnt s : Int))
  | i (r : List UInt8) : T60 s 76 [T r, T [47]] (iV (firstIdx (B r) 47))
theorem T60_good (s : List UInt8) : Good Tryd.prog (TabP (T60 s)) := TabP_good fun f vs v h => by
  cases h with
  | c => exact ⟨count75 (B s), rfl, rfl, Tryd.call75⟩
  | i r => exact ⟨index76 (B r), rfl, rfl, Tryd.call76⟩

theorem gen60 (s : List UInt8) (hs : s.length ≤ 100000) : FnOk Tryd.prog 60 [T s, T [47], iV 0, iV (-1)] [] (fun r bs' => fr bs' r = .sl (rowsT (splitB s))) := by
  refine FnOk.fast (Q := fun r => r = .sl (rowsT (splitB s))) layOk Tryd.func60 rfl ?_
  have hT := T60_good s
  have hq0 : ((-1 : Int) == 0) = false := rfl
  have hq1 : decide (([47] : List UInt8) = []) = false := rfl
  have hq2 : decide ((-1 : Int) < 0) = true := rfl
  have hNl : cnt s ≤ s.length := List.count_le_length
  generalize hN : cnt s = N at hNl
  have hsub : IntKind.i64.wrap (((N + 1 : Nat) : Int) - 1) = (N : Int) := by rw [wrap64 (by omega) (by omega)]; omega
  have hmin : (if ((s.length + 1 : Nat) : Int) < ((N + 1 : Nat) : Int) then ((s.length + 1 : Nat) : Int) else ((N + 1 : Nat) : Int)) = ((N + 1 : Nat) : Int) := if_neg (by omega)
  refine Ok.seq (go 10 rfl ?_)
  refine Ok.seq ?_
  refine Ok.seq (Ok.regionW (G := fun _ => true) (C := TabP _) mixed layOk noT TabP_calm (.inl rfl) ?_)
  refine wstepN rfl rfl (by dsimp only [putV, List.set]) ?_
  first
    | refine wstepN rfl (eqlK (by assumption) rfl rfl) (by dsimp only [putV, List.set]) ?_
    | refine wstepN rfl rfl (by dsimp only [putV, List.set]) ?_
  refine wnil (Ok.cond (b := false) rfl (fun h => by cases h) (fun _ => ?_))
  refine Ok.skip ?_
  refine Ok.seq ?_
  refine Ok.seq (Ok.regionW (G := fun _ => true) (C := TabP _) mixed layOk noT TabP_calm (.inl rfl) ?_)
  refine wstepN rfl rfl (by dsimp only [putV, List.set]) ?_
  first
    | refine wstepN rfl (eqT (by assumption) rfl rfl) (by dsimp only [putV, List.set]) ?_
    | refine wstepN rfl rfl (by dsimp only [putV, List.set]) ?_
  refine wnil (Ok.cond (b := false) rfl (fun h => by cases h) (fun _ => ?_))
  refine Ok.skip ?_
  refine Ok.seq ?_
  refine Ok.seq (Ok.regionW (G := fun _ => true) (C := TabP _) mixed layOk noT TabP_calm (.inl rfl) ?_)
  refine wstepN rfl rfl (by dsimp only [putV, List.set]) ?_
  first
    | refine wstepN rfl (ltT (by assumption) rfl rfl) (by dsimp only [putV, List.set]) ?_
    | refine wstepN rfl (lssK (by assumption) rfl rfl) (by dsimp only [putV, List.set]) ?_
    | refine wstepN rfl rfl (by dsimp only [putV, List.set]) ?_
  refine wnil (Ok.cond (b := true) rfl (fun _ => ?_) (fun h => by cases h))
  refine Ok.regionW (G := fun _ => true) (C := TabP _) mixed layOk hT TabP_calm (.inl rfl) ?_
  refine wstepN rfl rfl (by dsimp only [putV, List.set]) ?_
  refine wstepN rfl rfl (by dsimp only [putV, List.set]) ?_
  refine wstepN rfl (TabP_hit (v := iV (N : Int)) (fun v' h => by cases h; rw [hN]) (hN ▸ .c)) (by dsimp only [putV, List.set]) ?_
  first
    | refine wstepN rfl (incT (by omega) rfl rfl) (by dsimp only [putV, List.set]) ?_
    | refine wstepN rfl (addK (by assumption) rfl rfl) (by dsimp only [putV, List.set]) ?_
    | refine wstepN rfl rfl (by dsimp only [putV, List.set]) ?_
  refine wstepN rfl rfl (by dsimp only [putV, List.set]) ?_
  refine wnil ?_
  refine Ok.seq (Ok.regionW (G := fun _ => true) (C := TabP _) mixed layOk noT TabP_calm (.inl rfl) ?_)
  refine wstepN rfl rfl (by dsimp only [putV, List.set]) ?_
  refine wstepN rfl rfl (by dsimp only [putV, List.set]) ?_
  first
    | refine wstepN rfl (lenT rfl rfl) (by dsimp only [putV, List.set]) ?_
    | refine wstepN rfl rfl (by dsimp only [putV, List.set]) ?_
  first
    | refine wstepN rfl (incT (by omega) rfl rfl) (by dsimp only [putV, List.set]) ?_
    | refine wstepN rfl (addK (by assumption) rfl rfl) (by dsimp only [putV, List.set]) ?_
    | refine wstepN rfl rfl (by dsimp only [putV, List.set]) ?_
  refine wstepN rfl (minV hmin rfl rfl) (by dsimp only [putV, List.set]) ?_
  refine wstepN rfl rfl (by dsimp only [putV, List.set]) ?_
  refine wnil ?_
  refine Ok.seq (Ok.regionW (G := fun _ => true) (C := TabP _) mixed layOk noT TabP_calm (.inl rfl) ?_)
  refine wstepN rfl rfl (by dsimp only [putV, List.set]) ?_
  refine wstepN rfl (mkW (n := N + 1) (z := T []) (by omega) (by omega) rfl rfl rfl rfl rfl) (by dsimp only [putV, List.set]) ?_
  refine wstepN rfl rfl (by dsimp only [putV, List.set]) ?_
  refine wnil ?_
  refine Ok.seq (Ok.regionW (G := fun _ => true) (C := TabP _) mixed layOk noT TabP_calm (.inl rfl) ?_)
  refine wstepN rfl rfl (by dsimp only [putV, List.set]) ?_
  first
    | refine wstepN rfl (subK (by assumption) rfl rfl) (by dsimp only [putV, List.set]) ?_
    | refine wstepN rfl rfl (by dsimp only [putV, List.set]) ?_
  refine wstepN rfl rfl (by dsimp only [putV, List.set]) ?_
  refine wnil ?_
  refine Ok.seq (Ok.regionW (G := fun _ => true) (C := TabP _) mixed layOk noT TabP_calm (.inl rfl) ?_)
  refine wstepN rfl rfl (by dsimp only [putV, List.set]) ?_
  refine wnil ?_
  refine Ok.seq ?_
  refine Ok.gc (bs2 := [.cells (List.replicate (N + 1) (T []))]) [0] [0, 1, 2, 3, 9, 10] (gcB (T_vals [] (N + 1))) (by decide) (floor_ok rfl) ?_
  refine Ok.count N (fun k ts bs => ∃ done rest, splitB s = done ++ splitB rest ∧ done.length = k ∧ k + cnt rest = N ∧ rest.length ≤ s.length ∧ bs = [.cells (done.map T ++ List.replicate (N + 1 - k) (T []))] ∧ ts = ((((((List.replicate 66 V.gone).set 0 (T rest)).set 1 (T [47])).set 2 (iV 0)).set 3 (iV (N : Int))).set 9 (.win 0 1 0 (N + 1) (N + 1))).set 10 (iV (k : Int))) ?_ ?_
  · exact ⟨[], s, rfl, rfl, by omega, Nat.le_refl _, rfl, rfl⟩
  rintro k _ _ ⟨done, rest, hsp, hdl, hcn, hrl, rfl, rfl⟩
  simp only [List.replicate, List.set]
  refine Ok.seq (Ok.seq ?_)
  cases hlt : decide (k < N)
  · have hk : k = N := by
      have : ¬ k < N := by simpa using hlt
      omega
    subst hk
    obtain ⟨p, o, hb⟩ : ∃ p o, brk rest = (p, o) := ⟨_, _, rfl⟩
    cases o with
    | some r => exact absurd (brk_some hb).2.1 (by omega)
    | none =>
      obtain ⟨_, _, h3, _⟩ := brk_none hb
      refine Ok.regionW (G := fun _ => true) (C := TabP _) mixed layOk noT TabP_calm (.inl rfl) ?_
      refine wstepN rfl rfl (by dsimp only [putV, List.set]) ?_
      refine wstepN rfl rfl (by dsimp only [putV, List.set]) ?_
      first
        | refine wstepN rfl (ltT (by assumption) rfl rfl) (by dsimp only [putV, List.set]) ?_
        | refine wstepN rfl (lssK (by assumption) rfl rfl) (by dsimp only [putV, List.set]) ?_
        | refine wstepN rfl rfl (by dsimp only [putV, List.set]) ?_
      refine wnil (Ok.cond (b := false) rfl (fun h => by cases h) (fun _ => ?_))
      refine Ok.exit ?_
      refine Ok.seq (Ok.regionW (G := fun _ => true) (C := TabP _) mixed layOk noT TabP_calm (.inl rfl) ?_)
      refine wstepN rfl rfl (by dsimp only [putV, List.set]) ?_
      refine wstepN rfl rfl (by dsimp only [putV, List.set]) ?_
      refine wstepN rfl rfl (by dsimp only [putV, List.set]) ?_
      refine wstepN rfl (ixW (z := k) (by omega) rfl rfl rfl) (by dsimp only [putV, List.set]) ?_
      refine wstepN rfl (stC (u := T rest) (cs' := (done ++ [rest]).map T ++ List.replicate (k + 1 - (k + 1)) (T [])) (by simp [hdl]) (put_T hdl (by omega)) rfl rfl rfl rfl rfl) (by dsimp only [putV, List.set]) ?_
      refine wnil ?_
      refine Ok.seq (Ok.regionW (G := fun _ => true) (C := TabP _) mixed layOk noT TabP_calm (.inl rfl) ?_)
      refine wstepN rfl rfl (by dsimp only [putV, List.set]) ?_
      refine wstepN rfl rfl (by dsimp only [putV, List.set]) ?_
      first
        | refine wstepN rfl (incT (by omega) rfl rfl) (by dsimp only [putV, List.set]) ?_
        | refine wstepN rfl (addK (by assumption) rfl rfl) (by dsimp only [putV, List.set]) ?_
        | refine wstepN rfl rfl (by dsimp only [putV, List.set]) ?_
      refine wstepN rfl (toW (h := k + 1) (by omega) rfl rfl rfl) (by dsimp only [putV, List.set]) ?_
      refine wstepN rfl rfl (by dsimp only [putV, List.set]) ?_
      refine wnil (Ok.ret ⟨fun _ h => (by cases h), _, rfl, ?_⟩)
      rw [hsp, h3]
      refine fr_rowsT (q := 0) (l := done ++ [rest]) ?_ (by simp [hdl])
      simp
  · have hlt' : k < N := by simpa using hlt
    obtain ⟨p, o, hb⟩ : ∃ p o, brk rest = (p, o) := ⟨_, _, rfl⟩
    cases o with
    | none => exact absurd (brk_none hb).2.1 (by omega)
    | some r =>
      obtain ⟨h1, h2, h3, h4⟩ := brk_some hb
      have hpl : p.length + 1 + r.length = rest.length := by rw [h1]; simp; omega
      have hdr : rest.drop (p.length + 1) = r := by rw [h1, show p ++ 47 :: r = (p ++ [47]) ++ r by simp]; exact List.drop_left' (by simp)
      have hneg : decide (firstIdx (B rest) 47 < 0) = false := by rw [h4]; simp
      have ha14 : IntKind.i64.wrap (firstIdx (B rest) 47 + 0) = ((p.length : Nat) : Int) := by rw [h4, wrap64 (by omega) (by omega)]; omega
      have ha15 : IntKind.i64.wrap (firstIdx (B rest) 47 + ((([47] : List UInt8).length : Nat) : Int)) = ((p.length + 1 : Nat) : Int) := by
        rw [h4, wrap64 (by simp; omega) (by simp; omega)]
        simp
      refine Ok.regionW (G := fun _ => true) (C := TabP _) mixed layOk noT TabP_calm (.inl rfl) ?_
      refine wstepN rfl rfl (by dsimp only [putV, List.set]) ?_
      refine wstepN rfl rfl (by dsimp only [putV, List.set]) ?_
      first
        | refine wstepN rfl (ltT (by assumption) rfl rfl) (by dsimp only [putV, List.set]) ?_
        | refine wstepN rfl (lssK (by assumption) rfl rfl) (by dsimp only [putV, List.set]) ?_
        | refine wstepN rfl rfl (by dsimp only [putV, List.set]) ?_
      refine wnil (Ok.cond (b := true) rfl (fun _ => ?_) (fun h => by cases h))
      refine Ok.skip ?_
      refine Ok.after (Ok.block ?_)
      refine Ok.seq (Ok.regionW (G := fun _ => true) (C := TabP _) mixed layOk hT TabP_calm (.inl rfl) ?_)
      refine wstepN rfl rfl (by dsimp only [putV, List.set]) ?_
      refine wstepN rfl rfl (by dsimp only [putV, List.set]) ?_
      refine wstepN rfl (TabP_hit (fun v' h => by cases h; rfl) (.i rest)) (by dsimp only [putV, List.set]) ?_
      refine wstepN rfl rfl (by dsimp only [putV, List.set]) ?_
      refine wnil ?_
      refine Ok.seq ?_
      refine Ok.seq (Ok.regionW (G := fun _ => true) (C := TabP _) mixed layOk noT TabP_calm (.inl rfl) ?_)
      refine wstepN rfl rfl (by dsimp only [putV, List.set]) ?_
      first
        | refine wstepN rfl (ltT (by assumption) rfl rfl) (by dsimp only [putV, List.set]) ?_
        | refine wstepN rfl (lssK (by assumption) rfl rfl) (by dsimp only [putV, List.set]) ?_
        | refine wstepN rfl rfl (by dsimp only [putV, List.set]) ?_
      refine wnil (Ok.cond (b := false) rfl (fun h => by cases h) (fun _ => ?_))
      refine Ok.skip ?_
      refine Ok.seq (Ok.regionW (G := fun _ => true) (C := TabP _) mixed layOk noT TabP_calm (.inl rfl) ?_)
      refine wstepN rfl rfl (by dsimp only [putV, List.set]) ?_
      refine wstepN rfl rfl (by dsimp only [putV, List.set]) ?_
      refine wstepN rfl rfl (by dsimp only [putV, List.set]) ?_
      refine wstepN rfl rfl (by dsimp only [putV, List.set]) ?_
      refine wstepN rfl rfl (by dsimp only [putV, List.set]) ?_
      first
        | refine wstepN rfl (addK (by assumption) rfl rfl) (by dsimp only [putV, List.set]) ?_
        | refine wstepN rfl rfl (by dsimp only [putV, List.set]) ?_
      refine wstepN rfl (cutToR (l' := p) (b := p.length) (by omega) (by rw [h1, List.take_left]) rfl rfl rfl) (by dsimp only [putV, List.set]) ?_
      refine wstepN rfl (ixW (z := k) (by omega) rfl rfl rfl) (by dsimp only [putV, List.set]) ?_
      refine wstepN rfl (stC (u := T p) (cs' := (done ++ [p]).map T ++ List.replicate (N + 1 - (k + 1)) (T [])) (by simp [hdl]; omega) (put_T hdl (by omega)) rfl rfl rfl rfl rfl) (by dsimp only [putV, List.set]) ?_
      refine wnil ?_
      refine Ok.seq (Ok.regionW (G := fun _ => true) (C := TabP _) mixed layOk noT TabP_calm (.inl rfl) ?_)
      refine wstepN rfl rfl (by dsimp only [putV, List.set]) ?_
      refine wstepN rfl rfl (by dsimp only [putV, List.set]) ?_
      refine wstepN rfl rfl (by dsimp only [putV, List.set]) ?_
      first
        | refine wstepN rfl (lenT rfl rfl) (by dsimp only [putV, List.set]) ?_
        | refine wstepN rfl rfl (by dsimp only [putV, List.set]) ?_
      first
        | refine wstepN rfl (addK (by assumption) rfl rfl) (by dsimp only [putV, List.set]) ?_
        | refine wstepN rfl rfl (by dsimp only [putV, List.set]) ?_
      refine wstepN rfl (cutFromR (l' := r) (a := p.length + 1) (by omega) hdr rfl rfl rfl) (by dsimp only [putV, List.set]) ?_
      refine wstepN rfl rfl (by dsimp only [putV, List.set]) ?_
      refine wnil ?_
      refine Ok.regionW (G := fun _ => true) (C := TabP _) mixed layOk noT TabP_calm (.inl rfl) ?_
      refine wstepN rfl rfl (by dsimp only [putV, List.set]) ?_
      first
        | refine wstepN rfl (incT (by omega) rfl rfl) (by dsimp only [putV, List.set]) ?_
        | refine wstepN rfl (addK (by assumption) rfl rfl) (by dsimp only [putV, List.set]) ?_
        | refine wstepN rfl rfl (by dsimp only [putV, List.set]) ?_
      refine wstepN rfl rfl (by dsimp only [putV, List.set]) ?_
      refine wnil ?_
      exact ⟨[0], [0, 1, 2, 3, 9, 10], [.cells ((done ++ [p]).map T ++ List.replicate (N + 1 - (k + 1)) (T []))], gcB (T_vals _ _), by decide, floor_ok rfl, hlt', done ++ [p], r, by rw [hsp, h3]; simp, by simp [hdl], by omega, by omega, rfl, rfl⟩

theorem split35 (s : List UInt8) (hs : s.length ≤ 100000) : FnOk Tryd.prog 35 [T s, T [47]] [] (fun r bs' => fr bs' r = .sl (rowsT (splitB s))) := by
  refine FnOk.fast (Q := fun r => r = .sl (rowsT (splitB s))) layOk Tryd.func35 rfl ?_
  have hT : Good Tryd.prog (Tab [((60 : FuncId), [T s, T [47], iV 0, iV (-1)], V.sl (rowsT (splitB s)))]) := Tab_good fun e he => by
    obtain rfl := List.mem_singleton.1 he
    exact fact (gen60 s hs) rfl rfl Tryd.call60
  refine Ok.seq (go 10 rfl ?_)
  refine Ok.seq (Ok.regionW (G := fun _ => true) (C := Tab _) mixed layOk hT Tab_calm (.inl rfl) ?_)
  refine wstepN rfl rfl (by dsimp only [putV, List.set]) ?_
  refine wstepN rfl rfl (by dsimp only [putV, List.set]) ?_
  refine wstepN rfl Tab_hit (by dsimp only [putV, List.set]) ?_
  refine wstepN rfl rfl (by dsimp only [putV, List.set]) ?_
  refine wnil (Ok.ret ⟨fun _ h => (by cases h), _, rfl, rfl⟩)

end Go.Proofs.YtiefcnghjcafbaaDoorV

/- Paths in plain terms: parts, parents, and what cleaning makes of them. -/
namespace Go.Proofs.YtiefcnghjcafbaaDoorV
open Go Go.RowKit Go.Proofs.YtiefcnghjcafbaaDoor
set_option maxRecDepth 20000

theorem splitB_ne : ∀ s, splitB s ≠ []
  | [] => by simp [splitB]
  | c :: r => by
    unfold splitB
    split
    · simp
    · split <;> simp
theorem splitB_app : ∀ {p r : List UInt8}, 47 ∉ p → splitB (p ++ 47 :: r) = p :: splitB r
  | [], r, _ => by simp [splitB]
  | c :: p, r, h => by
    have hc : ¬ c = 47 := fun e => h (by simp [e])
    have ih := splitB_app (p := p) (r := r) fun e => h (List.mem_cons_of_mem _ e)
    rw [List.cons_append, splitB, if_neg hc, ih]
theorem splitB_one : ∀ {p : List UInt8}, 47 ∉ p → splitB p = [p]
  | [], _ => rfl
  | c :: p, h => by
    have hc : ¬ c = 47 := fun e => h (by simp [e])
    have ih := splitB_one (p := p) fun e => h (List.mem_cons_of_mem _ e)
    rw [splitB, if_neg hc, ih]
theorem splitB_len : ∀ s, (splitB s).length ≤ s.length + 1
  | [] => by simp [splitB]
  | c :: r => by
    have := splitB_len r
    unfold splitB
    split
    · simp; omega
    · split
      · rename_i h; rw [h] at this; simp at this ⊢; omega
      · simp
theorem splitB_mem : ∀ {s p : List UInt8}, p ∈ splitB s → p.length ≤ s.length
  | [], p, h => by simp [splitB] at h; simp [h]
  | c :: r, p, h => by
    unfold splitB at h
    split at h
    · rcases List.mem_cons.1 h with rfl | h
      · simp
      · have := splitB_mem h; simp; omega
    · split at h
      · rename_i q l e
        rcases List.mem_cons.1 h with rfl | h
        · have := splitB_mem (s := r) (p := q) (by rw [e]; simp)
          simp; omega
        · have := splitB_mem (s := r) (p := p) (by rw [e]; exact List.mem_cons_of_mem _ h)
          simp; omega
      · rename_i e; exact absurd e (splitB_ne r)

/-- The parts, each behind a slash. -/
def tailB : List (List UInt8) → List UInt8
  | [] => []
  | c :: r => 47 :: (c ++ tailB r)
theorem tailB_app : ∀ a b, tailB (a ++ b) = tailB a ++ tailB b
  | [], b => rfl
  | c :: a, b => by simp [tailB, tailB_app a b]
theorem tail_split : ∀ t, tailB (splitB t) = 47 :: t
  | [] => rfl
  | c :: r => by
    have ih := tail_split r
    unfold splitB
    split
    · rename_i h; subst h; simp [tailB, ih]
    · split
      · rename_i e; rw [e] at ih; simp [tailB] at ih ⊢; exact ih
      · rename_i e; exact absurd e (splitB_ne r)
theorem split_tail : ∀ {cs : List (List UInt8)} {c : List UInt8}, 47 ∉ c → (∀ d ∈ cs, (47 : UInt8) ∉ d) → splitB (c ++ tailB cs) = c :: cs
  | [], c, hc, _ => by simp [tailB, splitB_one hc]
  | d :: cs, c, hc, h => by
    rw [tailB, splitB_app hc, split_tail (h d (by simp)) fun x hx => h x (List.mem_cons_of_mem _ hx)]

def nameB (c : List UInt8) : Bool := decide (1 ≤ c.length) && decide (c.length ≤ 32) && !c.any bad && !decide (c = [46]) && !decide (c = [46, 46])
theorem name_is {c : List UInt8} (h : nameB c = true) : c ≠ [] ∧ c.length ≤ 32 ∧ 47 ∉ c ∧ c ≠ [46] ∧ c ≠ [46, 46] := by
  simp only [nameB, Bool.and_eq_true, decide_eq_true_eq, Bool.not_eq_true', decide_eq_false_iff_not] at h
  obtain ⟨⟨⟨⟨h1, h2⟩, h3⟩, h4⟩, h5⟩ := h
  refine ⟨fun e => by subst e; simp at h1, h2, fun e => ?_, h4, h5⟩
  have := List.any_eq_false.1 h3 47 e
  simp [bad] at this
def lastSlash : List UInt8 → Option Nat
  | [] => none
  | c :: r => match lastSlash r with
    | some i => some (i + 1)
    | none => if c = 47 then some 0 else none
theorem last_app : ∀ (l : List UInt8) (c : UInt8), lastSlash (l ++ [c]) = if c = 47 then some l.length else lastSlash l
  | [], c => by simp [lastSlash]
  | d :: l, c => by
    rw [List.cons_append, lastSlash, last_app l c]
    by_cases h : c = 47
    · simp [h]
    · simp [h, lastSlash]
theorem last_take {s : List UInt8} {k : Nat} {c : UInt8} (h : s[k]? = some c) : lastSlash (s.take (k + 1)) = if c = 47 then some k else lastSlash (s.take k) := by
  have hlt : k < s.length := (List.getElem?_eq_some_iff.1 h).1
  rw [List.take_add_one, h, Option.toList_some, last_app, List.length_take, Nat.min_eq_left (by omega)]
theorem last_none : ∀ {c : List UInt8}, 47 ∉ c → lastSlash c = none
  | [], _ => rfl
  | d :: c, h => by
    have hd : ¬ d = 47 := fun e => h (by simp [e])
    rw [lastSlash, last_none fun e => h (List.mem_cons_of_mem _ e), if_neg hd]
theorem last_mid : ∀ (x c : List UInt8), 47 ∉ c → lastSlash (x ++ 47 :: c) = some x.length
  | [], c, h => by simp [lastSlash, last_none h]
  | d :: x, c, h => by rw [List.cons_append, lastSlash, last_mid x c h]; rfl
theorem last_lt : ∀ {s : List UInt8} {i : Nat}, lastSlash s = some i → s[i]? = some 47
  | c :: r, i, h => by
    unfold lastSlash at h
    split at h
    · rename_i j e
      cases h
      simpa using last_lt e
    · split at h
      · rename_i hc; cases h; simp [hc]
      · cases h
/-- A path's parent. -/
def parentB (s : List UInt8) : List UInt8 := match lastSlash s with
  | some (i + 1) => s.take (i + 1)
  | _ => [47]
def pathB (s : List UInt8) : Bool := decide (s = [47]) || (decide (s.length ≤ 128) && decide (s.head? = some 47) && (splitB s.tail).all nameB)
/-- The path of these parts. -/
def render : List (List UInt8) → List UInt8
  | [] => [47]
  | c :: r => tailB (c :: r)
theorem render_snoc (cs : List (List UInt8)) (c : List UInt8) : render (cs ++ [c]) = tailB cs ++ 47 :: c := by
  cases cs with
  | nil => simp [render, tailB]
  | cons d cs => simp [render, tailB, tailB_app]
abbrev Names (cs : List (List UInt8)) : Prop := ∀ c ∈ cs, nameB c = true
theorem Names.slash {cs : List (List UInt8)} (h : Names cs) : ∀ c ∈ cs, (47 : UInt8) ∉ c := fun c hc => (name_is (h c hc)).2.2.1
theorem path_render {s : List UInt8} (h : pathB s = true) : ∃ cs, Names cs ∧ s = render cs := by
  simp only [pathB, Bool.or_eq_true, Bool.and_eq_true, decide_eq_true_eq, List.all_eq_true] at h
  rcases h with rfl | ⟨⟨_, h2⟩, h3⟩
  · exact ⟨[], fun _ h => (by cases h), rfl⟩
  · cases s with
    | nil => cases h2
    | cons c t =>
      simp only [List.head?_cons, Option.some.injEq] at h2
      subst h2
      refine ⟨splitB t, h3, ?_⟩
      have := tail_split t
      cases e : splitB t with
      | nil => exact absurd e (splitB_ne t)
      | cons p q => rw [e] at this; exact this.symm
theorem split_render {cs : List (List UInt8)} (h : Names cs) : splitB (render cs) = if cs = [] then [[], []] else [] :: cs := by
  cases cs with
  | nil => rfl
  | cons c r =>
    have := split_tail (h.slash c (by simp)) fun d hd => h.slash d (List.mem_cons_of_mem _ hd)
    simp [render, tailB, splitB, this]
theorem render_path {cs : List (List UInt8)} (h : Names cs) (hl : (render cs).length ≤ 128) : pathB (render cs) = true := by
  cases cs with
  | nil => rfl
  | cons c r =>
    have h2 := split_tail (h.slash c (by simp)) fun d hd => h.slash d (List.mem_cons_of_mem _ hd)
    simp only [pathB, Bool.or_eq_true, Bool.and_eq_true, decide_eq_true_eq, List.all_eq_true]
    refine .inr ⟨⟨hl, by simp [render, tailB]⟩, ?_⟩
    simp only [render, tailB, List.tail_cons, h2]
    exact h
theorem parent_nil : parentB (render []) = render [] := rfl
theorem parent_snoc {cs : List (List UInt8)} {c : List UInt8} (h : 47 ∉ c) : parentB (render (cs ++ [c])) = render cs := by
  rw [render_snoc, parentB, last_mid _ _ h]
  cases cs with
  | nil => rfl
  | cons d cs =>
    show (tailB (d :: cs) ++ 47 :: c).take (tailB (d :: cs)).length = tailB (d :: cs)
    exact List.take_left
theorem parent_render {cs : List (List UInt8)} (h : Names cs) : parentB (render cs) = render cs.dropLast := by
  rcases List.eq_nil_or_concat cs with rfl | ⟨a, b, rfl⟩
  · rfl
  · rw [List.concat_eq_append] at h ⊢
    rw [parent_snoc (h.slash b (by simp)), List.dropLast_concat]
def trimP (s : List UInt8) : List UInt8 := if s.getLast? = some 47 then s.dropLast else s
def trimR (s : List UInt8) : List UInt8 := if s = [47] then [] else s
theorem last_tail {c : List UInt8} (h : nameB c = true) (x : List UInt8) : (x ++ 47 :: c).getLast? ≠ some 47 := by
  obtain ⟨h1, _, h3, _⟩ := name_is h
  rcases List.eq_nil_or_concat c with rfl | ⟨a, b, rfl⟩
  · exact absurd rfl h1
  · rw [List.concat_eq_append] at h3 ⊢
    rw [← List.cons_append, ← List.append_assoc, List.getLast?_concat]
    intro e
    cases e
    exact h3 (by simp)
theorem trimP_render {cs : List (List UInt8)} (h : Names cs) : trimP (render cs) = tailB cs := by
  rcases List.eq_nil_or_concat cs with rfl | ⟨a, b, rfl⟩
  · rfl
  · rw [List.concat_eq_append] at h ⊢
    have := last_tail (h b (by simp)) (tailB a)
    rw [render_snoc, trimP, if_neg this, tailB_app]
    simp [tailB]
theorem trimR_render {cs : List (List UInt8)} (h : Names cs) : trimR (render cs) = tailB cs := by
  rcases List.eq_nil_or_concat cs with rfl | ⟨a, b, rfl⟩
  · rfl
  · rw [List.concat_eq_append] at h ⊢
    have h1 := (name_is (h b (by simp))).1
    rw [render_snoc, trimR, if_neg, tailB_app]
    · simp [tailB]
    · intro e
      have := congrArg List.length e
      simp at this
      exact h1 (List.eq_nil_of_length_eq_zero (by omega))
/-- What one part does to a path. -/
def stepB (tr : List UInt8 → List UInt8) (at0 c : List UInt8) : Option (List UInt8) :=
  if c = [] ∨ c = [46] then some at0
  else if c = [46, 46] then some (parentB at0)
  else if nameB c then some (tr at0 ++ 47 :: c) else none
def runB (tr : List UInt8 → List UInt8) : List (List UInt8) → List UInt8 → Option (List UInt8)
  | [], a => some a
  | c :: r, a => match stepB tr a c with
    | some b => runB tr r b
    | none => none
def runC : List (List UInt8) → List (List UInt8) → Option (List (List UInt8))
  | [], cs => some cs
  | p :: ps, cs => if p = [] ∨ p = [46] then runC ps cs else if p = [46, 46] then runC ps cs.dropLast else if nameB p then runC ps (cs ++ [p]) else none
theorem Names.drop {cs : List (List UInt8)} (h : Names cs) : Names cs.dropLast := fun c hc => h c (List.dropLast_subset _ hc)
theorem Names.snoc {cs : List (List UInt8)} {c : List UInt8} (h : Names cs) (hc : nameB c = true) : Names (cs ++ [c]) := fun d hd => by
  rcases List.mem_append.1 hd with hd | hd
  · exact h d hd
  · rw [List.mem_singleton.1 hd]; exact hc
theorem run_eq {tr : List UInt8 → List UInt8} (htr : ∀ cs, Names cs → tr (render cs) = tailB cs) : ∀ (ps cs : List (List UInt8)), Names cs → runB tr ps (render cs) = (runC ps cs).map render
  | [], cs, _ => rfl
  | p :: ps, cs, h => by
    rw [runB, runC, stepB]
    by_cases h1 : p = [] ∨ p = [46]
    · simp only [if_pos h1]; exact run_eq htr ps cs h
    · simp only [if_neg h1]
      by_cases h2 : p = [46, 46]
      · simp only [if_pos h2, parent_render h]; exact run_eq htr ps _ h.drop
      · simp only [if_neg h2]
        by_cases h3 : nameB p = true
        · simp only [if_pos h3, htr cs h, ← render_snoc]; exact run_eq htr ps _ (h.snoc h3)
        · simp only [if_neg h3]; rfl
theorem runC_names : ∀ {ps cs ds : List (List UInt8)}, Names cs → runC ps cs = some ds → Names ds
  | [], cs, ds, h, e => by cases e; exact h
  | p :: ps, cs, ds, h, e => by
    rw [runC] at e
    split at e
    · exact runC_names h e
    split at e
    · exact runC_names h.drop e
    split at e
    · rename_i h3; exact runC_names (h.snoc h3) e
    · cases e
theorem runC_id : ∀ (ps cs : List (List UInt8)), Names ps → runC ps cs = some (cs ++ ps)
  | [], cs, _ => by simp [runC]
  | p :: ps, cs, h => by
    obtain ⟨h1, _, _, h4, h5⟩ := name_is (h p (by simp))
    rw [runC, if_neg (by simp [h1, h4]), if_neg h5, if_pos (h p (by simp)), runC_id ps _ fun c hc => h c (List.mem_cons_of_mem _ hc)]
    simp
def cleanB (tr : List UInt8 → List UInt8) (cwd path : List UInt8) : List UInt8 × Int :=
  if pathB cwd then
    if path = [] then ([], 8)
    else match runB tr (splitB path) (if path.head? = some 47 then [47] else cwd) with
      | none => ([], 10)
      | some a => if a.length ≤ 128 then (a, 0) else ([], 3)
  else ([], 10)
theorem start_render {cwd path : List UInt8} (h : pathB cwd = true) : ∃ cs, Names cs ∧ (if path.head? = some 47 then [47] else cwd) = render cs := by
  split
  · exact ⟨[], fun _ h => (by cases h), rfl⟩
  · exact path_render h
theorem clean_same (cwd path : List UInt8) : cleanB trimP cwd path = cleanB trimR cwd path := by
  unfold cleanB
  by_cases h : pathB cwd = true
  · obtain ⟨cs, h1, h2⟩ := start_render (path := path) h
    rw [h2, run_eq (fun _ => trimP_render) _ _ h1, run_eq (fun _ => trimR_render) _ _ h1]
  · simp only [if_neg h]
theorem clean_closed {cwd path other s : List UInt8} (h : cleanB trimP cwd path = (s, 0)) (ho : pathB other = true) : cleanB trimP other s = (s, 0) ∧ pathB s = true := by
  unfold cleanB at h
  by_cases hp : pathB cwd = true
  · obtain ⟨cs, h1, h2⟩ := start_render (path := path) hp
    rw [if_pos hp, h2, run_eq (fun _ => trimP_render) _ _ h1] at h
    split at h
    · cases h
    cases hr : runC (splitB path) cs with
    | none => rw [hr] at h; cases h
    | some ds =>
      rw [hr] at h
      have hd := runC_names h1 hr
      simp only [Option.map_some] at h
      split at h
      · rename_i hl
        cases h
        refine ⟨?_, render_path hd hl⟩
        have hne : render ds ≠ [] := by cases ds <;> simp [render, tailB]
        have hh : (render ds).head? = some 47 := by cases ds <;> rfl
        unfold cleanB
        rw [if_pos ho, if_neg hne, if_pos hh]
        have := run_eq (fun _ => trimP_render) (splitB (render ds)) [] (fun _ h => (by cases h))
        rw [show render [] = [47] from rfl] at this
        rw [this, split_render hd]
        have h3 : runC (if ds = [] then [[], []] else [] :: ds) [] = some ds := by
          split
          · rename_i e; subst e; rfl
          · rw [runC, if_pos (.inl rfl), runC_id ds [] hd]; rfl
        rw [h3]
        simp only [Option.map_some, if_pos hl]
      · cases h
  · rw [if_neg hp] at h
    cases h
theorem clean_err {cwd path s : List UInt8} {e : Int} (h : cleanB trimP cwd path = (s, e)) (he : e ≠ 0) : s = [] := by
  unfold cleanB at h
  split at h
  · split at h
    · cases h; rfl
    · split at h
      · cases h; rfl
      · split at h
        · cases h; exact absurd rfl he
        · cases h; rfl
  · cases h; rfl

end Go.Proofs.YtiefcnghjcafbaaDoorV

/- Lists of files in plain terms: what is valid. -/
namespace Go.Proofs.YtiefcnghjcafbaaDoorV
open Go Go.RowKit Go.Proofs.YtiefcnghjcafbaaDoor
set_option maxRecDepth 20000

structure Fl where
  path : List UInt8
  dir : Bool
  data : List UInt8
deriving DecidableEq

/-- The order of bytes. -/
def ltB : List UInt8 → List UInt8 → Bool
  | _, [] => false
  | [], _ :: _ => true
  | a :: x, b :: y => decide (a < b) || (a == b && ltB x y)
def leB (a b : List UInt8) : Bool := ltB a b || a == b
theorem ltB_irrefl : ∀ a, ltB a a = false
  | [] => rfl
  | a :: x => by simp [ltB, ltB_irrefl x, UInt8.lt_irrefl]
theorem ltB_trans : ∀ {a b c}, ltB a b = true → ltB b c = true → ltB a c = true
  | [], b :: y, [], _, h => by simp [ltB] at h
  | [], b :: y, c :: z, _, _ => rfl
  | a :: x, [], c, h, _ => by simp [ltB] at h
  | [], [], c, h, _ => by simp [ltB] at h
  | a :: x, b :: y, [], _, h => by simp [ltB] at h
  | a :: x, b :: y, c :: z, h, k => by
    simp only [ltB, Bool.or_eq_true, Bool.and_eq_true, decide_eq_true_eq, beq_iff_eq] at h k ⊢
    rcases h with h | ⟨rfl, h⟩
    · rcases k with k | ⟨rfl, k⟩
      · exact .inl (UInt8.lt_trans h k)
      · exact .inl h
    · rcases k with k | ⟨rfl, k⟩
      · exact .inl k
      · exact .inr ⟨rfl, ltB_trans h k⟩
theorem ltB_tri : ∀ {a b}, leB a b = false → ltB b a = true
  | [], [], h => by simp [leB] at h
  | [], b :: y, h => by simp [leB, ltB] at h
  | a :: x, [], h => rfl
  | a :: x, b :: y, h => by
    simp only [leB, ltB, Bool.or_eq_false_iff, Bool.and_eq_false_iff, decide_eq_false_iff_not, beq_eq_false_iff_ne, ne_eq, List.cons.injEq, not_and] at h
    obtain ⟨⟨h1, h2⟩, h3⟩ := h
    simp only [ltB, Bool.or_eq_true, Bool.and_eq_true, decide_eq_true_eq, beq_iff_eq]
    by_cases e : a = b
    · subst e
      refine .inr ⟨rfl, ltB_tri ?_⟩
      simp only [leB, Bool.or_eq_false_iff, beq_eq_false_iff_ne, ne_eq]
      exact ⟨(h2.resolve_left (fun h => h rfl)), h3 rfl⟩
    · refine .inl ?_
      have : ¬ a.toNat = b.toNat := fun h => e (UInt8.toNat_inj.1 h)
      rw [UInt8.lt_iff_toNat_lt] at h1 ⊢
      omega
theorem ltB_ne {a b : List UInt8} (h : ltB a b = true) : a ≠ b := fun e => by
  subst e
  rw [ltB_irrefl] at h
  cases h

def idxF (l : List Fl) (p : List UInt8) : Int := match l.findIdx? fun f => decide (f.path = p) with
  | some i => (i : Int)
  | none => -1
def hasF (l : List Fl) (p : List UInt8) : Bool := l.any fun f => decide (f.path = p)
theorem idxF_has (l : List Fl) (p : List UInt8) : decide (idxF l p < 0) = !hasF l p := by
  unfold idxF hasF
  cases h : l.findIdx? fun f => decide (f.path = p) with
  | none =>
    have h1 := List.findIdx?_eq_none_iff.1 h
    have : (l.any fun f => decide (f.path = p)) = false := List.any_eq_false.2 fun x hx => by simp [h1 x hx]
    rw [this]
    rfl
  | some i =>
    obtain ⟨h1, h2, _⟩ := List.findIdx?_eq_some_iff_getElem.1 h
    have : (l.any fun f => decide (f.path = p)) = true := List.any_eq_true.2 ⟨_, List.getElem_mem h1, h2⟩
    rw [this]
    simp
/-- The first element with a path is no directory. -/
def notDir (l : List Fl) (p : List UInt8) : Bool := match l.find? fun f => decide (f.path = p) with
  | some f => !f.dir
  | none => false
def blockP (l : List Fl) : Nat → List UInt8 → Bool
  | 0, _ => false
  | n + 1, a => !decide (a = [47]) && (notDir l a || blockP l n (parentB a))
def perrP (l : List Fl) (p : List UInt8) : Int := if blockP l (parentB p).length (parentB p) then 18 else if hasF l (parentB p) then 0 else 8
def aboveB (a s : List UInt8) : Bool := if a = [47] then !decide (s = [47]) else decide (a.length < s.length) && decide (s.take a.length = a) && decide (s[a.length]? = some 47)
def perrR (l : List Fl) (p : List UInt8) : Int := if l.any (fun f => !f.dir && aboveB f.path p) then 18 else if hasF l (parentB p) then 0 else 8

theorem split_mid : ∀ {ds : List (List UInt8)} (r : List UInt8), (∀ d ∈ ds, (47 : UInt8) ∉ d) → splitB (tailB ds ++ 47 :: r) = [] :: (ds ++ splitB r)
  | [], r, _ => by simp [tailB, splitB]
  | d :: ds, r, h => by
    have ih := split_mid (ds := ds) r fun x hx => h x (List.mem_cons_of_mem _ hx)
    have hd := h d (by simp)
    cases hx : tailB ds ++ 47 :: r with
    | nil => simp at hx
    | cons c X =>
      obtain rfl : c = 47 := by
        cases ds with
        | nil => simp [tailB] at hx; exact hx.1.symm
        | cons e es => simp [tailB] at hx; exact hx.1.symm
      rw [hx] at ih
      simp only [splitB, if_true, List.cons.injEq, true_and] at ih
      rw [tailB, List.cons_append, List.append_assoc, hx, splitB, if_pos rfl, splitB_app hd, ih]
      rfl
theorem render_inj {ds cs : List (List UInt8)} (hd : Names ds) (hc : Names cs) (h : render ds = render cs) : ds = cs := by
  have h1 := split_render hd
  have h2 := split_render hc
  rw [h, h2] at h1
  by_cases e1 : ds = [] <;> by_cases e2 : cs = []
  · rw [e1, e2]
  · rw [if_pos e1, if_neg e2] at h1
    simp only [List.cons.injEq, true_and] at h1
    subst h1
    exact absurd rfl (name_is (hc [] (by simp))).1
  · rw [if_neg e1, if_pos e2] at h1
    simp only [List.cons.injEq, true_and] at h1
    subst h1
    exact absurd rfl (name_is (hd [] (by simp))).1
  · rw [if_neg e1, if_neg e2] at h1
    simp only [List.cons.injEq, true_and] at h1
    exact h1.symm
theorem above_render {ds cs : List (List UInt8)} (hd : Names ds) (hc : Names cs) : aboveB (render ds) (render cs) = true ↔ ∃ e, e ≠ [] ∧ cs = ds ++ e := by
  unfold aboveB
  cases ds with
  | nil =>
    have e0 : render [] = [47] := rfl
    rw [if_pos e0]
    simp only [Bool.not_eq_true', decide_eq_false_iff_not, List.nil_append]
    constructor
    · intro h
      exact ⟨cs, fun e => h (by rw [e]; rfl), rfl⟩
    · rintro ⟨e, he, rfl⟩ h
      exact he (render_inj hc (ds := cs) (cs := []) (fun _ h => by cases h) h)
  | cons d ds =>
    have hne : render (d :: ds) ≠ [47] := fun h => by
      have := render_inj hd (cs := []) (fun _ h => by cases h) h
      cases this
    rw [if_neg hne]
    simp only [Bool.and_eq_true, decide_eq_true_eq]
    constructor
    · rintro ⟨⟨h1, h2⟩, h3⟩
      obtain ⟨hlt, h4⟩ := List.getElem?_eq_some_iff.1 h3
      have hs : render cs = tailB (d :: ds) ++ 47 :: (render cs).drop ((render (d :: ds)).length + 1) := by
        conv => lhs; rw [← List.take_append_drop (render (d :: ds)).length (render cs)]
        rw [h2, List.drop_eq_getElem_cons hlt, h4]
        rfl
      have h5 := split_mid ((render cs).drop ((render (d :: ds)).length + 1)) hd.slash
      rw [← hs, split_render hc] at h5
      split at h5
      · rename_i e
        subst e
        simp [render] at h1
        simp [tailB] at h1
      · simp only [List.cons.injEq, true_and] at h5
        exact ⟨_, splitB_ne _, h5⟩
    · rintro ⟨e, he, rfl⟩
      cases e with
      | nil => exact absurd rfl he
      | cons c e =>
        have hr : render (d :: ds ++ c :: e) = render (d :: ds) ++ 47 :: (c ++ tailB e) := by
          rw [List.cons_append, render, ← List.cons_append, tailB_app]
          rfl
        rw [hr]
        simp
/-- A list that may be walked: paths, one element each, the root a directory. -/
structure GoodL (l : List Fl) : Prop where
  paths : ∀ f ∈ l, pathB f.path = true
  once : l.Pairwise fun f g => f.path ≠ g.path
  root : ∀ f ∈ l, f.path = [47] → f.dir = true
theorem find_once {l : List Fl} (h : l.Pairwise fun f g => f.path ≠ g.path) {f : Fl} (hf : f ∈ l) : (l.find? fun g => decide (g.path = f.path)) = some f := by
  induction l with
  | nil => cases hf
  | cons a l ih =>
    rw [List.pairwise_cons] at h
    rw [List.find?_cons]
    by_cases e : a.path = f.path
    · simp only [e, decide_true]
      rcases List.mem_cons.1 hf with rfl | hf
      · rfl
      · exact absurd e (h.1 f hf)
    · simp only [e, decide_false]
      rcases List.mem_cons.1 hf with rfl | hf
      · exact absurd rfl e
      · exact ih h.2 hf
theorem notDir_iff {l : List Fl} (h : GoodL l) {p : List UInt8} : notDir l p = true ↔ ∃ f ∈ l, f.path = p ∧ f.dir = false := by
  unfold notDir
  constructor
  · intro hn
    split at hn
    · rename_i f hf
      have h1 := List.find?_some hf
      have h2 := List.mem_of_find?_eq_some hf
      exact ⟨f, h2, by simpa using h1, by simpa using hn⟩
    · cases hn
  · rintro ⟨f, hf, rfl, hd⟩
    rw [find_once h.once hf]
    simp [hd]
theorem block_iff {l : List Fl} (hl : GoodL l) : ∀ (n : Nat) (cs : List (List UInt8)), Names cs → cs.length ≤ n → (blockP l n (render cs) = true ↔ ∃ ds e, ds ≠ [] ∧ cs = ds ++ e ∧ notDir l (render ds) = true)
  | 0, cs, hc, hn => by
    obtain rfl := List.eq_nil_of_length_eq_zero (by omega : cs.length = 0)
    simp [blockP]
    intro x h1 h2
    exact absurd h2 h1
  | n + 1, cs, hc, hn => by
    rw [blockP]
    rcases List.eq_nil_or_concat cs with rfl | ⟨a, b, rfl⟩
    · simp [render]
      intro x h1 h2
      exact absurd h2 h1
    · rw [List.concat_eq_append] at hc hn ⊢
      have hne : ¬ render (a ++ [b]) = [47] := fun h => by
        have := render_inj hc (cs := []) (fun _ h => by cases h) h
        simp at this
      have ih := block_iff hl n a (fun c hc' => hc c (by simp [hc'])) (by simp at hn; omega)
      rw [parent_snoc (hc.slash b (by simp))]
      simp only [hne, decide_false, Bool.not_false, Bool.true_and, Bool.or_eq_true, ih]
      constructor
      · rintro (h | ⟨ds, e, h1, h2, h3⟩)
        · exact ⟨a ++ [b], [], by simp, by simp, h⟩
        · exact ⟨ds, e ++ [b], h1, by rw [h2]; simp, h3⟩
      · rintro ⟨ds, e, h1, h2, h3⟩
        rcases List.eq_nil_or_concat e with rfl | ⟨e', c, rfl⟩
        · rw [List.append_nil] at h2
          exact .inl (h2 ▸ h3)
        · rw [List.concat_eq_append, ← List.append_assoc] at h2
          have := List.append_inj' h2 rfl
          exact .inr ⟨ds, e', h1, this.1, h3⟩
theorem tail_len : ∀ cs : List (List UInt8), cs.length ≤ (tailB cs).length
  | [] => Nat.le_refl _
  | c :: cs => by
    have := tail_len cs
    simp [tailB]
    omega
theorem render_len (cs : List (List UInt8)) : cs.length ≤ (render cs).length := by
  cases cs with
  | nil => simp
  | cons c cs => exact tail_len (c :: cs)
theorem perr_same {l : List Fl} (hl : GoodL l) {p : List UInt8} (hp : pathB p = true) (hr : p ≠ [47]) : perrP l p = perrR l p := by
  obtain ⟨cs, hc, rfl⟩ := path_render hp
  rcases List.eq_nil_or_concat cs with rfl | ⟨a, b, rfl⟩
  · exact absurd rfl hr
  · rw [List.concat_eq_append] at hc hr hp ⊢
    have ha : Names a := fun c hc' => hc c (by simp [hc'])
    have hb := block_iff hl (render a).length a ha (render_len a)
    have : blockP l (render a).length (render a) = l.any fun f => !f.dir && aboveB f.path (render (a ++ [b])) := by
      rw [Bool.eq_iff_iff, hb, List.any_eq_true]
      constructor
      · rintro ⟨ds, e, h1, h2, h3⟩
        obtain ⟨f, hf, hfp, hfd⟩ := (notDir_iff hl).1 h3
        refine ⟨f, hf, ?_⟩
        rw [hfp, hfd]
        simp only [Bool.not_false, Bool.true_and]
        refine (above_render (fun c hc' => ha c (by rw [h2]; simp [hc'])) hc).2 ⟨e ++ [b], by simp, by rw [h2]; simp⟩
      · rintro ⟨f, hf, h⟩
        simp only [Bool.and_eq_true, Bool.not_eq_true'] at h
        obtain ⟨ds, hd, hds⟩ := path_render (hl.paths f hf)
        rw [hds] at h
        obtain ⟨e, he, h2⟩ := (above_render hd hc).1 h.2
        rcases List.eq_nil_or_concat e with rfl | ⟨e', c, rfl⟩
        · exact absurd rfl he
        · rw [List.concat_eq_append, ← List.append_assoc] at h2
          have h3 := (List.append_inj' h2 rfl).1
          refine ⟨ds, e', fun e0 => ?_, h3, (notDir_iff hl).2 ⟨f, hf, hds, h.1⟩⟩
          subst e0
          have := hl.root f hf hds
          rw [h.1] at this
          cases this
    unfold perrP perrR
    rw [parent_snoc (hc.slash b (by simp)), this]

def afterB (prev : Option Fl) (f : Fl) : Bool := match prev with
  | some g => leB f.path g.path
  | none => false
def baseF (prev : Option Fl) (f : Fl) : Int :=
  if pathB f.path = false then 10
  else if ((f.dir && !decide (f.data = [])) || (decide (f.path = [47]) && !f.dir)) = true then 1
  else if 8192 < f.data.length then 3
  else if afterB prev f = true then 25 else 0
def prevF (l : List Fl) (i : Nat) : Option Fl := if i = 0 then none else l[i - 1]?
def checkP (l : List Fl) (i : Nat) (f : Fl) : Int :=
  if baseF (prevF l i) f ≠ 0 then baseF (prevF l i) f else if f.path = [47] then 0 else perrP (l.take i) f.path
def checkR (l : List Fl) (i : Nat) (f : Fl) : Int :=
  if baseF (prevF l i) f ≠ 0 then baseF (prevF l i) f else if i = 0 then 0 else perrR (l.take i) f.path
def firstE (chk : Nat → Fl → Int) : Nat → List Fl → Int
  | _, [] => 0
  | k, f :: r => if chk k f ≠ 0 then chk k f else firstE chk (k + 1) r
def validB (chk : List Fl → Nat → Fl → Int) (l : List Fl) : Int :=
  if 128 < l.length then 4 else match l with
  | [] => 8
  | f :: r => if f.path = [47] then firstE (chk (f :: r)) 0 (f :: r) else 8
/-- What has been checked. -/
structure Seen (l : List Fl) : Prop where
  good : GoodL l
  sorted : l.Pairwise fun f g => ltB f.path g.path = true
theorem base_zero {prev : Option Fl} {f : Fl} (h : baseF prev f = 0) : pathB f.path = true ∧ (f.path = [47] → f.dir = true) ∧ (f.dir = true → f.data = []) ∧ f.data.length ≤ 8192 ∧ ∀ g, prev = some g → ltB g.path f.path = true := by
  unfold baseF at h
  split at h
  · cases h
  split at h
  · cases h
  split at h
  · cases h
  split at h
  · cases h
  rename_i h1 h2 h3 h4
  simp only [Bool.or_eq_true, Bool.and_eq_true, Bool.not_eq_true', decide_eq_true_eq, decide_eq_false_iff_not, not_or, not_and] at h2
  refine ⟨by simpa using h1, fun e => ?_, fun e => ?_, by omega, fun g hg => ?_⟩
  · have := h2.2 e
    simpa using this
  · have := h2.1 e
    simpa using this
  · subst hg
    simp only [Bool.not_eq_true, afterB] at h4
    exact ltB_tri h4
theorem Seen.snoc {l : List Fl} (h : Seen l) {f : Fl} (h0 : ∀ g, l.getLast? = some g → ltB g.path f.path = true) (h1 : pathB f.path = true) (h2 : f.path = [47] → f.dir = true) : Seen (l ++ [f]) := by
  have hlt : ∀ g ∈ l, ltB g.path f.path = true := by
    rcases List.eq_nil_or_concat l with rfl | ⟨a, b, rfl⟩
    · intro g hg; cases hg
    · rw [List.concat_eq_append] at h h0 ⊢
      have hb := h0 b (by simp)
      intro g hg
      rcases List.mem_append.1 hg with hg | hg
      · have := (List.pairwise_append.1 h.sorted).2.2 g hg b (by simp)
        exact ltB_trans this hb
      · rw [List.mem_singleton.1 hg]; exact hb
  refine ⟨⟨fun g hg => ?_, ?_, fun g hg => ?_⟩, ?_⟩
  · rcases List.mem_append.1 hg with hg | hg
    · exact h.good.paths g hg
    · rw [List.mem_singleton.1 hg]; exact h1
  · refine List.pairwise_append.2 ⟨h.good.once, by simp, fun a ha b hb => ?_⟩
    rw [List.mem_singleton.1 hb]
    exact ltB_ne (hlt a ha)
  · rcases List.mem_append.1 hg with hg | hg
    · exact h.good.root g hg
    · rw [List.mem_singleton.1 hg]; exact h2
  · refine List.pairwise_append.2 ⟨h.sorted, by simp, fun a ha b hb => ?_⟩
    rw [List.mem_singleton.1 hb]
    exact hlt a ha
theorem root_least {p : List UInt8} (h : pathB p = true) : leB [47] p = true := by
  obtain ⟨cs, _, rfl⟩ := path_render h
  cases cs with
  | nil => rfl
  | cons c cs =>
    simp only [render, tailB, leB, ltB]
    cases c ++ tailB cs with
    | nil => rfl
    | cons d r => simp [ltB]
theorem Seen.nil : Seen [] := { good := { paths := fun _ h => (by cases h), once := .nil, root := fun _ h => (by cases h) }, sorted := .nil }
theorem prev_last {a b : List Fl} {f : Fl} : prevF (a ++ f :: b) a.length = a.getLast? := by
  rcases List.eq_nil_or_concat a with rfl | ⟨a', g, rfl⟩
  · rfl
  · rw [List.concat_eq_append]
    simp [prevF]
theorem first_same : ∀ (b a : List Fl), Seen a → (∀ f, (a ++ b)[0]? = some f → f.path = [47]) → firstE (checkP (a ++ b)) a.length b = firstE (checkR (a ++ b)) a.length b
  | [], a, _, _ => rfl
  | f :: b, a, ha, h0 => by
    rw [firstE, firstE]
    have hcs : checkP (a ++ f :: b) a.length f = checkR (a ++ f :: b) a.length f := by
      unfold checkP checkR
      split
      · rfl
      rename_i hz
      have hz' : baseF (prevF (a ++ f :: b) a.length) f = 0 := Decidable.not_not.1 hz
      obtain ⟨h1, h2, _, _, h5⟩ := base_zero hz'
      rw [List.take_left]
      cases a with
      | nil => rw [if_pos (h0 f rfl)]; rfl
      | cons g a =>
        have hnr : f.path ≠ [47] := fun e => by
          obtain ⟨q, hq⟩ : ∃ q, (g :: a).getLast? = some q := ⟨_, List.getLast?_eq_some_getLast (by simp)⟩
          have h6 := h5 q (by rw [prev_last]; exact hq)
          have hqm := List.mem_of_getLast? hq
          have h7 := root_least (ha.good.paths q hqm)
          rw [e] at h6
          simp only [leB, Bool.or_eq_true, beq_iff_eq] at h7
          rcases h7 with h7 | h7
          · have := ltB_trans h7 h6
            rw [ltB_irrefl] at this
            cases this
          · rw [← h7, ltB_irrefl] at h6
            cases h6
        rw [if_neg hnr, if_neg (by simp)]
        exact perr_same ha.good h1 hnr
    rw [hcs]
    split
    · rfl
    · rename_i hz
      rw [← hcs] at hz
      have hz' : baseF (prevF (a ++ f :: b) a.length) f = 0 := by
        have := Decidable.not_not.1 hz
        unfold checkP at this
        split at this
        · rename_i h; exact absurd this h
        · rename_i h; exact Decidable.not_not.1 h
      obtain ⟨h1, h2, _, _, h5⟩ := base_zero hz'
      have hs := ha.snoc (f := f) (fun g hg => h5 g (by rw [prev_last]; exact hg)) h1 h2
      have := first_same b (a ++ [f]) hs (by simpa using h0)
      simpa using this
theorem valid_same (l : List Fl) : validB checkP l = validB checkR l := by
  unfold validB
  split
  · rfl
  · cases l with
    | nil => rfl
    | cons f r =>
      dsimp only
      split
      · rename_i h
        exact first_same (f :: r) [] .nil (fun g hg => by simp at hg; rw [← hg]; exact h)
      · rfl

end Go.Proofs.YtiefcnghjcafbaaDoorV

/- Names and the library's functions on strings. -/
namespace Go.Proofs.YtiefcnghjcafbaaDoorV
open Go Go.RowKit Go.Proofs.YtiefcnghjcafbaaDoor
set_option maxRecDepth 20000
set_option maxHeartbeats 4000000

/-- One call that is known. -/
inductive T1 (f : FuncId) (vs : List V) (v : V) : FuncId → List V → V → Prop
  | k : T1 f vs v f vs v
theorem T1_hit {f : FuncId} {vs : List V} {v : V} {bs : List Bx} : TabP (T1 f vs v) f vs bs = some (v, bs) := TabP_hit (fun v' h => by cases h; rfl) .k
theorem T1_good {f : FuncId} {vs : List V} {v : V} (h : FnOk Tryd.prog f vs [] (fun r bs' => fr bs' r = v)) (h1 : vs.all clean = true) (h2 : clean v = true) (he : Enters Tryd.prog f) : Good Tryd.prog (TabP (T1 f vs v)) := TabP_good fun f' vs' v' h' => by
  cases h' with
  | k => exact ⟨h, h1, h2, he⟩


/-- What is no longer needed is let go; the temporaries that stay, told. -/
theorem Ok.gcE {P : Program} {m : Nat} {c : Code} {Q : Ex → List V → List Bx → Prop} {ts ts2 : List V} {bs bs2 : List Bx} (ks live : List Nat) (hb : rnBs bs ks ks = some bs2) (hn : ks.Nodup) (hm : ∀ k, k < m → k < bs.length → ks[k]? = some k)
    (ht : rnTs ks live 0 ts = ts2) (h : Ok P m c Q ts2 bs2) : Ok P m c Q ts bs := Ok.gc ks live hb hn hm (ht ▸ h)
/-- One value for each call. -/
def Uniq (R : FuncId → List V → V → Prop) : Prop := ∀ f vs v v', R f vs v → R f vs v' → v' = v
theorem TabP_use {R : FuncId → List V → V → Prop} {f : FuncId} {vs : List V} {v : V} {bs : List Bx} (hu : Uniq R) (h : R f vs v) : TabP R f vs bs = some (v, bs) := TabP_hit (fun v' h' => hu f vs v v' h h') h

theorem name37 (s : List UInt8) : FnOk Tryd.prog 37 [T s] [] (fun r bs' => fr bs' r = bV (nameB s)) := by
  by_cases e0 : s = []
  · subst e0; exact FnOk.fast (Q := fun r => r = bV (nameB [])) layOk Tryd.func37 rfl (goOut 100 (r := bV false) (by kernel_rfl) rfl)
  by_cases e1 : s = [46]
  · subst e1; exact FnOk.fast (Q := fun r => r = bV (nameB [46])) layOk Tryd.func37 rfl (goOut 100 (r := bV false) (by kernel_rfl) rfl)
  by_cases e2 : s = [46, 46]
  · subst e2; exact FnOk.fast (Q := fun r => r = bV (nameB [46, 46])) layOk Tryd.func37 rfl (goOut 100 (r := bV false) (by kernel_rfl) rfl)
  refine FnOk.fast (Q := fun r => r = bV (nameB s)) layOk Tryd.func37 rfl ?_
  have hq0 : decide (s = []) = false := by simpa using e0
  have hq1 : decide (s = [46]) = false := by simpa using e1
  have hq2 : decide (s = [46, 46]) = false := by simpa using e2
  have hpos : 1 ≤ s.length := by
    cases s with
    | nil => exact absurd rfl e0
    | cons c r => simp
  refine Ok.seq (go 10 rfl ?_)
  cases hl : decide ((s.length : Int) ≤ 32)
  · have hl' : ¬ s.length ≤ 32 := by
      have : ¬ (s.length : Int) ≤ 32 := by simpa using hl
      omega
    rw [show nameB s = false by simp [nameB, hl']]
    refine Ok.seq (Ok.regionW (G := fun _ => true) (C := TabP _) mixed layOk noT TabP_calm (.inl rfl) ?_)
    refine wstepN rfl rfl (by dsimp only [putV, List.set]) ?_
    first
      | refine wstepN rfl (neqT (by assumption) rfl rfl) (by dsimp only [putV, List.set]) ?_
      | refine wstepN rfl rfl (by dsimp only [putV, List.set]) ?_
    refine wstepN rfl rfl (by dsimp only [putV, List.set]) ?_
    first
      | refine wskipN rfl (by dsimp only [putV, List.set]) ?_
      | refine wstepN rfl rfl (by dsimp only [putV, List.set]) ?_
    first
      | refine wskipN rfl (by dsimp only [putV, List.set]) ?_
      | refine wstepN rfl (lenT rfl rfl) (by dsimp only [putV, List.set]) ?_
      | refine wstepN rfl rfl (by dsimp only [putV, List.set]) ?_
    first
      | refine wskipN rfl (by dsimp only [putV, List.set]) ?_
      | refine wstepN rfl (leqK h32 rfl rfl) (by dsimp only [putV, List.set]) ?_
      | refine wstepN rfl (leqK (by assumption) rfl rfl) (by dsimp only [putV, List.set]) ?_
      | refine wstepN rfl rfl (by dsimp only [putV, List.set]) ?_
    refine wstepN rfl rfl (by dsimp only [putV, List.set]) ?_
    refine wstepN rfl rfl (by dsimp only [putV, List.set]) ?_
    first
      | refine wskipN rfl (by dsimp only [putV, List.set]) ?_
      | refine wstepN rfl rfl (by dsimp only [putV, List.set]) ?_
    first
      | refine wskipN rfl (by dsimp only [putV, List.set]) ?_
      | refine wstepN rfl (hit61 (by first | assumption | omega)) (by dsimp only [putV, List.set]) ?_
      | refine wstepN rfl (T1_hit) (by dsimp only [putV, List.set]) ?_
      | refine wstepN rfl (TabP_use (by assumption) (by assumption)) (by dsimp only [putV, List.set]) ?_
      | refine wstepN rfl (TabP_hit (fun v' h => by cases h; rfl) (by assumption)) (by dsimp only [putV, List.set]) ?_
      | refine wstepN rfl (TabP_hit (fun v' h => by cases h; rfl) (by constructor)) (by dsimp only [putV, List.set]) ?_
      | refine wstepN rfl rfl (by dsimp only [putV, List.set]) ?_
    first
      | refine wskipN rfl (by dsimp only [putV, List.set]) ?_
      | refine wstepN rfl rfl (by dsimp only [putV, List.set]) ?_
    refine wstepN rfl rfl (by dsimp only [putV, List.set]) ?_
    refine wstepN rfl rfl (by dsimp only [putV, List.set]) ?_
    first
      | refine wskipN rfl (by dsimp only [putV, List.set]) ?_
      | refine wstepN rfl rfl (by dsimp only [putV, List.set]) ?_
    first
      | refine wskipN rfl (by dsimp only [putV, List.set]) ?_
      | refine wstepN rfl (neqT (by assumption) rfl rfl) (by dsimp only [putV, List.set]) ?_
      | refine wstepN rfl rfl (by dsimp only [putV, List.set]) ?_
    refine wstepN rfl rfl (by dsimp only [putV, List.set]) ?_
    refine wstepN rfl rfl (by dsimp only [putV, List.set]) ?_
    first
      | refine wskipN rfl (by dsimp only [putV, List.set]) ?_
      | refine wstepN rfl rfl (by dsimp only [putV, List.set]) ?_
    first
      | refine wskipN rfl (by dsimp only [putV, List.set]) ?_
      | refine wstepN rfl (neqT (by assumption) rfl rfl) (by dsimp only [putV, List.set]) ?_
      | refine wstepN rfl rfl (by dsimp only [putV, List.set]) ?_
    refine wstepN rfl rfl (by dsimp only [putV, List.set]) ?_
    refine wstepN rfl rfl (by dsimp only [putV, List.set]) ?_
    refine wnil (Ok.ret ⟨fun _ h => (by cases h), _, rfl, rfl⟩)
  · have hl' : s.length ≤ 32 := by
      have : (s.length : Int) ≤ 32 := by simpa using hl
      omega
    have hT := T1_good (has61 s (by omega)) rfl rfl Tryd.call61
    rw [show nameB s = !s.any bad by simp [nameB, hl', hpos, e1, e2]]
    cases hb : s.any bad
    · rw [hb] at hT
      refine Ok.seq (Ok.regionW (G := fun _ => true) (C := TabP _) mixed layOk hT TabP_calm (.inl rfl) ?_)
      refine wstepN rfl rfl (by dsimp only [putV, List.set]) ?_
      first
        | refine wstepN rfl (neqT (by assumption) rfl rfl) (by dsimp only [putV, List.set]) ?_
        | refine wstepN rfl rfl (by dsimp only [putV, List.set]) ?_
      refine wstepN rfl rfl (by dsimp only [putV, List.set]) ?_
      first
        | refine wskipN rfl (by dsimp only [putV, List.set]) ?_
        | refine wstepN rfl rfl (by dsimp only [putV, List.set]) ?_
      first
        | refine wskipN rfl (by dsimp only [putV, List.set]) ?_
        | refine wstepN rfl (lenT rfl rfl) (by dsimp only [putV, List.set]) ?_
        | refine wstepN rfl rfl (by dsimp only [putV, List.set]) ?_
      first
        | refine wskipN rfl (by dsimp only [putV, List.set]) ?_
        | refine wstepN rfl (leqK h32 rfl rfl) (by dsimp only [putV, List.set]) ?_
        | refine wstepN rfl (leqK (by assumption) rfl rfl) (by dsimp only [putV, List.set]) ?_
        | refine wstepN rfl rfl (by dsimp only [putV, List.set]) ?_
      refine wstepN rfl rfl (by dsimp only [putV, List.set]) ?_
      refine wstepN rfl rfl (by dsimp only [putV, List.set]) ?_
      first
        | refine wskipN rfl (by dsimp only [putV, List.set]) ?_
        | refine wstepN rfl rfl (by dsimp only [putV, List.set]) ?_
      refine wstepN rfl T1_hit (by dsimp only [putV, List.set]) ?_
      first
        | refine wskipN rfl (by dsimp only [putV, List.set]) ?_
        | refine wstepN rfl rfl (by dsimp only [putV, List.set]) ?_
      refine wstepN rfl rfl (by dsimp only [putV, List.set]) ?_
      refine wstepN rfl rfl (by dsimp only [putV, List.set]) ?_
      first
        | refine wskipN rfl (by dsimp only [putV, List.set]) ?_
        | refine wstepN rfl rfl (by dsimp only [putV, List.set]) ?_
      first
        | refine wskipN rfl (by dsimp only [putV, List.set]) ?_
        | refine wstepN rfl (neqT (by assumption) rfl rfl) (by dsimp only [putV, List.set]) ?_
        | refine wstepN rfl rfl (by dsimp only [putV, List.set]) ?_
      refine wstepN rfl rfl (by dsimp only [putV, List.set]) ?_
      refine wstepN rfl rfl (by dsimp only [putV, List.set]) ?_
      first
        | refine wskipN rfl (by dsimp only [putV, List.set]) ?_
        | refine wstepN rfl rfl (by dsimp only [putV, List.set]) ?_
      first
        | refine wskipN rfl (by dsimp only [putV, List.set]) ?_
        | refine wstepN rfl (neqT (by assumption) rfl rfl) (by dsimp only [putV, List.set]) ?_
        | refine wstepN rfl rfl (by dsimp only [putV, List.set]) ?_
      refine wstepN rfl rfl (by dsimp only [putV, List.set]) ?_
      refine wstepN rfl rfl (by dsimp only [putV, List.set]) ?_
      refine wnil (Ok.ret ⟨fun _ h => (by cases h), _, rfl, rfl⟩)
    · rw [hb] at hT
      refine Ok.seq (Ok.regionW (G := fun _ => true) (C := TabP _) mixed layOk hT TabP_calm (.inl rfl) ?_)
      refine wstepN rfl rfl (by dsimp only [putV, List.set]) ?_
      first
        | refine wstepN rfl (neqT (by assumption) rfl rfl) (by dsimp only [putV, List.set]) ?_
        | refine wstepN rfl rfl (by dsimp only [putV, List.set]) ?_
      refine wstepN rfl rfl (by dsimp only [putV, List.set]) ?_
      first
        | refine wskipN rfl (by dsimp only [putV, List.set]) ?_
        | refine wstepN rfl rfl (by dsimp only [putV, List.set]) ?_
      first
        | refine wskipN rfl (by dsimp only [putV, List.set]) ?_
        | refine wstepN rfl (lenT rfl rfl) (by dsimp only [putV, List.set]) ?_
        | refine wstepN rfl rfl (by dsimp only [putV, List.set]) ?_
      first
        | refine wskipN rfl (by dsimp only [putV, List.set]) ?_
        | refine wstepN rfl (leqK h32 rfl rfl) (by dsimp only [putV, List.set]) ?_
        | refine wstepN rfl (leqK (by assumption) rfl rfl) (by dsimp only [putV, List.set]) ?_
        | refine wstepN rfl rfl (by dsimp only [putV, List.set]) ?_
      refine wstepN rfl rfl (by dsimp only [putV, List.set]) ?_
      refine wstepN rfl rfl (by dsimp only [putV, List.set]) ?_
      first
        | refine wskipN rfl (by dsimp only [putV, List.set]) ?_
        | refine wstepN rfl rfl (by dsimp only [putV, List.set]) ?_
      refine wstepN rfl T1_hit (by dsimp only [putV, List.set]) ?_
      first
        | refine wskipN rfl (by dsimp only [putV, List.set]) ?_
        | refine wstepN rfl rfl (by dsimp only [putV, List.set]) ?_
      refine wstepN rfl rfl (by dsimp only [putV, List.set]) ?_
      refine wstepN rfl rfl (by dsimp only [putV, List.set]) ?_
      first
        | refine wskipN rfl (by dsimp only [putV, List.set]) ?_
        | refine wstepN rfl rfl (by dsimp only [putV, List.set]) ?_
      first
        | refine wskipN rfl (by dsimp only [putV, List.set]) ?_
        | refine wstepN rfl (neqT (by assumption) rfl rfl) (by dsimp only [putV, List.set]) ?_
        | refine wstepN rfl rfl (by dsimp only [putV, List.set]) ?_
      refine wstepN rfl rfl (by dsimp only [putV, List.set]) ?_
      refine wstepN rfl rfl (by dsimp only [putV, List.set]) ?_
      first
        | refine wskipN rfl (by dsimp only [putV, List.set]) ?_
        | refine wstepN rfl rfl (by dsimp only [putV, List.set]) ?_
      first
        | refine wskipN rfl (by dsimp only [putV, List.set]) ?_
        | refine wstepN rfl (neqT (by assumption) rfl rfl) (by dsimp only [putV, List.set]) ?_
        | refine wstepN rfl rfl (by dsimp only [putV, List.set]) ?_
      refine wstepN rfl rfl (by dsimp only [putV, List.set]) ?_
      refine wstepN rfl rfl (by dsimp only [putV, List.set]) ?_
      refine wnil (Ok.ret ⟨fun _ h => (by cases h), _, rfl, rfl⟩)

def lastI (s : List UInt8) : Int := match lastSlash s with
  | some i => (i : Int)
  | none => -1
theorem last70 (s : List UInt8) (hs : s.length ≤ 100000) : FnOk Tryd.prog 70 [T s, .val (.int .u8 47)] [] (fun r bs' => fr bs' r = iV (lastI s)) := by
  refine FnOk.fast (Q := fun r => r = iV (lastI s)) layOk Tryd.func70 rfl ?_
  have hsub : IntKind.i64.wrap ((s.length : Int) - 1) = (s.length : Int) - 1 := wrap64 (by omega) (by omega)
  refine Ok.seq (go 10 rfl ?_)
  refine Ok.seq ?_
  refine Ok.seq (Ok.regionW (G := fun _ => true) (C := TabP _) mixed layOk noT TabP_calm (.inl rfl) ?_)
  refine wstepN rfl rfl (by dsimp only [putV, List.set]) ?_
  first
    | refine wstepN rfl (lenT rfl rfl) (by dsimp only [putV, List.set]) ?_
    | refine wstepN rfl rfl (by dsimp only [putV, List.set]) ?_
  first
    | refine wstepN rfl (subK (by assumption) rfl rfl) (by dsimp only [putV, List.set]) ?_
    | refine wstepN rfl rfl (by dsimp only [putV, List.set]) ?_
  refine wstepN rfl rfl (by dsimp only [putV, List.set]) ?_
  refine wnil ?_
  refine Ok.gc (bs2 := []) [] [0, 1, 5] (by kernel_rfl) (by decide) (floor_ok rfl) ?_
  refine Ok.block (Ok.loop (fun n ts bs => n ≤ s.length ∧ lastSlash s = lastSlash (s.take n) ∧ bs = [] ∧ ts = (((List.replicate 19 V.gone).set 0 (T s)).set 1 (.val (.int .u8 47))).set 5 (iV ((n : Int) - 1))) s.length ?_ ?_)
  · exact ⟨Nat.le_refl _, by rw [List.take_length], rfl, rfl⟩
  rintro n _ _ ⟨hn, hl, rfl, rfl⟩
  simp only [List.replicate, List.set]
  refine Ok.seq (Ok.seq ?_)
  cases n with
  | zero =>
    have hq : decide (((0 : Nat) : Int) - 1 ≥ 0) = false := rfl
    refine Ok.regionW (G := fun _ => true) (C := TabP _) mixed layOk noT TabP_calm (.inl rfl) ?_
    refine wstepN rfl rfl (by dsimp only [putV, List.set]) ?_
    first
      | refine wstepN rfl (geqK h0 rfl rfl) (by dsimp only [putV, List.set]) ?_
      | refine wstepN rfl (geqK (by assumption) rfl rfl) (by dsimp only [putV, List.set]) ?_
      | refine wstepN rfl rfl (by dsimp only [putV, List.set]) ?_
    refine wnil (Ok.cond (b := false) rfl (fun h => by cases h) (fun _ => ?_))
    refine Ok.exit ?_
    exact go 10 rfl ⟨fun _ h => (by cases h), _, rfl, by rw [lastI, hl]; rfl⟩
  | succ k =>
    obtain ⟨c, hc⟩ : ∃ c, s[k]? = some c := ⟨_, List.getElem?_eq_getElem (by omega)⟩
    rw [last_take hc] at hl
    rw [show ((k + 1 : Nat) : Int) - 1 = (k : Int) by omega]
    have hq : decide ((k : Int) ≥ 0) = true := by simp
    have hsub : IntKind.i64.wrap ((k : Int) - 1) = (k : Int) - 1 := wrap64 (by omega) (by omega)
    refine Ok.regionW (G := fun _ => true) (C := TabP _) mixed layOk noT TabP_calm (.inl rfl) ?_
    refine wstepN rfl rfl (by dsimp only [putV, List.set]) ?_
    first
      | refine wstepN rfl (geqK h0 rfl rfl) (by dsimp only [putV, List.set]) ?_
      | refine wstepN rfl (geqK (by assumption) rfl rfl) (by dsimp only [putV, List.set]) ?_
      | refine wstepN rfl rfl (by dsimp only [putV, List.set]) ?_
    refine wnil (Ok.cond (b := true) rfl (fun _ => ?_) (fun h => by cases h))
    refine Ok.skip ?_
    refine Ok.after (Ok.seq (Ok.block (Ok.seq ?_)))
    cases h47 : decide (c = 47)
    · refine Ok.regionW (G := fun _ => true) (C := TabP _) mixed layOk noT TabP_calm (.inl rfl) ?_
      refine wstepN rfl rfl (by dsimp only [putV, List.set]) ?_
      refine wstepN rfl rfl (by dsimp only [putV, List.set]) ?_
      first
        | refine wstepN rfl (idxT rfl rfl rfl (by assumption)) (by dsimp only [putV, List.set]) ?_
        | refine wstepN rfl rfl (by dsimp only [putV, List.set]) ?_
      refine wstepN rfl rfl (by dsimp only [putV, List.set]) ?_
      first
        | refine wstepN rfl (eqC (by first | rfl | assumption) (by assumption) rfl rfl) (by dsimp only [putV, List.set]) ?_
        | refine wstepN rfl (eqC (d := 47) rfl (by assumption) rfl rfl) (by dsimp only [putV, List.set]) ?_
        | refine wstepN rfl (eqC (d := 0) rfl (by assumption) rfl rfl) (by dsimp only [putV, List.set]) ?_
        | refine wstepN rfl (eqlK (by assumption) rfl rfl) (by dsimp only [putV, List.set]) ?_
        | refine wstepN rfl rfl (by dsimp only [putV, List.set]) ?_
      refine wnil (Ok.cond (b := false) rfl (fun h => by cases h) (fun _ => ?_))
      refine Ok.skip ?_
      refine Ok.regionW (G := fun _ => true) (C := TabP _) mixed layOk noT TabP_calm (.inl rfl) ?_
      refine wstepN rfl rfl (by dsimp only [putV, List.set]) ?_
      first
        | refine wstepN rfl (subK (by assumption) rfl rfl) (by dsimp only [putV, List.set]) ?_
        | refine wstepN rfl rfl (by dsimp only [putV, List.set]) ?_
      refine wstepN rfl rfl (by dsimp only [putV, List.set]) ?_
      refine wnil ?_
      rw [if_neg (by simpa using h47)] at hl
      exact ⟨[], [0, 1, 5], [], by kernel_rfl, by decide, floor_ok rfl, k, by omega, by omega, hl, rfl, rfl⟩
    · refine Ok.regionW (G := fun _ => true) (C := TabP _) mixed layOk noT TabP_calm (.inl rfl) ?_
      refine wstepN rfl rfl (by dsimp only [putV, List.set]) ?_
      refine wstepN rfl rfl (by dsimp only [putV, List.set]) ?_
      first
        | refine wstepN rfl (idxT rfl rfl rfl (by assumption)) (by dsimp only [putV, List.set]) ?_
        | refine wstepN rfl rfl (by dsimp only [putV, List.set]) ?_
      refine wstepN rfl rfl (by dsimp only [putV, List.set]) ?_
      first
        | refine wstepN rfl (eqC (by first | rfl | assumption) (by assumption) rfl rfl) (by dsimp only [putV, List.set]) ?_
        | refine wstepN rfl (eqC (d := 47) rfl (by assumption) rfl rfl) (by dsimp only [putV, List.set]) ?_
        | refine wstepN rfl (eqC (d := 0) rfl (by assumption) rfl rfl) (by dsimp only [putV, List.set]) ?_
        | refine wstepN rfl (eqlK (by assumption) rfl rfl) (by dsimp only [putV, List.set]) ?_
        | refine wstepN rfl rfl (by dsimp only [putV, List.set]) ?_
      refine wnil (Ok.cond (b := true) rfl (fun _ => ?_) (fun h => by cases h))
      rw [if_pos (by simpa using h47)] at hl
      rw [show lastI s = (k : Int) by rw [lastI, hl]]
      refine Ok.seq (Ok.regionW (G := fun _ => true) (C := TabP _) mixed layOk noT TabP_calm (.inl rfl) ?_)
      refine wstepN rfl rfl (by dsimp only [putV, List.set]) ?_
      refine wstepN rfl rfl (by dsimp only [putV, List.set]) ?_
      refine wnil (Ok.ret ?_)
      exact ⟨[], [0, 1, 4, 5], [], by kernel_rfl, by decide, floor_ok rfl, fun _ h => (by cases h), _, rfl, rfl⟩

theorem last52 (s : List UInt8) (hs : s.length ≤ 100000) : FnOk Tryd.prog 52 [T s, .val (.int .u8 47)] [] (fun r bs' => fr bs' r = iV (lastI s)) := by
  refine FnOk.fast (Q := fun r => r = iV (lastI s)) layOk Tryd.func52 rfl ?_
  have hT := T1_good (last70 s hs) rfl rfl Tryd.call70
  refine Ok.seq (go 10 rfl ?_)
  refine Ok.seq (Ok.regionW (G := fun _ => true) (C := TabP _) mixed layOk hT TabP_calm (.inl rfl) ?_)
  refine wstepN rfl rfl (by dsimp only [putV, List.set]) ?_
  refine wstepN rfl rfl (by dsimp only [putV, List.set]) ?_
  refine wstepN rfl T1_hit (by dsimp only [putV, List.set]) ?_
  refine wstepN rfl rfl (by dsimp only [putV, List.set]) ?_
  refine wnil (Ok.ret ⟨fun _ h => (by cases h), _, rfl, rfl⟩)

theorem parent36 (s : List UInt8) (hs : s.length ≤ 100000) : FnOk Tryd.prog 36 [T s] [] (fun r bs' => fr bs' r = T (parentB s)) := by
  refine FnOk.fast (Q := fun r => r = T (parentB s)) layOk Tryd.func36 rfl ?_
  have hT := T1_good (last52 s hs) rfl rfl Tryd.call52
  refine Ok.seq (go 10 rfl ?_)
  refine Ok.seq ?_
  refine Ok.seq (Ok.regionW (G := fun _ => true) (C := TabP _) mixed layOk hT TabP_calm (.inl rfl) ?_)
  refine wstepN rfl rfl (by dsimp only [putV, List.set]) ?_
  refine wstepN rfl T1_hit (by dsimp only [putV, List.set]) ?_
  refine wstepN rfl rfl (by dsimp only [putV, List.set]) ?_
  refine wnil ?_
  cases hl : lastSlash s with
  | none =>
    have hq : decide (lastI s > 0) = false := by simp [lastI, hl]
    rw [show parentB s = [47] by simp [parentB, hl]]
    refine Ok.seq (Ok.regionW (G := fun _ => true) (C := TabP _) mixed layOk noT TabP_calm (.inl rfl) ?_)
    refine wstepN rfl rfl (by dsimp only [putV, List.set]) ?_
    first
      | refine wstepN rfl (gtrK h0 rfl rfl) (by dsimp only [putV, List.set]) ?_
      | refine wstepN rfl (gtrK (by assumption) rfl rfl) (by dsimp only [putV, List.set]) ?_
      | refine wstepN rfl rfl (by dsimp only [putV, List.set]) ?_
    refine wnil (Ok.cond (b := false) rfl (fun h => by cases h) (fun _ => ?_))
    refine Ok.skip ?_
    exact go 10 rfl ⟨fun _ h => (by cases h), _, rfl, rfl⟩
  | some i =>
    cases i with
    | zero =>
      have hq : decide (lastI s > 0) = false := by simp [lastI, hl]
      rw [show parentB s = [47] by simp [parentB, hl]]
      refine Ok.seq (Ok.regionW (G := fun _ => true) (C := TabP _) mixed layOk noT TabP_calm (.inl rfl) ?_)
      refine wstepN rfl rfl (by dsimp only [putV, List.set]) ?_
      first
        | refine wstepN rfl (gtrK h0 rfl rfl) (by dsimp only [putV, List.set]) ?_
        | refine wstepN rfl (gtrK (by assumption) rfl rfl) (by dsimp only [putV, List.set]) ?_
        | refine wstepN rfl rfl (by dsimp only [putV, List.set]) ?_
      refine wnil (Ok.cond (b := false) rfl (fun h => by cases h) (fun _ => ?_))
      refine Ok.skip ?_
      exact go 10 rfl ⟨fun _ h => (by cases h), _, rfl, rfl⟩
    | succ j =>
      have hj : j + 1 < s.length := (List.getElem?_eq_some_iff.1 (last_lt hl)).1
      have hi : lastI s = ((j + 1 : Nat) : Int) := by simp [lastI, hl]
      rw [hi]
      have hq : decide (((j + 1 : Nat) : Int) > 0) = true := decide_eq_true (by omega)
      rw [show parentB s = s.take (j + 1) by simp [parentB, hl]]
      refine Ok.seq (Ok.regionW (G := fun _ => true) (C := TabP _) mixed layOk noT TabP_calm (.inl rfl) ?_)
      refine wstepN rfl rfl (by dsimp only [putV, List.set]) ?_
      first
        | refine wstepN rfl (gtrK h0 rfl rfl) (by dsimp only [putV, List.set]) ?_
        | refine wstepN rfl (gtrK (by assumption) rfl rfl) (by dsimp only [putV, List.set]) ?_
        | refine wstepN rfl rfl (by dsimp only [putV, List.set]) ?_
      refine wnil (Ok.cond (b := true) rfl (fun _ => ?_) (fun h => by cases h))
      refine Ok.seq (Ok.regionW (G := fun _ => true) (C := TabP _) mixed layOk noT TabP_calm (.inl rfl) ?_)
      refine wstepN rfl rfl (by dsimp only [putV, List.set]) ?_
      refine wstepN rfl rfl (by dsimp only [putV, List.set]) ?_
      first
        | refine wstepN rfl (cutToT rfl rfl rfl (by omega)) (by dsimp only [putV, List.set]) ?_
        | refine wstepN rfl (cutToT rfl rfl rfl (by assumption)) (by dsimp only [putV, List.set]) ?_
        | refine wstepN rfl rfl (by dsimp only [putV, List.set]) ?_
      refine wstepN rfl rfl (by dsimp only [putV, List.set]) ?_
      refine wnil (Ok.ret ⟨fun _ h => (by cases h), _, rfl, rfl⟩)

theorem suf78 (a : List UInt8) (c : UInt8) (hs : a.length ≤ 100000) : FnOk Tryd.prog 78 [T (a ++ [c]), T [47]] [] (fun r bs' => fr bs' r = bV (decide ([c] = [(47 : UInt8)]))) := by
  refine FnOk.fast (Q := fun r => r = bV (decide ([c] = [(47 : UInt8)]))) layOk Tryd.func78 rfl ?_
  have hq : decide ((((a ++ [c]).length : Nat) : Int) ≥ ((([47] : List UInt8).length : Nat) : Int)) = true := decide_eq_true (by simp; omega)
  have hsub : IntKind.i64.wrap ((((a ++ [c]).length : Nat) : Int) - ((([47] : List UInt8).length : Nat) : Int)) = ((a.length : Nat) : Int) := by
    rw [wrap64 (by simp <;> omega) (by simp <;> omega)]
    simp
  generalize hv : decide ([c] = [(47 : UInt8)]) = v
  refine Ok.seq (go 10 rfl ?_)
  refine Ok.seq (Ok.regionW (G := fun _ => true) (C := TabP _) mixed layOk noT TabP_calm (.inl rfl) ?_)
  refine wstepN rfl rfl (by dsimp only [putV, List.set]) ?_
  first
    | refine wstepN rfl (lenT rfl rfl) (by dsimp only [putV, List.set]) ?_
    | refine wstepN rfl rfl (by dsimp only [putV, List.set]) ?_
  refine wstepN rfl rfl (by dsimp only [putV, List.set]) ?_
  first
    | refine wstepN rfl (lenT rfl rfl) (by dsimp only [putV, List.set]) ?_
    | refine wstepN rfl rfl (by dsimp only [putV, List.set]) ?_
  first
    | refine wstepN rfl (geqK (by assumption) rfl rfl) (by dsimp only [putV, List.set]) ?_
    | refine wstepN rfl rfl (by dsimp only [putV, List.set]) ?_
  refine wstepN rfl rfl (by dsimp only [putV, List.set]) ?_
  first
    | refine wskipN rfl (by dsimp only [putV, List.set]) ?_
    | refine wstepN rfl rfl (by dsimp only [putV, List.set]) ?_
  first
    | refine wskipN rfl (by dsimp only [putV, List.set]) ?_
    | refine wstepN rfl rfl (by dsimp only [putV, List.set]) ?_
  first
    | refine wskipN rfl (by dsimp only [putV, List.set]) ?_
    | refine wstepN rfl (lenT rfl rfl) (by dsimp only [putV, List.set]) ?_
    | refine wstepN rfl rfl (by dsimp only [putV, List.set]) ?_
  first
    | refine wskipN rfl (by dsimp only [putV, List.set]) ?_
    | refine wstepN rfl rfl (by dsimp only [putV, List.set]) ?_
  first
    | refine wskipN rfl (by dsimp only [putV, List.set]) ?_
    | refine wstepN rfl (lenT rfl rfl) (by dsimp only [putV, List.set]) ?_
    | refine wstepN rfl rfl (by dsimp only [putV, List.set]) ?_
  first
    | refine wskipN rfl (by dsimp only [putV, List.set]) ?_
    | refine wstepN rfl (subK (by assumption) rfl rfl) (by dsimp only [putV, List.set]) ?_
    | refine wstepN rfl rfl (by dsimp only [putV, List.set]) ?_
  refine wstepN rfl (cutFromR (l' := [c]) (a := a.length) (by simp) (by simp) rfl rfl rfl) (by dsimp only [putV, List.set]) ?_
  first
    | refine wskipN rfl (by dsimp only [putV, List.set]) ?_
    | refine wstepN rfl rfl (by dsimp only [putV, List.set]) ?_
  first
    | refine wskipN rfl (by dsimp only [putV, List.set]) ?_
    | refine wstepN rfl (eqT (by assumption) rfl rfl) (by dsimp only [putV, List.set]) ?_
    | refine wstepN rfl rfl (by dsimp only [putV, List.set]) ?_
  refine wstepN rfl rfl (by dsimp only [putV, List.set]) ?_
  refine wstepN rfl rfl (by dsimp only [putV, List.set]) ?_
  refine wnil (Ok.ret ⟨fun _ h => (by cases h), _, rfl, rfl⟩)

theorem trim62 (s : List UInt8) (hs : s.length ≤ 100000) : FnOk Tryd.prog 62 [T s, T [47]] [] (fun r bs' => fr bs' r = T (trimP s)) := by
  rcases List.eq_nil_or_concat s with rfl | ⟨a, c, rfl⟩
  · exact FnOk.fast (Q := fun r => r = T (trimP [])) layOk Tryd.func62 rfl (goOut 100 (r := T []) (by kernel_rfl) rfl)
  rw [List.concat_eq_append] at hs ⊢
  simp only [List.length_append, List.length_cons, List.length_nil] at hs
  refine FnOk.fast (Q := fun r => r = T (trimP (a ++ [c]))) layOk Tryd.func62 rfl ?_
  have hT := T1_good (suf78 a c (by omega)) rfl rfl Tryd.call78
  have hsub : IntKind.i64.wrap ((((a ++ [c]).length : Nat) : Int) - ((([47] : List UInt8).length : Nat) : Int)) = ((a.length : Nat) : Int) := by
    rw [wrap64 (by simp <;> omega) (by simp <;> omega)]
    simp
  refine Ok.seq (go 10 rfl ?_)
  refine Ok.seq ?_
  cases hv : decide ([c] = [(47 : UInt8)])
  · rw [hv] at hT
    rw [show trimP (a ++ [c]) = a ++ [c] by
      have : ¬ c = 47 := by simpa using hv
      simp [trimP, this]]
    refine Ok.seq (Ok.regionW (G := fun _ => true) (C := TabP _) mixed layOk hT TabP_calm (.inl rfl) ?_)
    refine wstepN rfl rfl (by dsimp only [putV, List.set]) ?_
    refine wstepN rfl rfl (by dsimp only [putV, List.set]) ?_
    refine wstepN rfl T1_hit (by dsimp only [putV, List.set]) ?_
    refine wnil (Ok.cond (b := false) rfl (fun h => by cases h) (fun _ => ?_))
    refine Ok.skip ?_
    exact go 10 rfl ⟨fun _ h => (by cases h), _, rfl, rfl⟩
  · rw [hv] at hT
    rw [show trimP (a ++ [c]) = a by
      have : c = 47 := by simpa using hv
      simp [trimP, this]]
    refine Ok.seq (Ok.regionW (G := fun _ => true) (C := TabP _) mixed layOk hT TabP_calm (.inl rfl) ?_)
    refine wstepN rfl rfl (by dsimp only [putV, List.set]) ?_
    refine wstepN rfl rfl (by dsimp only [putV, List.set]) ?_
    refine wstepN rfl T1_hit (by dsimp only [putV, List.set]) ?_
    refine wnil (Ok.cond (b := true) rfl (fun _ => ?_) (fun h => by cases h))
    refine Ok.seq (Ok.regionW (G := fun _ => true) (C := TabP _) mixed layOk noT TabP_calm (.inl rfl) ?_)
    refine wstepN rfl rfl (by dsimp only [putV, List.set]) ?_
    refine wstepN rfl rfl (by dsimp only [putV, List.set]) ?_
    first
      | refine wstepN rfl (lenT rfl rfl) (by dsimp only [putV, List.set]) ?_
      | refine wstepN rfl rfl (by dsimp only [putV, List.set]) ?_
    refine wstepN rfl rfl (by dsimp only [putV, List.set]) ?_
    first
      | refine wstepN rfl (lenT rfl rfl) (by dsimp only [putV, List.set]) ?_
      | refine wstepN rfl rfl (by dsimp only [putV, List.set]) ?_
    first
      | refine wstepN rfl (subK (by assumption) rfl rfl) (by dsimp only [putV, List.set]) ?_
      | refine wstepN rfl rfl (by dsimp only [putV, List.set]) ?_
    refine wstepN rfl (cutToR (l' := a) (b := a.length) (by simp) (by simp) rfl rfl rfl) (by dsimp only [putV, List.set]) ?_
    refine wstepN rfl rfl (by dsimp only [putV, List.set]) ?_
    refine wnil (Ok.ret ⟨fun _ h => (by cases h), _, rfl, rfl⟩)

theorem trim38 (s : List UInt8) (hs : s.length ≤ 100000) : FnOk Tryd.prog 38 [T s, T [47]] [] (fun r bs' => fr bs' r = T (trimP s)) := by
  refine FnOk.fast (Q := fun r => r = T (trimP s)) layOk Tryd.func38 rfl ?_
  have hT := T1_good (trim62 s hs) rfl rfl Tryd.call62
  refine Ok.seq (go 10 rfl ?_)
  refine Ok.seq (Ok.regionW (G := fun _ => true) (C := TabP _) mixed layOk hT TabP_calm (.inl rfl) ?_)
  refine wstepN rfl rfl (by dsimp only [putV, List.set]) ?_
  refine wstepN rfl rfl (by dsimp only [putV, List.set]) ?_
  refine wstepN rfl T1_hit (by dsimp only [putV, List.set]) ?_
  refine wstepN rfl rfl (by dsimp only [putV, List.set]) ?_
  refine wnil (Ok.ret ⟨fun _ h => (by cases h), _, rfl, rfl⟩)

theorem pre73 (s : List UInt8) (hs : s.length ≤ 100000) : FnOk Tryd.prog 73 [T s, T [47]] [] (fun r bs' => fr bs' r = bV (decide (s.head? = some 47))) := by
  cases s with
  | nil => exact FnOk.fast (Q := fun r => r = bV (decide (([] : List UInt8).head? = some 47))) layOk Tryd.func73 rfl (goOut 100 (r := bV false) (by kernel_rfl) rfl)
  | cons c r =>
    refine FnOk.fast (Q := fun q => q = bV (decide ((c :: r).head? = some 47))) layOk Tryd.func73 rfl ?_
    have hq : decide ((((c :: r).length : Nat) : Int) ≥ ((([47] : List UInt8).length : Nat) : Int)) = true := decide_eq_true (by simp; omega)
    rw [show decide ((c :: r).head? = some 47) = decide ([c] = [(47 : UInt8)]) by simp]
    generalize hv : decide ([c] = [(47 : UInt8)]) = v
    refine Ok.seq (go 10 rfl ?_)
    refine Ok.seq (Ok.regionW (G := fun _ => true) (C := TabP _) mixed layOk noT TabP_calm (.inl rfl) ?_)
    refine wstepN rfl rfl (by dsimp only [putV, List.set]) ?_
    first
      | refine wstepN rfl (lenT rfl rfl) (by dsimp only [putV, List.set]) ?_
      | refine wstepN rfl rfl (by dsimp only [putV, List.set]) ?_
    refine wstepN rfl rfl (by dsimp only [putV, List.set]) ?_
    first
      | refine wstepN rfl (lenT rfl rfl) (by dsimp only [putV, List.set]) ?_
      | refine wstepN rfl rfl (by dsimp only [putV, List.set]) ?_
    first
      | refine wstepN rfl (geqK (by assumption) rfl rfl) (by dsimp only [putV, List.set]) ?_
      | refine wstepN rfl rfl (by dsimp only [putV, List.set]) ?_
    refine wstepN rfl rfl (by dsimp only [putV, List.set]) ?_
    first
      | refine wskipN rfl (by dsimp only [putV, List.set]) ?_
      | refine wstepN rfl rfl (by dsimp only [putV, List.set]) ?_
    first
      | refine wskipN rfl (by dsimp only [putV, List.set]) ?_
      | refine wstepN rfl rfl (by dsimp only [putV, List.set]) ?_
    first
      | refine wskipN rfl (by dsimp only [putV, List.set]) ?_
      | refine wstepN rfl (lenT rfl rfl) (by dsimp only [putV, List.set]) ?_
      | refine wstepN rfl rfl (by dsimp only [putV, List.set]) ?_
    refine wstepN rfl (cutToR (l' := [c]) (b := ([47] : List UInt8).length) (by simp) (by simp) rfl rfl rfl) (by dsimp only [putV, List.set]) ?_
    first
      | refine wskipN rfl (by dsimp only [putV, List.set]) ?_
      | refine wstepN rfl rfl (by dsimp only [putV, List.set]) ?_
    first
      | refine wskipN rfl (by dsimp only [putV, List.set]) ?_
      | refine wstepN rfl (eqT (by assumption) rfl rfl) (by dsimp only [putV, List.set]) ?_
      | refine wstepN rfl rfl (by dsimp only [putV, List.set]) ?_
    refine wstepN rfl rfl (by dsimp only [putV, List.set]) ?_
    refine wstepN rfl rfl (by dsimp only [putV, List.set]) ?_
    refine wnil (Ok.ret ⟨fun _ h => (by cases h), _, rfl, rfl⟩)

theorem pre59 (s : List UInt8) (hs : s.length ≤ 100000) : FnOk Tryd.prog 59 [T s, T [47]] [] (fun r bs' => fr bs' r = bV (decide (s.head? = some 47))) := by
  refine FnOk.fast (Q := fun r => r = bV (decide (s.head? = some 47))) layOk Tryd.func59 rfl ?_
  have hT := T1_good (pre73 s hs) rfl rfl Tryd.call73
  refine Ok.seq (go 10 rfl ?_)
  refine Ok.seq (Ok.regionW (G := fun _ => true) (C := TabP _) mixed layOk hT TabP_calm (.inl rfl) ?_)
  refine wstepN rfl rfl (by dsimp only [putV, List.set]) ?_
  refine wstepN rfl rfl (by dsimp only [putV, List.set]) ?_
  refine wstepN rfl T1_hit (by dsimp only [putV, List.set]) ?_
  refine wstepN rfl rfl (by dsimp only [putV, List.set]) ?_
  refine wnil (Ok.ret ⟨fun _ h => (by cases h), _, rfl, rfl⟩)

end Go.Proofs.YtiefcnghjcafbaaDoorV

/- Paths, and cleaned paths. -/
namespace Go.Proofs.YtiefcnghjcafbaaDoorV
open Go Go.RowKit Go.Proofs.YtiefcnghjcafbaaDoor
set_option maxRecDepth 20000
set_option maxHeartbeats 4000000

section
variable {L : Lay} {C : CallT} {ts : List V} {bs : List Bx} {t : TypeId} {x : Operand}
theorem lenR {l : List (List UInt8)} {n : Nat} {q : TypeId × Nat} (h : l.length = n) (hs : L.sl t = some q) (hx : evO ts x = some (.sl (rowsT l))) : evX L C (.call { callee := .builtin .len, args := #[x], argTypes := #[t] }) ts bs = some (iV (n : Int), bs) := by
  simp only [evX, evCall, hx, hs, view, rowsT_len, h]
theorem ldT {a : List UInt8} (ha : evO ts x = some (.eptr [S.val (.string (B a))])) (hc : L.cel t = some (1, false)) : evX L C (.load t x) ts bs = some (T a, bs) := by
  simp only [evX, ev, ha, hc, rd]
  rfl
end

theorem take_all {α : Type} {l : List α} {k : Nat} {c : α} {p : α → Bool} (h : l[k]? = some c) : (l.take (k + 1)).all p = ((l.take k).all p && p c) := by
  rw [List.take_add_one, h]
  simp

inductive P34 : FuncId → List V → V → Prop
  | pre (s : List UInt8) (h : s.length ≤ 100000) : P34 59 [T s, T [47]] (bV (decide (s.head? = some 47)))
  | split (s : List UInt8) (h : s.length ≤ 100000) : P34 35 [T s, T [47]] (.sl (rowsT (splitB s)))
  | name (s : List UInt8) : P34 37 [T s] (bV (nameB s))
theorem P34_u : Uniq P34 := fun f vs v v' h h' => by cases h <;> cases h' <;> rfl
theorem P34_good : Good Tryd.prog (TabP P34) := TabP_good fun f vs v h => by
  cases h with
  | pre s h => exact ⟨pre59 s h, rfl, rfl, Tryd.call59⟩
  | split s h => exact ⟨split35 s h, rfl, rfl, Tryd.call35⟩
  | name s => exact ⟨name37 s, rfl, rfl, Tryd.call37⟩

theorem path34 (s : List UInt8) (hs : s.length ≤ 100000) : FnOk Tryd.prog 34 [T s] [] (fun r bs' => fr bs' r = bV (pathB s)) := by
  by_cases e : s = [47]
  · subst e; exact FnOk.fast (Q := fun r => r = bV (pathB [47])) layOk Tryd.func34 rfl (goOut 100 (r := bV true) (by kernel_rfl) rfl)
  refine FnOk.fast (Q := fun r => r = bV (pathB s)) layOk Tryd.func34 rfl ?_
  have hq0 : decide (s = [47]) = false := by simpa using e
  have hT := P34_good
  have hU := P34_u
  refine Ok.seq (go 10 rfl ?_)
  refine Ok.seq ?_
  refine Ok.seq (Ok.regionW (G := fun _ => true) (C := TabP _) mixed layOk noT TabP_calm (.inl rfl) ?_)
  refine wstepN rfl rfl (by dsimp only [putV, List.set]) ?_
  first
    | refine wstepN rfl (eqT (by assumption) rfl rfl) (by dsimp only [putV, List.set]) ?_
    | refine wstepN rfl rfl (by dsimp only [putV, List.set]) ?_
  refine wnil (Ok.cond (b := false) rfl (fun h => by cases h) (fun _ => ?_))
  refine Ok.skip ?_
  refine Ok.seq ?_
  cases hl : decide ((s.length : Int) > 128)
  · have hl' : s.length ≤ 128 := by
      have : ¬ (s.length : Int) > 128 := of_decide_eq_false hl
      omega
    have hp : P34 59 [T s, T [47]] (bV (decide (s.head? = some 47))) := .pre s hs
    cases hh : decide (s.head? = some 47)
    · rw [hh] at hp
      rw [show pathB s = false by
        have : ¬ s.head? = some 47 := of_decide_eq_false hh
        simp [pathB, e, this]]
      refine Ok.seq (Ok.regionW (G := fun _ => true) (C := TabP _) mixed layOk hT TabP_calm (.inl rfl) ?_)
      refine wstepN rfl rfl (by dsimp only [putV, List.set]) ?_
      first
        | refine wstepN rfl (lenT rfl rfl) (by dsimp only [putV, List.set]) ?_
        | refine wstepN rfl rfl (by dsimp only [putV, List.set]) ?_
      first
        | refine wstepN rfl (gtrK h128 rfl rfl) (by dsimp only [putV, List.set]) ?_
        | refine wstepN rfl (gtrK (by assumption) rfl rfl) (by dsimp only [putV, List.set]) ?_
        | refine wstepN rfl rfl (by dsimp only [putV, List.set]) ?_
      refine wstepN rfl rfl (by dsimp only [putV, List.set]) ?_
      first
        | refine wskipN rfl (by dsimp only [putV, List.set]) ?_
        | refine wstepN rfl rfl (by dsimp only [putV, List.set]) ?_
      first
        | refine wskipN rfl (by dsimp only [putV, List.set]) ?_
        | refine wstepN rfl (hit59 (by first | assumption | omega)) (by dsimp only [putV, List.set]) ?_
        | refine wstepN rfl (T1_hit) (by dsimp only [putV, List.set]) ?_
        | refine wstepN rfl (TabP_use (by assumption) (by assumption)) (by dsimp only [putV, List.set]) ?_
        | refine wstepN rfl (TabP_hit (fun v' h => by cases h; rfl) (by assumption)) (by dsimp only [putV, List.set]) ?_
        | refine wstepN rfl (TabP_hit (fun v' h => by cases h; rfl) (by constructor)) (by dsimp only [putV, List.set]) ?_
        | refine wstepN rfl rfl (by dsimp only [putV, List.set]) ?_
      first
        | refine wskipN rfl (by dsimp only [putV, List.set]) ?_
        | refine wstepN rfl rfl (by dsimp only [putV, List.set]) ?_
      refine wstepN rfl rfl (by dsimp only [putV, List.set]) ?_
      refine wnil (Ok.cond (b := true) rfl (fun _ => ?_) (fun h => by cases h))
      exact go 10 rfl ⟨fun _ h => (by cases h), _, rfl, rfl⟩
    · rw [hh] at hp
      obtain ⟨r, rfl⟩ : ∃ r, s = 47 :: r := by
        have := of_decide_eq_true hh
        cases s with
        | nil => cases this
        | cons c r => simp at this; exact ⟨r, by rw [this]⟩
      rw [show pathB (47 :: r) = (splitB r).all nameB by simp only [pathB, e, hl', hh]; simp]
      refine Ok.seq (Ok.regionW (G := fun _ => true) (C := TabP _) mixed layOk hT TabP_calm (.inl rfl) ?_)
      refine wstepN rfl rfl (by dsimp only [putV, List.set]) ?_
      first
        | refine wstepN rfl (lenT rfl rfl) (by dsimp only [putV, List.set]) ?_
        | refine wstepN rfl rfl (by dsimp only [putV, List.set]) ?_
      first
        | refine wstepN rfl (gtrK h128 rfl rfl) (by dsimp only [putV, List.set]) ?_
        | refine wstepN rfl (gtrK (by assumption) rfl rfl) (by dsimp only [putV, List.set]) ?_
        | refine wstepN rfl rfl (by dsimp only [putV, List.set]) ?_
      refine wstepN rfl rfl (by dsimp only [putV, List.set]) ?_
      first
        | refine wskipN rfl (by dsimp only [putV, List.set]) ?_
        | refine wstepN rfl rfl (by dsimp only [putV, List.set]) ?_
      first
        | refine wskipN rfl (by dsimp only [putV, List.set]) ?_
        | refine wstepN rfl (hit59 (by first | assumption | omega)) (by dsimp only [putV, List.set]) ?_
        | refine wstepN rfl (T1_hit) (by dsimp only [putV, List.set]) ?_
        | refine wstepN rfl (TabP_use (by assumption) (by assumption)) (by dsimp only [putV, List.set]) ?_
        | refine wstepN rfl (TabP_hit (fun v' h => by cases h; rfl) (by assumption)) (by dsimp only [putV, List.set]) ?_
        | refine wstepN rfl (TabP_hit (fun v' h => by cases h; rfl) (by constructor)) (by dsimp only [putV, List.set]) ?_
        | refine wstepN rfl rfl (by dsimp only [putV, List.set]) ?_
      first
        | refine wskipN rfl (by dsimp only [putV, List.set]) ?_
        | refine wstepN rfl rfl (by dsimp only [putV, List.set]) ?_
      refine wstepN rfl rfl (by dsimp only [putV, List.set]) ?_
      refine wnil (Ok.cond (b := false) rfl (fun h => by cases h) (fun _ => ?_))
      refine Ok.skip ?_
      have hsp : P34 35 [T r, T [47]] (.sl (rowsT (splitB r))) := .split r (by simp at hs; omega)
      have hN0 := splitB_len r
      generalize splitB r = l at hsp hN0
      obtain ⟨N, hN⟩ : ∃ N, l.length = N := ⟨_, rfl⟩
      have hNs : N ≤ 200 := by simp at hl'; omega
      refine Ok.seq ?_
      refine Ok.seq (Ok.regionW (G := fun _ => true) (C := TabP _) mixed layOk hT TabP_calm (.inl rfl) ?_)
      refine wstepN rfl rfl (by dsimp only [putV, List.set]) ?_
      refine wstepN rfl (cutFromR (l' := r) (a := 1) (by simp) rfl rfl rfl rfl) (by dsimp only [putV, List.set]) ?_
      first
        | refine wstepN rfl (hit35 (by first | assumption | omega)) (by dsimp only [putV, List.set]) ?_
        | refine wstepN rfl (T1_hit) (by dsimp only [putV, List.set]) ?_
        | refine wstepN rfl (TabP_use (by assumption) (by assumption)) (by dsimp only [putV, List.set]) ?_
        | refine wstepN rfl (TabP_hit (fun v' h => by cases h; rfl) (by assumption)) (by dsimp only [putV, List.set]) ?_
        | refine wstepN rfl (TabP_hit (fun v' h => by cases h; rfl) (by constructor)) (by dsimp only [putV, List.set]) ?_
        | refine wstepN rfl rfl (by dsimp only [putV, List.set]) ?_
      first
        | refine wstepN rfl (lenR (by assumption) rfl rfl) (by dsimp only [putV, List.set]) ?_
        | refine wstepN rfl rfl (by dsimp only [putV, List.set]) ?_
      refine wstepN rfl rfl (by dsimp only [putV, List.set]) ?_
      refine wnil ?_
      refine Ok.gc (bs2 := []) [] [17, 18, 19] (by kernel_rfl) (by decide) (floor_ok rfl) ?_
      refine Ok.count N (fun k ts bs => k ≤ N ∧ (l.take k).all nameB = true ∧ bs = [] ∧ ts = (((List.replicate 27 V.gone).set 17 (.sl (rowsT l))).set 18 (iV (N : Int))).set 19 (iV (k : Int))) ?_ ?_
      · exact ⟨Nat.zero_le _, rfl, rfl, rfl⟩
      rintro k _ _ ⟨hk, hall, rfl, rfl⟩
      simp only [List.replicate, List.set]
      cases hlt : decide (k < N)
      · refine Ok.seq (Ok.regionW (G := fun _ => true) (C := TabP _) mixed layOk noT TabP_calm (.inl rfl) ?_)
        first
          | refine wstepN rfl (ltT hlt rfl rfl) (by dsimp only [putV, List.set]) ?_
          | refine wstepN rfl (ltT (by assumption) rfl rfl) (by dsimp only [putV, List.set]) ?_
          | refine wstepN rfl (lssK (by assumption) rfl rfl) (by dsimp only [putV, List.set]) ?_
          | refine wstepN rfl rfl (by dsimp only [putV, List.set]) ?_
        refine wnil (Ok.seq (Ok.cond (b := false) rfl (fun h => by cases h) (fun _ => ?_)))
        refine Ok.exit ?_
        have : ¬ k < N := of_decide_eq_false hlt
        rw [List.take_of_length_le (by omega)] at hall
        rw [hall]
        exact go 10 rfl ⟨fun _ h => (by cases h), _, rfl, rfl⟩
      · have hlt' : k < N := of_decide_eq_true hlt
        obtain ⟨c, hc⟩ : ∃ c, l[k]? = some c := ⟨_, List.getElem?_eq_getElem (by omega)⟩
        have hget := rowsT_at hc
        have hnext := take_all (p := nameB) hc
        have hmem := List.mem_of_getElem? hc
        refine Ok.seq (Ok.regionW (G := fun _ => true) (C := TabP _) mixed layOk noT TabP_calm (.inl rfl) ?_)
        first
          | refine wstepN rfl (ltT hlt rfl rfl) (by dsimp only [putV, List.set]) ?_
          | refine wstepN rfl (ltT (by assumption) rfl rfl) (by dsimp only [putV, List.set]) ?_
          | refine wstepN rfl (lssK (by assumption) rfl rfl) (by dsimp only [putV, List.set]) ?_
          | refine wstepN rfl rfl (by dsimp only [putV, List.set]) ?_
        refine wnil (Ok.seq (Ok.cond (b := true) rfl (fun _ => ?_) (fun h => by cases h)))
        refine Ok.skip ?_
        refine Ok.after (Ok.seq (Ok.block ?_))
        refine Ok.seq (Ok.regionW (G := fun _ => true) (C := TabP _) mixed layOk noT TabP_calm (.inl rfl) ?_)
        first
          | refine wstepN rfl (ev_ix rfl rfl rfl (by assumption) rfl) (by dsimp only [putV, List.set]) ?_
          | refine wstepN rfl rfl (by dsimp only [putV, List.set]) ?_
        first
          | refine wstepN rfl (ldT rfl rfl) (by dsimp only [putV, List.set]) ?_
          | refine wstepN rfl (ldE rfl rfl) (by dsimp only [putV, List.set]) ?_
          | refine wstepN rfl rfl (by dsimp only [putV, List.set]) ?_
        refine wstepN rfl rfl (by dsimp only [putV, List.set]) ?_
        refine wnil ?_
        refine Ok.seq (Ok.regionW (G := fun _ => true) (C := TabP _) mixed layOk hT TabP_calm (.inl rfl) ?_)
        refine wstepN rfl rfl (by dsimp only [putV, List.set]) ?_
        first
          | refine wstepN rfl (hit37 (by first | assumption | omega)) (by dsimp only [putV, List.set]) ?_
          | refine wstepN rfl (T1_hit) (by dsimp only [putV, List.set]) ?_
          | refine wstepN rfl (TabP_use (by assumption) (by assumption)) (by dsimp only [putV, List.set]) ?_
          | refine wstepN rfl (TabP_hit (fun v' h => by cases h; rfl) (by assumption)) (by dsimp only [putV, List.set]) ?_
          | refine wstepN rfl (TabP_hit (fun v' h => by cases h; rfl) (by constructor)) (by dsimp only [putV, List.set]) ?_
          | refine wstepN rfl rfl (by dsimp only [putV, List.set]) ?_
        refine wstepN rfl rfl (by dsimp only [putV, List.set]) ?_
        cases hn : nameB c
        · refine wnil (Ok.cond (b := true) rfl (fun _ => ?_) (fun h => by cases h))
          rw [show l.all nameB = false from List.all_eq_false.2 ⟨c, hmem, by simp [hn]⟩]
          refine Ok.seq (Ok.regionW (G := fun _ => true) (C := TabP _) mixed layOk noT TabP_calm (.inl rfl) ?_)
          refine wstepN rfl rfl (by dsimp only [putV, List.set]) ?_
          refine wnil (Ok.ret ?_)
          exact ⟨[], [2], [], by kernel_rfl, by decide, floor_ok rfl, fun _ h => (by cases h), _, rfl, rfl⟩
        · refine wnil (Ok.cond (b := false) rfl (fun h => by cases h) (fun _ => ?_))
          refine Ok.skip ?_
          refine Ok.regionW (G := fun _ => true) (C := TabP _) mixed layOk noT TabP_calm (.inl rfl) ?_
          first
            | refine wstepN rfl (incT (by omega) rfl rfl) (by dsimp only [putV, List.set]) ?_
            | refine wstepN rfl (addK (by assumption) rfl rfl) (by dsimp only [putV, List.set]) ?_
            | refine wstepN rfl rfl (by dsimp only [putV, List.set]) ?_
          refine wstepN rfl rfl (by dsimp only [putV, List.set]) ?_
          refine wnil ?_
          exact ⟨[], [17, 18, 19], [], by kernel_rfl, by decide, floor_ok rfl, hlt', hlt', by rw [hnext, hall, hn]; rfl, rfl, rfl⟩
  · have hl' : ¬ s.length ≤ 128 := by
      have : (s.length : Int) > 128 := of_decide_eq_true hl
      omega
    rw [show pathB s = false by simp [pathB, e, hl']]
    refine Ok.seq (Ok.regionW (G := fun _ => true) (C := TabP _) mixed layOk hT TabP_calm (.inl rfl) ?_)
    refine wstepN rfl rfl (by dsimp only [putV, List.set]) ?_
    first
      | refine wstepN rfl (lenT rfl rfl) (by dsimp only [putV, List.set]) ?_
      | refine wstepN rfl rfl (by dsimp only [putV, List.set]) ?_
    first
      | refine wstepN rfl (gtrK h128 rfl rfl) (by dsimp only [putV, List.set]) ?_
      | refine wstepN rfl (gtrK (by assumption) rfl rfl) (by dsimp only [putV, List.set]) ?_
      | refine wstepN rfl rfl (by dsimp only [putV, List.set]) ?_
    refine wstepN rfl rfl (by dsimp only [putV, List.set]) ?_
    first
      | refine wskipN rfl (by dsimp only [putV, List.set]) ?_
      | refine wstepN rfl rfl (by dsimp only [putV, List.set]) ?_
    first
      | refine wskipN rfl (by dsimp only [putV, List.set]) ?_
      | refine wstepN rfl (hit59 (by first | assumption | omega)) (by dsimp only [putV, List.set]) ?_
      | refine wstepN rfl (T1_hit) (by dsimp only [putV, List.set]) ?_
      | refine wstepN rfl (TabP_use (by assumption) (by assumption)) (by dsimp only [putV, List.set]) ?_
      | refine wstepN rfl (TabP_hit (fun v' h => by cases h; rfl) (by assumption)) (by dsimp only [putV, List.set]) ?_
      | refine wstepN rfl (TabP_hit (fun v' h => by cases h; rfl) (by constructor)) (by dsimp only [putV, List.set]) ?_
      | refine wstepN rfl rfl (by dsimp only [putV, List.set]) ?_
    first
      | refine wskipN rfl (by dsimp only [putV, List.set]) ?_
      | refine wstepN rfl rfl (by dsimp only [putV, List.set]) ?_
    refine wstepN rfl rfl (by dsimp only [putV, List.set]) ?_
    refine wnil (Ok.cond (b := true) rfl (fun _ => ?_) (fun h => by cases h))
    exact go 10 rfl ⟨fun _ h => (by cases h), _, rfl, rfl⟩

inductive P16 : FuncId → List V → V → Prop
  | split (s : List UInt8) (h : s.length ≤ 100000) : P16 35 [T s, T [47]] (.sl (rowsT (splitB s)))
  | name (s : List UInt8) : P16 37 [T s] (bV (nameB s))
  | path (s : List UInt8) (h : s.length ≤ 100000) : P16 34 [T s] (bV (pathB s))
  | parent (s : List UInt8) (h : s.length ≤ 100000) : P16 36 [T s] (T (parentB s))
  | trim (s : List UInt8) (h : s.length ≤ 100000) : P16 38 [T s, T [47]] (T (trimP s))
theorem P16_u : Uniq P16 := fun f vs v v' h h' => by cases h <;> cases h' <;> rfl
theorem P16_good : Good Tryd.prog (TabP P16) := TabP_good fun f vs v h => by
  cases h with
  | split s h => exact ⟨split35 s h, rfl, rfl, Tryd.call35⟩
  | name s => exact ⟨name37 s, rfl, rfl, Tryd.call37⟩
  | path s h => exact ⟨path34 s h, rfl, rfl, Tryd.call34⟩
  | parent s h => exact ⟨parent36 s h, rfl, rfl, Tryd.call36⟩
  | trim s h => exact ⟨trim38 s h, rfl, rfl, Tryd.call38⟩

theorem parentB_len (s : List UInt8) : (parentB s).length ≤ s.length + 1 := by
  unfold parentB
  split
  · simp; omega
  · simp
theorem trimP_len (s : List UInt8) : (trimP s).length ≤ s.length := by
  unfold trimP
  split
  · simp
  · exact Nat.le_refl _
theorem runB_drop {tr : List UInt8 → List UInt8} {l : List (List UInt8)} {k : Nat} {c a : List UInt8} (hc : l[k]? = some c) : runB tr (l.drop k) a = match stepB tr a c with
    | some b => runB tr (l.drop (k + 1)) b
    | none => none := by
  obtain ⟨h1, h2⟩ := List.getElem?_eq_some_iff.1 hc
  rw [List.drop_eq_getElem_cons h1, h2, runB]
  try rfl

theorem clean16 (cwd path : List UInt8) (h1 : cwd.length ≤ 1000) (h2 : path.length ≤ 1000) : FnOk Tryd.prog 16 [T cwd, T path] [] (fun r bs' => fr bs' r = .tup [T (cleanB trimP cwd path).1, iV (cleanB trimP cwd path).2]) := by
  refine FnOk.fast (Q := fun r => r = .tup [T (cleanB trimP cwd path).1, iV (cleanB trimP cwd path).2]) layOk Tryd.func16 rfl ?_
  have hT := P16_good
  have hU := P16_u
  have hpa : P16 34 [T cwd] (bV (pathB cwd)) := .path cwd (by omega)
  refine Ok.seq (go 10 rfl ?_)
  refine Ok.seq ?_
  cases hc : pathB cwd
  · rw [hc] at hpa
    rw [show cleanB trimP cwd path = ([], 10) by simp [cleanB, hc]]
    refine Ok.seq (Ok.regionW (G := fun _ => true) (C := TabP _) mixed layOk hT TabP_calm (.inl rfl) ?_)
    refine wstepN rfl rfl (by dsimp only [putV, List.set]) ?_
    first
      | refine wstepN rfl (hit34 (by first | assumption | omega)) (by dsimp only [putV, List.set]) ?_
      | refine wstepN rfl (T1_hit) (by dsimp only [putV, List.set]) ?_
      | refine wstepN rfl (TabP_use (by assumption) (by assumption)) (by dsimp only [putV, List.set]) ?_
      | refine wstepN rfl (TabP_hit (fun v' h => by cases h; rfl) (by assumption)) (by dsimp only [putV, List.set]) ?_
      | refine wstepN rfl (TabP_hit (fun v' h => by cases h; rfl) (by constructor)) (by dsimp only [putV, List.set]) ?_
      | refine wstepN rfl rfl (by dsimp only [putV, List.set]) ?_
    refine wstepN rfl rfl (by dsimp only [putV, List.set]) ?_
    refine wnil (Ok.cond (b := true) rfl (fun _ => ?_) (fun h => by cases h))
    exact go 10 rfl ⟨fun _ h => (by cases h), _, rfl, rfl⟩
  rw [hc] at hpa
  refine Ok.seq (Ok.regionW (G := fun _ => true) (C := TabP _) mixed layOk hT TabP_calm (.inl rfl) ?_)
  refine wstepN rfl rfl (by dsimp only [putV, List.set]) ?_
  first
    | refine wstepN rfl (hit34 (by first | assumption | omega)) (by dsimp only [putV, List.set]) ?_
    | refine wstepN rfl (T1_hit) (by dsimp only [putV, List.set]) ?_
    | refine wstepN rfl (TabP_use (by assumption) (by assumption)) (by dsimp only [putV, List.set]) ?_
    | refine wstepN rfl (TabP_hit (fun v' h => by cases h; rfl) (by assumption)) (by dsimp only [putV, List.set]) ?_
    | refine wstepN rfl (TabP_hit (fun v' h => by cases h; rfl) (by constructor)) (by dsimp only [putV, List.set]) ?_
    | refine wstepN rfl rfl (by dsimp only [putV, List.set]) ?_
  refine wstepN rfl rfl (by dsimp only [putV, List.set]) ?_
  refine wnil (Ok.cond (b := false) rfl (fun h => by cases h) (fun _ => ?_))
  refine Ok.skip ?_
  cases path with
  | nil =>
    have hq : decide (([] : List UInt8) = []) = true := rfl
    rw [show cleanB trimP cwd [] = ([], 8) by simp [cleanB, hc]]
    refine Ok.seq ?_
    refine Ok.seq (Ok.regionW (G := fun _ => true) (C := TabP _) mixed layOk noT TabP_calm (.inl rfl) ?_)
    refine wstepN rfl rfl (by dsimp only [putV, List.set]) ?_
    first
      | refine wstepN rfl (eqT (by assumption) rfl rfl) (by dsimp only [putV, List.set]) ?_
      | refine wstepN rfl rfl (by dsimp only [putV, List.set]) ?_
    refine wnil (Ok.cond (b := true) rfl (fun _ => ?_) (fun h => by cases h))
    exact go 10 rfl ⟨fun _ h => (by cases h), _, rfl, rfl⟩
  | cons d r =>
    have hq : decide (d :: r = []) = false := by simp
    refine Ok.seq ?_
    refine Ok.seq (Ok.regionW (G := fun _ => true) (C := TabP _) mixed layOk noT TabP_calm (.inl rfl) ?_)
    refine wstepN rfl rfl (by dsimp only [putV, List.set]) ?_
    first
      | refine wstepN rfl (eqT (by assumption) rfl rfl) (by dsimp only [putV, List.set]) ?_
      | refine wstepN rfl rfl (by dsimp only [putV, List.set]) ?_
    refine wnil (Ok.cond (b := false) rfl (fun h => by cases h) (fun _ => ?_))
    refine Ok.skip ?_
    refine Ok.seq (Ok.regionW (G := fun _ => true) (C := TabP _) mixed layOk noT TabP_calm (.inl rfl) ?_)
    refine wstepN rfl rfl (by dsimp only [putV, List.set]) ?_
    refine wstepN rfl rfl (by dsimp only [putV, List.set]) ?_
    refine wnil ?_
    have hd : (d :: r)[0]? = some d := rfl
    obtain ⟨a0, ha0⟩ : ∃ a0, (if (d :: r).head? = some 47 then [47] else cwd) = a0 := ⟨_, rfl⟩
    have hal : a0.length ≤ 1001 := by
      rw [← ha0]
      split
      · simp
      · omega
    have hres : cleanB trimP cwd (d :: r) = match runB trimP (splitB (d :: r)) a0 with
        | none => ([], 10)
        | some a => if a.length ≤ 128 then (a, 0) else ([], 3) := by rw [cleanB, if_pos hc, if_neg (by simp), ha0]; try rfl
    rw [hres]
    refine Ok.seq (Ok.mono (Q := fun e ts bs => e = .normal ∧ bs = [] ∧ ts = ((List.replicate 51 V.gone).set 1 (T (d :: r))).set 6 (T a0)) (Ok.after ?_) ?_)
    · cases h47 : decide (d = 47)
      · have h47' : ¬ d = 47 := of_decide_eq_false h47
        simp [h47'] at ha0
        subst ha0
        refine Ok.seq (Ok.regionW (G := fun _ => true) (C := TabP _) mixed layOk noT TabP_calm (.inl rfl) ?_)
        refine wstepN rfl rfl (by dsimp only [putV, List.set]) ?_
        refine wstepN rfl (idxT (z := 0) rfl rfl rfl hd) (by dsimp only [putV, List.set]) ?_
        first
          | refine wstepN rfl (eqC (by first | rfl | assumption) (by assumption) rfl rfl) (by dsimp only [putV, List.set]) ?_
          | refine wstepN rfl (eqC (d := 47) rfl (by assumption) rfl rfl) (by dsimp only [putV, List.set]) ?_
          | refine wstepN rfl (eqC (d := 0) rfl (by assumption) rfl rfl) (by dsimp only [putV, List.set]) ?_
          | refine wstepN rfl (eqlK (by assumption) rfl rfl) (by dsimp only [putV, List.set]) ?_
          | refine wstepN rfl rfl (by dsimp only [putV, List.set]) ?_
        refine wnil (Ok.cond (b := false) rfl (fun h => by cases h) (fun _ => ?_))
        exact Ok.skip ⟨[], [1, 6], [], by kernel_rfl, by decide, floor_ok rfl, rfl, rfl, rfl⟩
      · have h47' : d = 47 := of_decide_eq_true h47
        simp [h47'] at ha0
        subst ha0
        refine Ok.seq (Ok.regionW (G := fun _ => true) (C := TabP _) mixed layOk noT TabP_calm (.inl rfl) ?_)
        refine wstepN rfl rfl (by dsimp only [putV, List.set]) ?_
        refine wstepN rfl (idxT (z := 0) rfl rfl rfl hd) (by dsimp only [putV, List.set]) ?_
        first
          | refine wstepN rfl (eqC (by first | rfl | assumption) (by assumption) rfl rfl) (by dsimp only [putV, List.set]) ?_
          | refine wstepN rfl (eqC (d := 47) rfl (by assumption) rfl rfl) (by dsimp only [putV, List.set]) ?_
          | refine wstepN rfl (eqC (d := 0) rfl (by assumption) rfl rfl) (by dsimp only [putV, List.set]) ?_
          | refine wstepN rfl (eqlK (by assumption) rfl rfl) (by dsimp only [putV, List.set]) ?_
          | refine wstepN rfl rfl (by dsimp only [putV, List.set]) ?_
        refine wnil (Ok.cond (b := true) rfl (fun _ => ?_) (fun h => by cases h))
        refine Ok.regionW (G := fun _ => true) (C := TabP _) mixed layOk noT TabP_calm (.inl rfl) ?_
        refine wstepN rfl rfl (by dsimp only [putV, List.set]) ?_
        exact wnil ⟨[], [1, 6], [], by kernel_rfl, by decide, floor_ok rfl, rfl, rfl, rfl⟩
    rintro _ _ _ ⟨rfl, rfl, rfl⟩
    simp only [List.replicate, List.set]
    have hsp : P16 35 [T (d :: r), T [47]] (.sl (rowsT (splitB (d :: r)))) := .split _ (by omega)
    have hN0 := splitB_len (d :: r)
    generalize splitB (d :: r) = l at hsp hN0
    obtain ⟨N, hN⟩ : ∃ N, l.length = N := ⟨_, rfl⟩
    have hNs : N ≤ 1001 := by omega
    refine Ok.seq ?_
    refine Ok.seq ?_
    refine Ok.regionW (G := fun _ => true) (C := TabP _) mixed layOk hT TabP_calm (.inl rfl) ?_
    refine wstepN rfl rfl (by dsimp only [putV, List.set]) ?_
    first
      | refine wstepN rfl (hit35 (by first | assumption | omega)) (by dsimp only [putV, List.set]) ?_
      | refine wstepN rfl (T1_hit) (by dsimp only [putV, List.set]) ?_
      | refine wstepN rfl (TabP_use (by assumption) (by assumption)) (by dsimp only [putV, List.set]) ?_
      | refine wstepN rfl (TabP_hit (fun v' h => by cases h; rfl) (by assumption)) (by dsimp only [putV, List.set]) ?_
      | refine wstepN rfl (TabP_hit (fun v' h => by cases h; rfl) (by constructor)) (by dsimp only [putV, List.set]) ?_
      | refine wstepN rfl rfl (by dsimp only [putV, List.set]) ?_
    first
      | refine wstepN rfl (lenR (by assumption) rfl rfl) (by dsimp only [putV, List.set]) ?_
      | refine wstepN rfl rfl (by dsimp only [putV, List.set]) ?_
    refine wstepN rfl rfl (by dsimp only [putV, List.set]) ?_
    refine wnil ?_
    refine Ok.gc (bs2 := []) [] [6, 19, 20, 21] (by kernel_rfl) (by decide) (floor_ok rfl) ?_
    refine Ok.count N (fun k ts bs => ∃ a, k ≤ N ∧ runB trimP l a0 = runB trimP (l.drop k) a ∧ a.length ≤ 1001 + 33 * k ∧ bs = [] ∧ ts = ((((List.replicate 51 V.gone).set 6 (T a)).set 19 (.sl (rowsT l))).set 20 (iV (N : Int))).set 21 (iV (k : Int))) ?_ ?_
    · exact ⟨a0, Nat.zero_le _, rfl, by omega, rfl, rfl⟩
    rintro k _ _ ⟨a, hk, hrun, hlen, rfl, rfl⟩
    simp only [List.replicate, List.set]
    cases hlt : decide (k < N)
    · have hge : ¬ k < N := of_decide_eq_false hlt
      rw [List.drop_of_length_le (by omega), runB] at hrun
      rw [hrun]
      dsimp only
      refine Ok.seq (Ok.regionW (G := fun _ => true) (C := TabP _) mixed layOk noT TabP_calm (.inl rfl) ?_)
      first
        | refine wstepN rfl (ltT hlt rfl rfl) (by dsimp only [putV, List.set]) ?_
        | refine wstepN rfl (ltT (by assumption) rfl rfl) (by dsimp only [putV, List.set]) ?_
        | refine wstepN rfl (lssK (by assumption) rfl rfl) (by dsimp only [putV, List.set]) ?_
        | refine wstepN rfl rfl (by dsimp only [putV, List.set]) ?_
      refine wnil (Ok.seq (Ok.cond (b := false) rfl (fun h => by cases h) (fun _ => ?_)))
      refine Ok.exit ?_
      refine Ok.seq ?_
      cases hbig : decide ((a.length : Int) > 128)
      · have : a.length ≤ 128 := by
          have : ¬ (a.length : Int) > 128 := of_decide_eq_false hbig
          omega
        rw [if_pos this]
        refine Ok.seq (Ok.regionW (G := fun _ => true) (C := TabP _) mixed layOk noT TabP_calm (.inl rfl) ?_)
        refine wstepN rfl rfl (by dsimp only [putV, List.set]) ?_
        first
          | refine wstepN rfl (lenT rfl rfl) (by dsimp only [putV, List.set]) ?_
          | refine wstepN rfl rfl (by dsimp only [putV, List.set]) ?_
        first
          | refine wstepN rfl (gtrK h128 rfl rfl) (by dsimp only [putV, List.set]) ?_
          | refine wstepN rfl (gtrK (by assumption) rfl rfl) (by dsimp only [putV, List.set]) ?_
          | refine wstepN rfl rfl (by dsimp only [putV, List.set]) ?_
        refine wnil (Ok.cond (b := false) rfl (fun h => by cases h) (fun _ => ?_))
        refine Ok.skip ?_
        exact go 10 rfl ⟨fun _ h => (by cases h), _, rfl, rfl⟩
      · have : ¬ a.length ≤ 128 := by
          have : (a.length : Int) > 128 := of_decide_eq_true hbig
          omega
        rw [if_neg this]
        refine Ok.seq (Ok.regionW (G := fun _ => true) (C := TabP _) mixed layOk noT TabP_calm (.inl rfl) ?_)
        refine wstepN rfl rfl (by dsimp only [putV, List.set]) ?_
        first
          | refine wstepN rfl (lenT rfl rfl) (by dsimp only [putV, List.set]) ?_
          | refine wstepN rfl rfl (by dsimp only [putV, List.set]) ?_
        first
          | refine wstepN rfl (gtrK h128 rfl rfl) (by dsimp only [putV, List.set]) ?_
          | refine wstepN rfl (gtrK (by assumption) rfl rfl) (by dsimp only [putV, List.set]) ?_
          | refine wstepN rfl rfl (by dsimp only [putV, List.set]) ?_
        refine wnil (Ok.cond (b := true) rfl (fun _ => ?_) (fun h => by cases h))
        exact go 10 rfl ⟨fun _ h => (by cases h), _, rfl, rfl⟩
    · have hlt' : k < N := of_decide_eq_true hlt
      obtain ⟨c, hc⟩ : ∃ c, l[k]? = some c := ⟨_, List.getElem?_eq_getElem (by omega)⟩
      have hget := rowsT_at hc
      rw [runB_drop hc] at hrun
      refine Ok.seq (Ok.regionW (G := fun _ => true) (C := TabP _) mixed layOk noT TabP_calm (.inl rfl) ?_)
      first
        | refine wstepN rfl (ltT hlt rfl rfl) (by dsimp only [putV, List.set]) ?_
        | refine wstepN rfl (ltT (by assumption) rfl rfl) (by dsimp only [putV, List.set]) ?_
        | refine wstepN rfl (lssK (by assumption) rfl rfl) (by dsimp only [putV, List.set]) ?_
        | refine wstepN rfl rfl (by dsimp only [putV, List.set]) ?_
      refine wnil (Ok.seq (Ok.cond (b := true) rfl (fun _ => ?_) (fun h => by cases h)))
      refine Ok.skip ?_
      refine Ok.after (Ok.seq (Ok.block ?_))
      refine Ok.seq (Ok.regionW (G := fun _ => true) (C := TabP _) mixed layOk noT TabP_calm (.inl rfl) ?_)
      first
        | refine wstepN rfl (ev_ix rfl rfl rfl (by assumption) rfl) (by dsimp only [putV, List.set]) ?_
        | refine wstepN rfl rfl (by dsimp only [putV, List.set]) ?_
      first
        | refine wstepN rfl (ldT rfl rfl) (by dsimp only [putV, List.set]) ?_
        | refine wstepN rfl (ldE rfl rfl) (by dsimp only [putV, List.set]) ?_
        | refine wstepN rfl rfl (by dsimp only [putV, List.set]) ?_
      refine wstepN rfl rfl (by dsimp only [putV, List.set]) ?_
      refine wnil ?_
      refine Ok.block ?_
      by_cases e0 : c = []
      · have hq : decide (c = []) = true := decide_eq_true e0
        rw [stepB, if_pos (.inl e0)] at hrun
        refine Ok.seq (Ok.regionW (G := fun _ => true) (C := TabP _) mixed layOk noT TabP_calm (.inl rfl) ?_)
        refine wstepN rfl rfl (by dsimp only [putV, List.set]) ?_
        first
          | refine wstepN rfl (eqT (by assumption) rfl rfl) (by dsimp only [putV, List.set]) ?_
          | refine wstepN rfl rfl (by dsimp only [putV, List.set]) ?_
        refine wstepN rfl rfl (by dsimp only [putV, List.set]) ?_
        first
          | refine wskipN rfl (by dsimp only [putV, List.set]) ?_
          | refine wstepN rfl rfl (by dsimp only [putV, List.set]) ?_
        first
          | refine wskipN rfl (by dsimp only [putV, List.set]) ?_
          | refine wstepN rfl (eqT (by assumption) rfl rfl) (by dsimp only [putV, List.set]) ?_
          | refine wstepN rfl rfl (by dsimp only [putV, List.set]) ?_
        refine wstepN rfl rfl (by dsimp only [putV, List.set]) ?_
        refine wstepN rfl rfl (by dsimp only [putV, List.set]) ?_
        refine wnil (Ok.cond (b := true) rfl (fun _ => ?_) (fun h => by cases h))
        refine Ok.skip ?_
        refine Ok.regionW (G := fun _ => true) (C := TabP _) mixed layOk noT TabP_calm (.inl rfl) ?_
        first
          | refine wstepN rfl (incT (by omega) rfl rfl) (by dsimp only [putV, List.set]) ?_
          | refine wstepN rfl (addK (by assumption) rfl rfl) (by dsimp only [putV, List.set]) ?_
          | refine wstepN rfl rfl (by dsimp only [putV, List.set]) ?_
        refine wstepN rfl rfl (by dsimp only [putV, List.set]) ?_
        exact wnil ⟨[], [6, 19, 20, 21], [], by kernel_rfl, by decide, floor_ok rfl, hlt', a, hlt', hrun, by omega, rfl, rfl⟩
      by_cases e1 : c = [46]
      · have hq : decide (c = []) = false := decide_eq_false e0
        have hq1 : decide (c = [46]) = true := decide_eq_true e1
        rw [stepB, if_pos (.inr e1)] at hrun
        refine Ok.seq (Ok.regionW (G := fun _ => true) (C := TabP _) mixed layOk noT TabP_calm (.inl rfl) ?_)
        refine wstepN rfl rfl (by dsimp only [putV, List.set]) ?_
        first
          | refine wstepN rfl (eqT (by assumption) rfl rfl) (by dsimp only [putV, List.set]) ?_
          | refine wstepN rfl rfl (by dsimp only [putV, List.set]) ?_
        refine wstepN rfl rfl (by dsimp only [putV, List.set]) ?_
        first
          | refine wskipN rfl (by dsimp only [putV, List.set]) ?_
          | refine wstepN rfl rfl (by dsimp only [putV, List.set]) ?_
        first
          | refine wskipN rfl (by dsimp only [putV, List.set]) ?_
          | refine wstepN rfl (eqT (by assumption) rfl rfl) (by dsimp only [putV, List.set]) ?_
          | refine wstepN rfl rfl (by dsimp only [putV, List.set]) ?_
        refine wstepN rfl rfl (by dsimp only [putV, List.set]) ?_
        refine wstepN rfl rfl (by dsimp only [putV, List.set]) ?_
        refine wnil (Ok.cond (b := true) rfl (fun _ => ?_) (fun h => by cases h))
        refine Ok.skip ?_
        refine Ok.regionW (G := fun _ => true) (C := TabP _) mixed layOk noT TabP_calm (.inl rfl) ?_
        first
          | refine wstepN rfl (incT (by omega) rfl rfl) (by dsimp only [putV, List.set]) ?_
          | refine wstepN rfl (addK (by assumption) rfl rfl) (by dsimp only [putV, List.set]) ?_
          | refine wstepN rfl rfl (by dsimp only [putV, List.set]) ?_
        refine wstepN rfl rfl (by dsimp only [putV, List.set]) ?_
        exact wnil ⟨[], [6, 19, 20, 21], [], by kernel_rfl, by decide, floor_ok rfl, hlt', a, hlt', hrun, by omega, rfl, rfl⟩
      have hq : decide (c = []) = false := decide_eq_false e0
      have hq1 : decide (c = [46]) = false := decide_eq_false e1
      rw [stepB, if_neg (by rintro (h | h); exact e0 h; exact e1 h)] at hrun
      refine Ok.seq (Ok.regionW (G := fun _ => true) (C := TabP _) mixed layOk noT TabP_calm (.inl rfl) ?_)
      refine wstepN rfl rfl (by dsimp only [putV, List.set]) ?_
      first
        | refine wstepN rfl (eqT (by assumption) rfl rfl) (by dsimp only [putV, List.set]) ?_
        | refine wstepN rfl rfl (by dsimp only [putV, List.set]) ?_
      refine wstepN rfl rfl (by dsimp only [putV, List.set]) ?_
      first
        | refine wskipN rfl (by dsimp only [putV, List.set]) ?_
        | refine wstepN rfl rfl (by dsimp only [putV, List.set]) ?_
      first
        | refine wskipN rfl (by dsimp only [putV, List.set]) ?_
        | refine wstepN rfl (eqT (by assumption) rfl rfl) (by dsimp only [putV, List.set]) ?_
        | refine wstepN rfl rfl (by dsimp only [putV, List.set]) ?_
      refine wstepN rfl rfl (by dsimp only [putV, List.set]) ?_
      refine wstepN rfl rfl (by dsimp only [putV, List.set]) ?_
      refine wnil (Ok.cond (b := false) rfl (fun h => by cases h) (fun _ => ?_))
      by_cases e2 : c = [46, 46]
      · have hq2 : decide (c = [46, 46]) = true := decide_eq_true e2
        have hpar : P16 36 [T a] (T (parentB a)) := .parent a (by omega)
        rw [if_pos e2] at hrun
        refine Ok.seq (Ok.regionW (G := fun _ => true) (C := TabP _) mixed layOk noT TabP_calm (.inl rfl) ?_)
        refine wstepN rfl rfl (by dsimp only [putV, List.set]) ?_
        first
          | refine wstepN rfl (eqT (by assumption) rfl rfl) (by dsimp only [putV, List.set]) ?_
          | refine wstepN rfl rfl (by dsimp only [putV, List.set]) ?_
        refine wstepN rfl rfl (by dsimp only [putV, List.set]) ?_
        refine wnil (Ok.cond (b := true) rfl (fun _ => ?_) (fun h => by cases h))
        refine Ok.regionW (G := fun _ => true) (C := TabP _) mixed layOk hT TabP_calm (.inl rfl) ?_
        refine wstepN rfl rfl (by dsimp only [putV, List.set]) ?_
        first
          | refine wstepN rfl (hit36 (by first | assumption | omega)) (by dsimp only [putV, List.set]) ?_
          | refine wstepN rfl (T1_hit) (by dsimp only [putV, List.set]) ?_
          | refine wstepN rfl (TabP_use (by assumption) (by assumption)) (by dsimp only [putV, List.set]) ?_
          | refine wstepN rfl (TabP_hit (fun v' h => by cases h; rfl) (by assumption)) (by dsimp only [putV, List.set]) ?_
          | refine wstepN rfl (TabP_hit (fun v' h => by cases h; rfl) (by constructor)) (by dsimp only [putV, List.set]) ?_
          | refine wstepN rfl rfl (by dsimp only [putV, List.set]) ?_
        refine wstepN rfl rfl (by dsimp only [putV, List.set]) ?_
        refine wnil ?_
        refine Ok.regionW (G := fun _ => true) (C := TabP _) mixed layOk noT TabP_calm (.inl rfl) ?_
        first
          | refine wstepN rfl (incT (by omega) rfl rfl) (by dsimp only [putV, List.set]) ?_
          | refine wstepN rfl (addK (by assumption) rfl rfl) (by dsimp only [putV, List.set]) ?_
          | refine wstepN rfl rfl (by dsimp only [putV, List.set]) ?_
        refine wstepN rfl rfl (by dsimp only [putV, List.set]) ?_
        exact wnil ⟨[], [6, 19, 20, 21], [], by kernel_rfl, by decide, floor_ok rfl, hlt', parentB a, hlt', hrun, by have := parentB_len a; omega, rfl, rfl⟩
      have hq2 : decide (c = [46, 46]) = false := decide_eq_false e2
      rw [if_neg e2] at hrun
      refine Ok.seq (Ok.regionW (G := fun _ => true) (C := TabP _) mixed layOk noT TabP_calm (.inl rfl) ?_)
      refine wstepN rfl rfl (by dsimp only [putV, List.set]) ?_
      first
        | refine wstepN rfl (eqT (by assumption) rfl rfl) (by dsimp only [putV, List.set]) ?_
        | refine wstepN rfl rfl (by dsimp only [putV, List.set]) ?_
      refine wstepN rfl rfl (by dsimp only [putV, List.set]) ?_
      refine wnil (Ok.cond (b := false) rfl (fun h => by cases h) (fun _ => ?_))
      refine Ok.seq (Ok.regionW (G := fun _ => true) (C := TabP _) mixed layOk hT TabP_calm (.inl rfl) ?_)
      refine wstepN rfl rfl (by dsimp only [putV, List.set]) ?_
      first
        | refine wstepN rfl (hit37 (by first | assumption | omega)) (by dsimp only [putV, List.set]) ?_
        | refine wstepN rfl (T1_hit) (by dsimp only [putV, List.set]) ?_
        | refine wstepN rfl (TabP_use (by assumption) (by assumption)) (by dsimp only [putV, List.set]) ?_
        | refine wstepN rfl (TabP_hit (fun v' h => by cases h; rfl) (by assumption)) (by dsimp only [putV, List.set]) ?_
        | refine wstepN rfl (TabP_hit (fun v' h => by cases h; rfl) (by constructor)) (by dsimp only [putV, List.set]) ?_
        | refine wstepN rfl rfl (by dsimp only [putV, List.set]) ?_
      refine wstepN rfl rfl (by dsimp only [putV, List.set]) ?_
      refine wstepN rfl rfl (by dsimp only [putV, List.set]) ?_
      cases hn : nameB c
      · rw [hn] at hrun
        refine wnil (Ok.cond (b := true) rfl (fun _ => ?_) (fun h => by cases h))
        rw [hrun]
        refine Ok.seq (Ok.regionW (G := fun _ => true) (C := TabP _) mixed layOk noT TabP_calm (.inl rfl) ?_)
        refine wstepN rfl rfl (by dsimp only [putV, List.set]) ?_
        refine wstepN rfl rfl (by dsimp only [putV, List.set]) ?_
        refine wnil (Ok.ret ?_)
        exact ⟨[], [4, 5], [], by kernel_rfl, by decide, floor_ok rfl, fun _ h => (by cases h), _, rfl, rfl⟩
      · rw [hn, if_pos rfl] at hrun
        have htr : P16 38 [T a, T [47]] (T (trimP a)) := .trim a (by omega)
        have hcl := (name_is hn).2.1
        have htl := trimP_len a
        refine wnil (Ok.cond (b := false) rfl (fun h => by cases h) (fun _ => ?_))
        refine Ok.regionW (G := fun _ => true) (C := TabP _) mixed layOk hT TabP_calm (.inl rfl) ?_
        refine wstepN rfl rfl (by dsimp only [putV, List.set]) ?_
        first
          | refine wstepN rfl (hit38 (by first | assumption | omega)) (by dsimp only [putV, List.set]) ?_
          | refine wstepN rfl (T1_hit) (by dsimp only [putV, List.set]) ?_
          | refine wstepN rfl (TabP_use (by assumption) (by assumption)) (by dsimp only [putV, List.set]) ?_
          | refine wstepN rfl (TabP_hit (fun v' h => by cases h; rfl) (by assumption)) (by dsimp only [putV, List.set]) ?_
          | refine wstepN rfl (TabP_hit (fun v' h => by cases h; rfl) (by constructor)) (by dsimp only [putV, List.set]) ?_
          | refine wstepN rfl rfl (by dsimp only [putV, List.set]) ?_
        refine wstepN rfl (addT (by simp; omega) rfl rfl) (by dsimp only [putV, List.set]) ?_
        refine wstepN rfl rfl (by dsimp only [putV, List.set]) ?_
        refine wstepN rfl (addT (l := trimP a ++ [47]) (l' := c) (by simp; omega) rfl rfl) (by dsimp only [putV, List.set]) ?_
        refine wstepN rfl rfl (by dsimp only [putV, List.set]) ?_
        refine wnil ?_
        refine Ok.regionW (G := fun _ => true) (C := TabP _) mixed layOk noT TabP_calm (.inl rfl) ?_
        first
          | refine wstepN rfl (incT (by omega) rfl rfl) (by dsimp only [putV, List.set]) ?_
          | refine wstepN rfl (addK (by assumption) rfl rfl) (by dsimp only [putV, List.set]) ?_
          | refine wstepN rfl rfl (by dsimp only [putV, List.set]) ?_
        refine wstepN rfl rfl (by dsimp only [putV, List.set]) ?_
        refine wnil ⟨[], [6, 19, 20, 21], [], by kernel_rfl, by decide, floor_ok rfl, hlt', trimP a ++ [47] ++ c, hlt', by rw [hrun]; simp, ?_, rfl, rfl⟩
        simp
        omega

end Go.Proofs.YtiefcnghjcafbaaDoorV

/- The reference's paths. -/
namespace Go.Proofs.YtiefcnghjcafbaaDoorV
open Go Go.RowKit Go.Proofs.YtiefcnghjcafbaaDoor
set_option maxRecDepth 20000
set_option maxHeartbeats 4000000

section
variable {L : Lay} {C : CallT} {ts : List V} {bs : List Bx} {t t' : TypeId} {x y : Operand} {v : Bool}
theorem neqC {c d : UInt8} {z : Int} (hz : z = d.toNat) (h : decide (c = d) = v) (hx : evO ts x = some (.val (.int .u8 c.toNat))) (hy : evO ts y = some (.val (.int .u8 z))) : evX L C (.binOp .neq t x y t') ts bs = some (bV !v, bs) :=
  neqK (by
    subst hz
    rw [← h]
    by_cases he : c = d
    · simp [he]
    · have : c.toNat ≠ d.toNat := fun e => he (UInt8.toNat_inj.1 e)
      simp [he]
      omega) hx hy
theorem appT {s : Operand} {k k2 : Nat} {done : List (List UInt8)} {p : List UInt8} {e2 : TypeId} (hl : done.length ≤ 1000000) (hs0 : evO ts s = some (.row k)) (hx0 : evO ts x = some (.row k2)) (hs : L.sl t = some (9, 1)) (hb : L.byt 9 = some 16) (h2 : bs[k2]? = some (.row e2 1 [[S.val (.string (B p))]])) (h1 : bs[k]? = some (.row 9 1 (rowsT done))) :
    evX L C (.call { callee := .builtin .append, args := #[s, x], argTypes := #[t, t] }) ts bs = some (.row bs.length, bs.set k .dead ++ [.row 9 1 (rowsT (done ++ [p]))]) := by
  have := ev_app (C := C) hs0 hx0 hs hb h2 rfl h1 (by rw [rowsT_len]; simp; omega) (by rw [rowsT_len]; simp; omega)
  rw [this, rowsT, rowsT, List.map_append]
  rfl
end

theorem rname41 (s : List UInt8) (hs : s.length ≤ 100000) : FnOk Tryd.prog 41 [T s] [] (fun r bs' => fr bs' r = bV (nameB s)) := by
  by_cases e0 : s = []
  · subst e0; exact FnOk.fast (Q := fun r => r = bV (nameB [])) layOk Tryd.func41 rfl (goOut 100 (r := bV false) (by kernel_rfl) rfl)
  by_cases e1 : s = [46]
  · subst e1; exact FnOk.fast (Q := fun r => r = bV (nameB [46])) layOk Tryd.func41 rfl (goOut 100 (r := bV false) (by kernel_rfl) rfl)
  by_cases e2 : s = [46, 46]
  · subst e2; exact FnOk.fast (Q := fun r => r = bV (nameB [46, 46])) layOk Tryd.func41 rfl (goOut 100 (r := bV false) (by kernel_rfl) rfl)
  refine FnOk.fast (Q := fun r => r = bV (nameB s)) layOk Tryd.func41 rfl ?_
  have hq1 : decide (s = [46]) = false := decide_eq_false e1
  have hq2 : decide (s = [46, 46]) = false := decide_eq_false e2
  have hpos : 1 ≤ s.length := by
    cases s with
    | nil => exact absurd rfl e0
    | cons c r => simp
  have hq0 : decide ((s.length : Int) < 1) = false := decide_eq_false (by omega)
  refine Ok.seq (go 10 rfl ?_)
  refine Ok.seq ?_
  cases hl : decide ((s.length : Int) > 32)
  · have hl' : s.length ≤ 32 := by
      have := of_decide_eq_false hl
      omega
    rw [show nameB s = !s.any bad by simp [nameB, hl', hpos, e1, e2]]
    refine Ok.seq (Ok.regionW (G := fun _ => true) (C := TabP _) mixed layOk noT TabP_calm (.inl rfl) ?_)
    refine wstepN rfl rfl (by dsimp only [putV, List.set]) ?_
    first
      | refine wstepN rfl (lenT rfl rfl) (by dsimp only [putV, List.set]) ?_
      | refine wstepN rfl rfl (by dsimp only [putV, List.set]) ?_
    first
      | refine wstepN rfl (ltT (by assumption) rfl rfl) (by dsimp only [putV, List.set]) ?_
      | refine wstepN rfl (lssK (by assumption) rfl rfl) (by dsimp only [putV, List.set]) ?_
      | refine wstepN rfl rfl (by dsimp only [putV, List.set]) ?_
    refine wstepN rfl rfl (by dsimp only [putV, List.set]) ?_
    first
      | refine wskipN rfl (by dsimp only [putV, List.set]) ?_
      | refine wstepN rfl rfl (by dsimp only [putV, List.set]) ?_
    first
      | refine wskipN rfl (by dsimp only [putV, List.set]) ?_
      | refine wstepN rfl (lenT rfl rfl) (by dsimp only [putV, List.set]) ?_
      | refine wstepN rfl rfl (by dsimp only [putV, List.set]) ?_
    first
      | refine wskipN rfl (by dsimp only [putV, List.set]) ?_
      | refine wstepN rfl (gtrK (by assumption) rfl rfl) (by dsimp only [putV, List.set]) ?_
      | refine wstepN rfl rfl (by dsimp only [putV, List.set]) ?_
    refine wstepN rfl rfl (by dsimp only [putV, List.set]) ?_
    refine wstepN rfl rfl (by dsimp only [putV, List.set]) ?_
    first
      | refine wskipN rfl (by dsimp only [putV, List.set]) ?_
      | refine wstepN rfl rfl (by dsimp only [putV, List.set]) ?_
    first
      | refine wskipN rfl (by dsimp only [putV, List.set]) ?_
      | refine wstepN rfl (eqT (by assumption) rfl rfl) (by dsimp only [putV, List.set]) ?_
      | refine wstepN rfl rfl (by dsimp only [putV, List.set]) ?_
    refine wstepN rfl rfl (by dsimp only [putV, List.set]) ?_
    refine wstepN rfl rfl (by dsimp only [putV, List.set]) ?_
    first
      | refine wskipN rfl (by dsimp only [putV, List.set]) ?_
      | refine wstepN rfl rfl (by dsimp only [putV, List.set]) ?_
    first
      | refine wskipN rfl (by dsimp only [putV, List.set]) ?_
      | refine wstepN rfl (eqT (by assumption) rfl rfl) (by dsimp only [putV, List.set]) ?_
      | refine wstepN rfl rfl (by dsimp only [putV, List.set]) ?_
    refine wstepN rfl rfl (by dsimp only [putV, List.set]) ?_
    refine wnil (Ok.cond (b := false) rfl (fun h => by cases h) (fun _ => ?_))
    refine Ok.skip ?_
    refine Ok.seq (Ok.seq (go 10 rfl ?_))
    refine Ok.gc (bs2 := []) [] [0, 3] (by kernel_rfl) (by decide) (floor_ok rfl) ?_
    refine Ok.count s.length (fun k ts bs => (s.take k).any bad = false ∧ k ≤ s.length ∧ bs = [] ∧ ts = ((List.replicate 36 V.gone).set 0 (T s)).set 3 (iV (k : Int))) ?_ ?_
    · exact ⟨rfl, Nat.zero_le _, rfl, rfl⟩
    rintro k _ _ ⟨hno, hk, rfl, rfl⟩
    simp only [List.replicate, List.set]
    refine Ok.seq (Ok.seq ?_)
    cases hlt : decide (k < s.length)
    · refine Ok.regionW (G := fun _ => true) (C := TabP _) mixed layOk noT TabP_calm (.inl rfl) ?_
      refine wstepN rfl rfl (by dsimp only [putV, List.set]) ?_
      refine wstepN rfl rfl (by dsimp only [putV, List.set]) ?_
      first
        | refine wstepN rfl (lenT rfl rfl) (by dsimp only [putV, List.set]) ?_
        | refine wstepN rfl rfl (by dsimp only [putV, List.set]) ?_
      first
        | refine wstepN rfl (ltT (by assumption) rfl rfl) (by dsimp only [putV, List.set]) ?_
        | refine wstepN rfl (lssK (by assumption) rfl rfl) (by dsimp only [putV, List.set]) ?_
        | refine wstepN rfl rfl (by dsimp only [putV, List.set]) ?_
      refine wnil (Ok.cond (b := false) rfl (fun h => by cases h) (fun _ => ?_))
      refine Ok.exit ?_
      have := of_decide_eq_false hlt
      rw [List.take_of_length_le (by omega)] at hno
      rw [hno]
      exact go 10 rfl ⟨fun _ h => (by cases h), _, rfl, rfl⟩
    · have hlt' : k < s.length := of_decide_eq_true hlt
      obtain ⟨c, hc⟩ : ∃ c, s[k]? = some c := ⟨_, List.getElem?_eq_getElem hlt'⟩
      refine Ok.regionW (G := fun _ => true) (C := TabP _) mixed layOk noT TabP_calm (.inl rfl) ?_
      refine wstepN rfl rfl (by dsimp only [putV, List.set]) ?_
      refine wstepN rfl rfl (by dsimp only [putV, List.set]) ?_
      first
        | refine wstepN rfl (lenT rfl rfl) (by dsimp only [putV, List.set]) ?_
        | refine wstepN rfl rfl (by dsimp only [putV, List.set]) ?_
      first
        | refine wstepN rfl (ltT (by assumption) rfl rfl) (by dsimp only [putV, List.set]) ?_
        | refine wstepN rfl (lssK (by assumption) rfl rfl) (by dsimp only [putV, List.set]) ?_
        | refine wstepN rfl rfl (by dsimp only [putV, List.set]) ?_
      refine wnil (Ok.cond (b := true) rfl (fun _ => ?_) (fun h => by cases h))
      refine Ok.skip ?_
      refine Ok.after (Ok.seq (Ok.block (Ok.seq ?_)))
      have hmem := List.mem_of_getElem? hc
      by_cases c47 : c = 47
      · have hq3 : decide (c = 47) = true := decide_eq_true c47
        rw [show s.any bad = true from List.any_eq_true.2 ⟨c, hmem, by simp [bad, c47]⟩]
        refine Ok.regionW (G := fun _ => true) (C := TabP _) mixed layOk noT TabP_calm (.inl rfl) ?_
        refine wstepN rfl rfl (by dsimp only [putV, List.set]) ?_
        refine wstepN rfl rfl (by dsimp only [putV, List.set]) ?_
        first
          | refine wstepN rfl (idxT rfl rfl rfl (by assumption)) (by dsimp only [putV, List.set]) ?_
          | refine wstepN rfl rfl (by dsimp only [putV, List.set]) ?_
        first
          | refine wstepN rfl (eqC (by first | rfl | assumption) (by assumption) rfl rfl) (by dsimp only [putV, List.set]) ?_
          | refine wstepN rfl (eqC (d := 47) rfl (by assumption) rfl rfl) (by dsimp only [putV, List.set]) ?_
          | refine wstepN rfl (eqC (d := 0) rfl (by assumption) rfl rfl) (by dsimp only [putV, List.set]) ?_
          | refine wstepN rfl (eqlK (by assumption) rfl rfl) (by dsimp only [putV, List.set]) ?_
          | refine wstepN rfl rfl (by dsimp only [putV, List.set]) ?_
        refine wstepN rfl rfl (by dsimp only [putV, List.set]) ?_
        first
          | refine wskipN rfl (by dsimp only [putV, List.set]) ?_
          | refine wstepN rfl rfl (by dsimp only [putV, List.set]) ?_
        first
          | refine wskipN rfl (by dsimp only [putV, List.set]) ?_
          | refine wstepN rfl rfl (by dsimp only [putV, List.set]) ?_
        first
          | refine wskipN rfl (by dsimp only [putV, List.set]) ?_
          | refine wstepN rfl (idxT rfl rfl rfl (by assumption)) (by dsimp only [putV, List.set]) ?_
          | refine wstepN rfl rfl (by dsimp only [putV, List.set]) ?_
        first
          | refine wskipN rfl (by dsimp only [putV, List.set]) ?_
          | refine wstepN rfl (eqC (by first | rfl | assumption) (by assumption) rfl rfl) (by dsimp only [putV, List.set]) ?_
          | refine wstepN rfl (eqC (d := 47) rfl (by assumption) rfl rfl) (by dsimp only [putV, List.set]) ?_
          | refine wstepN rfl (eqC (d := 0) rfl (by assumption) rfl rfl) (by dsimp only [putV, List.set]) ?_
          | refine wstepN rfl (eqlK (by assumption) rfl rfl) (by dsimp only [putV, List.set]) ?_
          | refine wstepN rfl rfl (by dsimp only [putV, List.set]) ?_
        refine wstepN rfl rfl (by dsimp only [putV, List.set]) ?_
        refine wnil (Ok.cond (b := true) rfl (fun _ => ?_) (fun h => by cases h))
        refine Ok.seq (Ok.regionW (G := fun _ => true) (C := TabP _) mixed layOk noT TabP_calm (.inl rfl) ?_)
        refine wstepN rfl rfl (by dsimp only [putV, List.set]) ?_
        refine wnil (Ok.ret ?_)
        exact ⟨[], [2], [], by kernel_rfl, by decide, floor_ok rfl, fun _ h => (by cases h), _, rfl, rfl⟩
      have hq3 : decide (c = 47) = false := decide_eq_false c47
      by_cases c0 : c = 0
      · have hq4 : decide (c = 0) = true := decide_eq_true c0
        rw [show s.any bad = true from List.any_eq_true.2 ⟨c, hmem, by simp [bad, c0]⟩]
        refine Ok.regionW (G := fun _ => true) (C := TabP _) mixed layOk noT TabP_calm (.inl rfl) ?_
        refine wstepN rfl rfl (by dsimp only [putV, List.set]) ?_
        refine wstepN rfl rfl (by dsimp only [putV, List.set]) ?_
        first
          | refine wstepN rfl (idxT rfl rfl rfl (by assumption)) (by dsimp only [putV, List.set]) ?_
          | refine wstepN rfl rfl (by dsimp only [putV, List.set]) ?_
        first
          | refine wstepN rfl (eqC (by first | rfl | assumption) (by assumption) rfl rfl) (by dsimp only [putV, List.set]) ?_
          | refine wstepN rfl (eqC (d := 47) rfl (by assumption) rfl rfl) (by dsimp only [putV, List.set]) ?_
          | refine wstepN rfl (eqC (d := 0) rfl (by assumption) rfl rfl) (by dsimp only [putV, List.set]) ?_
          | refine wstepN rfl (eqlK (by assumption) rfl rfl) (by dsimp only [putV, List.set]) ?_
          | refine wstepN rfl rfl (by dsimp only [putV, List.set]) ?_
        refine wstepN rfl rfl (by dsimp only [putV, List.set]) ?_
        first
          | refine wskipN rfl (by dsimp only [putV, List.set]) ?_
          | refine wstepN rfl rfl (by dsimp only [putV, List.set]) ?_
        first
          | refine wskipN rfl (by dsimp only [putV, List.set]) ?_
          | refine wstepN rfl rfl (by dsimp only [putV, List.set]) ?_
        first
          | refine wskipN rfl (by dsimp only [putV, List.set]) ?_
          | refine wstepN rfl (idxT rfl rfl rfl (by assumption)) (by dsimp only [putV, List.set]) ?_
          | refine wstepN rfl rfl (by dsimp only [putV, List.set]) ?_
        first
          | refine wskipN rfl (by dsimp only [putV, List.set]) ?_
          | refine wstepN rfl (eqC (by first | rfl | assumption) (by assumption) rfl rfl) (by dsimp only [putV, List.set]) ?_
          | refine wstepN rfl (eqC (d := 47) rfl (by assumption) rfl rfl) (by dsimp only [putV, List.set]) ?_
          | refine wstepN rfl (eqC (d := 0) rfl (by assumption) rfl rfl) (by dsimp only [putV, List.set]) ?_
          | refine wstepN rfl (eqlK (by assumption) rfl rfl) (by dsimp only [putV, List.set]) ?_
          | refine wstepN rfl rfl (by dsimp only [putV, List.set]) ?_
        refine wstepN rfl rfl (by dsimp only [putV, List.set]) ?_
        refine wnil (Ok.cond (b := true) rfl (fun _ => ?_) (fun h => by cases h))
        refine Ok.seq (Ok.regionW (G := fun _ => true) (C := TabP _) mixed layOk noT TabP_calm (.inl rfl) ?_)
        refine wstepN rfl rfl (by dsimp only [putV, List.set]) ?_
        refine wnil (Ok.ret ?_)
        exact ⟨[], [2], [], by kernel_rfl, by decide, floor_ok rfl, fun _ h => (by cases h), _, rfl, rfl⟩
      · have hq4 : decide (c = 0) = false := decide_eq_false c0
        refine Ok.regionW (G := fun _ => true) (C := TabP _) mixed layOk noT TabP_calm (.inl rfl) ?_
        refine wstepN rfl rfl (by dsimp only [putV, List.set]) ?_
        refine wstepN rfl rfl (by dsimp only [putV, List.set]) ?_
        first
          | refine wstepN rfl (idxT rfl rfl rfl (by assumption)) (by dsimp only [putV, List.set]) ?_
          | refine wstepN rfl rfl (by dsimp only [putV, List.set]) ?_
        first
          | refine wstepN rfl (eqC (by first | rfl | assumption) (by assumption) rfl rfl) (by dsimp only [putV, List.set]) ?_
          | refine wstepN rfl (eqC (d := 47) rfl (by assumption) rfl rfl) (by dsimp only [putV, List.set]) ?_
          | refine wstepN rfl (eqC (d := 0) rfl (by assumption) rfl rfl) (by dsimp only [putV, List.set]) ?_
          | refine wstepN rfl (eqlK (by assumption) rfl rfl) (by dsimp only [putV, List.set]) ?_
          | refine wstepN rfl rfl (by dsimp only [putV, List.set]) ?_
        refine wstepN rfl rfl (by dsimp only [putV, List.set]) ?_
        first
          | refine wskipN rfl (by dsimp only [putV, List.set]) ?_
          | refine wstepN rfl rfl (by dsimp only [putV, List.set]) ?_
        first
          | refine wskipN rfl (by dsimp only [putV, List.set]) ?_
          | refine wstepN rfl rfl (by dsimp only [putV, List.set]) ?_
        first
          | refine wskipN rfl (by dsimp only [putV, List.set]) ?_
          | refine wstepN rfl (idxT rfl rfl rfl (by assumption)) (by dsimp only [putV, List.set]) ?_
          | refine wstepN rfl rfl (by dsimp only [putV, List.set]) ?_
        first
          | refine wskipN rfl (by dsimp only [putV, List.set]) ?_
          | refine wstepN rfl (eqC (by first | rfl | assumption) (by assumption) rfl rfl) (by dsimp only [putV, List.set]) ?_
          | refine wstepN rfl (eqC (d := 47) rfl (by assumption) rfl rfl) (by dsimp only [putV, List.set]) ?_
          | refine wstepN rfl (eqC (d := 0) rfl (by assumption) rfl rfl) (by dsimp only [putV, List.set]) ?_
          | refine wstepN rfl (eqlK (by assumption) rfl rfl) (by dsimp only [putV, List.set]) ?_
          | refine wstepN rfl rfl (by dsimp only [putV, List.set]) ?_
        refine wstepN rfl rfl (by dsimp only [putV, List.set]) ?_
        refine wnil (Ok.cond (b := false) rfl (fun h => by cases h) (fun _ => ?_))
        refine Ok.skip ?_
        refine Ok.regionW (G := fun _ => true) (C := TabP _) mixed layOk noT TabP_calm (.inl rfl) ?_
        refine wstepN rfl rfl (by dsimp only [putV, List.set]) ?_
        first
          | refine wstepN rfl (incT (by omega) rfl rfl) (by dsimp only [putV, List.set]) ?_
          | refine wstepN rfl (addK (by assumption) rfl rfl) (by dsimp only [putV, List.set]) ?_
          | refine wstepN rfl rfl (by dsimp only [putV, List.set]) ?_
        refine wstepN rfl rfl (by dsimp only [putV, List.set]) ?_
        refine wnil ⟨[], [0, 3], [], by kernel_rfl, by decide, floor_ok rfl, hlt', take_any hno hc (by simp [bad, c47, c0]), hlt', rfl, rfl⟩
  · have hl' : ¬ s.length ≤ 32 := by
      have := of_decide_eq_true hl
      omega
    rw [show nameB s = false by simp [nameB, hl']]
    refine Ok.seq (Ok.regionW (G := fun _ => true) (C := TabP _) mixed layOk noT TabP_calm (.inl rfl) ?_)
    refine wstepN rfl rfl (by dsimp only [putV, List.set]) ?_
    first
      | refine wstepN rfl (lenT rfl rfl) (by dsimp only [putV, List.set]) ?_
      | refine wstepN rfl rfl (by dsimp only [putV, List.set]) ?_
    first
      | refine wstepN rfl (ltT (by assumption) rfl rfl) (by dsimp only [putV, List.set]) ?_
      | refine wstepN rfl (lssK (by assumption) rfl rfl) (by dsimp only [putV, List.set]) ?_
      | refine wstepN rfl rfl (by dsimp only [putV, List.set]) ?_
    refine wstepN rfl rfl (by dsimp only [putV, List.set]) ?_
    first
      | refine wskipN rfl (by dsimp only [putV, List.set]) ?_
      | refine wstepN rfl rfl (by dsimp only [putV, List.set]) ?_
    first
      | refine wskipN rfl (by dsimp only [putV, List.set]) ?_
      | refine wstepN rfl (lenT rfl rfl) (by dsimp only [putV, List.set]) ?_
      | refine wstepN rfl rfl (by dsimp only [putV, List.set]) ?_
    first
      | refine wskipN rfl (by dsimp only [putV, List.set]) ?_
      | refine wstepN rfl (gtrK (by assumption) rfl rfl) (by dsimp only [putV, List.set]) ?_
      | refine wstepN rfl rfl (by dsimp only [putV, List.set]) ?_
    refine wstepN rfl rfl (by dsimp only [putV, List.set]) ?_
    refine wstepN rfl rfl (by dsimp only [putV, List.set]) ?_
    first
      | refine wskipN rfl (by dsimp only [putV, List.set]) ?_
      | refine wstepN rfl rfl (by dsimp only [putV, List.set]) ?_
    first
      | refine wskipN rfl (by dsimp only [putV, List.set]) ?_
      | refine wstepN rfl (eqT (by assumption) rfl rfl) (by dsimp only [putV, List.set]) ?_
      | refine wstepN rfl rfl (by dsimp only [putV, List.set]) ?_
    refine wstepN rfl rfl (by dsimp only [putV, List.set]) ?_
    refine wstepN rfl rfl (by dsimp only [putV, List.set]) ?_
    first
      | refine wskipN rfl (by dsimp only [putV, List.set]) ?_
      | refine wstepN rfl rfl (by dsimp only [putV, List.set]) ?_
    first
      | refine wskipN rfl (by dsimp only [putV, List.set]) ?_
      | refine wstepN rfl (eqT (by assumption) rfl rfl) (by dsimp only [putV, List.set]) ?_
      | refine wstepN rfl rfl (by dsimp only [putV, List.set]) ?_
    refine wstepN rfl rfl (by dsimp only [putV, List.set]) ?_
    refine wnil (Ok.cond (b := true) rfl (fun _ => ?_) (fun h => by cases h))
    exact go 10 rfl ⟨fun _ h => (by cases h), _, rfl, rfl⟩

def cutI (s : List UInt8) : Nat := (lastSlash s).getD 0
theorem cut_take {s : List UInt8} {k : Nat} {c : UInt8} (h : s[k]? = some c) : cutI (s.take (k + 1)) = if c = 47 then k else cutI (s.take k) := by
  unfold cutI
  rw [last_take h]
  split <;> rfl
theorem rcut63 (s : List UInt8) (hs : s.length ≤ 100000) : FnOk Tryd.prog 63 [T s] [] (fun r bs' => fr bs' r = iV (cutI s : Int)) := by
  refine FnOk.fast (Q := fun r => r = iV (cutI s : Int)) layOk Tryd.func63 rfl ?_
  refine Ok.seq (go 10 rfl ?_)
  refine Ok.seq (go 10 rfl ?_)
  refine Ok.seq (Ok.seq (go 10 rfl ?_))
  refine Ok.gc (bs2 := []) [] [0, 3, 4] (by kernel_rfl) (by decide) (floor_ok rfl) ?_
  refine Ok.count s.length (fun k ts bs => k ≤ s.length ∧ bs = [] ∧ ts = (((List.replicate 17 V.gone).set 0 (T s)).set 3 (iV (cutI (s.take k) : Int))).set 4 (iV (k : Int))) ?_ ?_
  · exact ⟨Nat.zero_le _, rfl, rfl⟩
  rintro k _ _ ⟨hk, rfl, rfl⟩
  simp only [List.replicate, List.set]
  refine Ok.seq (Ok.seq ?_)
  cases hlt : decide (k < s.length)
  · refine Ok.regionW (G := fun _ => true) (C := TabP _) mixed layOk noT TabP_calm (.inl rfl) ?_
    refine wstepN rfl rfl (by dsimp only [putV, List.set]) ?_
    refine wstepN rfl rfl (by dsimp only [putV, List.set]) ?_
    first
      | refine wstepN rfl (lenT rfl rfl) (by dsimp only [putV, List.set]) ?_
      | refine wstepN rfl rfl (by dsimp only [putV, List.set]) ?_
    first
      | refine wstepN rfl (ltT (by assumption) rfl rfl) (by dsimp only [putV, List.set]) ?_
      | refine wstepN rfl (lssK (by assumption) rfl rfl) (by dsimp only [putV, List.set]) ?_
      | refine wstepN rfl rfl (by dsimp only [putV, List.set]) ?_
    refine wnil (Ok.cond (b := false) rfl (fun h => by cases h) (fun _ => ?_))
    refine Ok.exit ?_
    have := of_decide_eq_false hlt
    rw [List.take_of_length_le (by omega)]
    exact go 10 rfl ⟨fun _ h => (by cases h), _, rfl, rfl⟩
  · have hlt' : k < s.length := of_decide_eq_true hlt
    obtain ⟨c, hc⟩ : ∃ c, s[k]? = some c := ⟨_, List.getElem?_eq_getElem hlt'⟩
    have hcut := cut_take hc
    refine Ok.regionW (G := fun _ => true) (C := TabP _) mixed layOk noT TabP_calm (.inl rfl) ?_
    refine wstepN rfl rfl (by dsimp only [putV, List.set]) ?_
    refine wstepN rfl rfl (by dsimp only [putV, List.set]) ?_
    first
      | refine wstepN rfl (lenT rfl rfl) (by dsimp only [putV, List.set]) ?_
      | refine wstepN rfl rfl (by dsimp only [putV, List.set]) ?_
    first
      | refine wstepN rfl (ltT (by assumption) rfl rfl) (by dsimp only [putV, List.set]) ?_
      | refine wstepN rfl (lssK (by assumption) rfl rfl) (by dsimp only [putV, List.set]) ?_
      | refine wstepN rfl rfl (by dsimp only [putV, List.set]) ?_
    refine wnil (Ok.cond (b := true) rfl (fun _ => ?_) (fun h => by cases h))
    refine Ok.skip ?_
    refine Ok.after (Ok.seq (Ok.block (Ok.seq ?_)))
    by_cases c47 : c = 47
    · have hq3 : decide (c = 47) = true := decide_eq_true c47
      rw [if_pos c47] at hcut
      refine Ok.regionW (G := fun _ => true) (C := TabP _) mixed layOk noT TabP_calm (.inl rfl) ?_
      refine wstepN rfl rfl (by dsimp only [putV, List.set]) ?_
      refine wstepN rfl rfl (by dsimp only [putV, List.set]) ?_
      first
        | refine wstepN rfl (idxT rfl rfl rfl (by assumption)) (by dsimp only [putV, List.set]) ?_
        | refine wstepN rfl rfl (by dsimp only [putV, List.set]) ?_
      first
        | refine wstepN rfl (eqC (by first | rfl | assumption) (by assumption) rfl rfl) (by dsimp only [putV, List.set]) ?_
        | refine wstepN rfl (eqC (d := 47) rfl (by assumption) rfl rfl) (by dsimp only [putV, List.set]) ?_
        | refine wstepN rfl (eqC (d := 0) rfl (by assumption) rfl rfl) (by dsimp only [putV, List.set]) ?_
        | refine wstepN rfl (eqlK (by assumption) rfl rfl) (by dsimp only [putV, List.set]) ?_
        | refine wstepN rfl rfl (by dsimp only [putV, List.set]) ?_
      refine wnil (Ok.cond (b := true) rfl (fun _ => ?_) (fun h => by cases h))
      refine Ok.regionW (G := fun _ => true) (C := TabP _) mixed layOk noT TabP_calm (.inl rfl) ?_
      refine wstepN rfl rfl (by dsimp only [putV, List.set]) ?_
      refine wstepN rfl rfl (by dsimp only [putV, List.set]) ?_
      refine wnil ?_
      refine Ok.regionW (G := fun _ => true) (C := TabP _) mixed layOk noT TabP_calm (.inl rfl) ?_
      refine wstepN rfl rfl (by dsimp only [putV, List.set]) ?_
      first
        | refine wstepN rfl (incT (by omega) rfl rfl) (by dsimp only [putV, List.set]) ?_
        | refine wstepN rfl (addK (by assumption) rfl rfl) (by dsimp only [putV, List.set]) ?_
        | refine wstepN rfl rfl (by dsimp only [putV, List.set]) ?_
      refine wstepN rfl rfl (by dsimp only [putV, List.set]) ?_
      refine wnil ⟨[], [0, 3, 4], [], by kernel_rfl, by decide, floor_ok rfl, hlt', hlt', rfl, by rw [hcut]; rfl⟩
    · have hq3 : decide (c = 47) = false := decide_eq_false c47
      rw [if_neg c47] at hcut
      refine Ok.regionW (G := fun _ => true) (C := TabP _) mixed layOk noT TabP_calm (.inl rfl) ?_
      refine wstepN rfl rfl (by dsimp only [putV, List.set]) ?_
      refine wstepN rfl rfl (by dsimp only [putV, List.set]) ?_
      first
        | refine wstepN rfl (idxT rfl rfl rfl (by assumption)) (by dsimp only [putV, List.set]) ?_
        | refine wstepN rfl rfl (by dsimp only [putV, List.set]) ?_
      first
        | refine wstepN rfl (eqC (by first | rfl | assumption) (by assumption) rfl rfl) (by dsimp only [putV, List.set]) ?_
        | refine wstepN rfl (eqC (d := 47) rfl (by assumption) rfl rfl) (by dsimp only [putV, List.set]) ?_
        | refine wstepN rfl (eqC (d := 0) rfl (by assumption) rfl rfl) (by dsimp only [putV, List.set]) ?_
        | refine wstepN rfl (eqlK (by assumption) rfl rfl) (by dsimp only [putV, List.set]) ?_
        | refine wstepN rfl rfl (by dsimp only [putV, List.set]) ?_
      refine wnil (Ok.cond (b := false) rfl (fun h => by cases h) (fun _ => ?_))
      refine Ok.skip ?_
      refine Ok.regionW (G := fun _ => true) (C := TabP _) mixed layOk noT TabP_calm (.inl rfl) ?_
      refine wstepN rfl rfl (by dsimp only [putV, List.set]) ?_
      first
        | refine wstepN rfl (incT (by omega) rfl rfl) (by dsimp only [putV, List.set]) ?_
        | refine wstepN rfl (addK (by assumption) rfl rfl) (by dsimp only [putV, List.set]) ?_
        | refine wstepN rfl rfl (by dsimp only [putV, List.set]) ?_
      refine wstepN rfl rfl (by dsimp only [putV, List.set]) ?_
      refine wnil ⟨[], [0, 3, 4], [], by kernel_rfl, by decide, floor_ok rfl, hlt', hlt', rfl, by rw [hcut]; rfl⟩

theorem rparent40 (s : List UInt8) (hs : s.length ≤ 100000) : FnOk Tryd.prog 40 [T s] [] (fun r bs' => fr bs' r = T (parentB s)) := by
  refine FnOk.fast (Q := fun r => r = T (parentB s)) layOk Tryd.func40 rfl ?_
  have hT := T1_good (rcut63 s hs) rfl rfl Tryd.call63
  refine Ok.seq (go 10 rfl ?_)
  refine Ok.seq (Ok.regionW (G := fun _ => true) (C := TabP _) mixed layOk hT TabP_calm (.inl rfl) ?_)
  refine wstepN rfl rfl (by dsimp only [putV, List.set]) ?_
  first
    | refine wstepN rfl (hit63 (by first | assumption | omega)) (by dsimp only [putV, List.set]) ?_
    | refine wstepN rfl (T1_hit) (by dsimp only [putV, List.set]) ?_
    | refine wstepN rfl (TabP_use (by assumption) (by assumption)) (by dsimp only [putV, List.set]) ?_
    | refine wstepN rfl (TabP_hit (fun v' h => by cases h; rfl) (by assumption)) (by dsimp only [putV, List.set]) ?_
    | refine wstepN rfl (TabP_hit (fun v' h => by cases h; rfl) (by constructor)) (by dsimp only [putV, List.set]) ?_
    | refine wstepN rfl rfl (by dsimp only [putV, List.set]) ?_
  refine wstepN rfl rfl (by dsimp only [putV, List.set]) ?_
  refine wnil ?_
  refine Ok.seq ?_
  cases hl : lastSlash s with
  | none =>
    have hz : cutI s = 0 := by simp [cutI, hl]
    have hq : (((0 : Nat) : Int) == 0) = true := rfl
    rw [show parentB s = [47] by simp [parentB, hl], hz]
    refine Ok.seq (Ok.regionW (G := fun _ => true) (C := TabP _) mixed layOk noT TabP_calm (.inl rfl) ?_)
    refine wstepN rfl rfl (by dsimp only [putV, List.set]) ?_
    first
      | refine wstepN rfl (eqlK (by assumption) rfl rfl) (by dsimp only [putV, List.set]) ?_
      | refine wstepN rfl rfl (by dsimp only [putV, List.set]) ?_
    refine wnil (Ok.cond (b := true) rfl (fun _ => ?_) (fun h => by cases h))
    exact go 10 rfl ⟨fun _ h => (by cases h), _, rfl, rfl⟩
  | some i =>
    cases i with
    | zero =>
      have hz : cutI s = 0 := by simp [cutI, hl]
      have hq : (((0 : Nat) : Int) == 0) = true := rfl
      rw [show parentB s = [47] by simp [parentB, hl], hz]
      refine Ok.seq (Ok.regionW (G := fun _ => true) (C := TabP _) mixed layOk noT TabP_calm (.inl rfl) ?_)
      refine wstepN rfl rfl (by dsimp only [putV, List.set]) ?_
      first
        | refine wstepN rfl (eqlK (by assumption) rfl rfl) (by dsimp only [putV, List.set]) ?_
        | refine wstepN rfl rfl (by dsimp only [putV, List.set]) ?_
      refine wnil (Ok.cond (b := true) rfl (fun _ => ?_) (fun h => by cases h))
      exact go 10 rfl ⟨fun _ h => (by cases h), _, rfl, rfl⟩
    | succ j =>
      have hj : j + 1 < s.length := (List.getElem?_eq_some_iff.1 (last_lt hl)).1
      have hz : cutI s = j + 1 := by simp [cutI, hl]
      have hq : (((j + 1 : Nat) : Int) == 0) = false := by simp; omega
      rw [show parentB s = s.take (j + 1) by simp [parentB, hl], hz]
      refine Ok.seq (Ok.regionW (G := fun _ => true) (C := TabP _) mixed layOk noT TabP_calm (.inl rfl) ?_)
      refine wstepN rfl rfl (by dsimp only [putV, List.set]) ?_
      first
        | refine wstepN rfl (eqlK (by assumption) rfl rfl) (by dsimp only [putV, List.set]) ?_
        | refine wstepN rfl rfl (by dsimp only [putV, List.set]) ?_
      refine wnil (Ok.cond (b := false) rfl (fun h => by cases h) (fun _ => ?_))
      refine Ok.skip ?_
      refine Ok.seq (Ok.regionW (G := fun _ => true) (C := TabP _) mixed layOk noT TabP_calm (.inl rfl) ?_)
      refine wstepN rfl rfl (by dsimp only [putV, List.set]) ?_
      refine wstepN rfl rfl (by dsimp only [putV, List.set]) ?_
      first
        | refine wstepN rfl (cutToT rfl rfl rfl (by omega)) (by dsimp only [putV, List.set]) ?_
        | refine wstepN rfl (cutToT rfl rfl rfl (by assumption)) (by dsimp only [putV, List.set]) ?_
        | refine wstepN rfl rfl (by dsimp only [putV, List.set]) ?_
      refine wstepN rfl rfl (by dsimp only [putV, List.set]) ?_
      refine wnil (Ok.ret ⟨fun _ h => (by cases h), _, rfl, rfl⟩)

theorem rparts39 (s : List UInt8) (hs : s.length ≤ 100000) : FnOk Tryd.prog 39 [T s] [] (fun r bs' => fr bs' r = .sl (rowsT (splitB s))) := by
  refine FnOk.fast (Q := fun r => r = .sl (rowsT (splitB s))) layOk Tryd.func39 rfl ?_
  refine Ok.seq (go 10 rfl ?_)
  refine Ok.seq (go 10 rfl ?_)
  refine Ok.nilT 3 9 1 rfl ?_
  refine Ok.seq (go 10 rfl ?_)
  refine Ok.seq (Ok.seq (go 10 rfl ?_))
  refine Ok.gc (bs2 := [.row 9 1 []]) [0] [0, 3, 4, 5] (by kernel_rfl) (by decide) (floor_ok rfl) ?_
  refine Ok.count s.length (fun k ts bs => ∃ done from', k ≤ s.length ∧ from' ≤ k ∧ done.length ≤ k ∧ splitB s = done ++ splitB (s.drop from') ∧ 47 ∉ (s.take k).drop from' ∧ bs = [.row 9 1 (rowsT done)] ∧ ts = ((((List.replicate 31 V.gone).set 0 (T s)).set 3 (.row 0)).set 4 (iV (from' : Int))).set 5 (iV (k : Int))) ?_ ?_
  · exact ⟨[], 0, Nat.zero_le _, Nat.le_refl _, Nat.le_refl _, rfl, by simp, rfl, rfl⟩
  rintro k _ _ ⟨done, from', hk, hfk, hdk, hsp, hno, rfl, rfl⟩
  simp only [List.replicate, List.set]
  refine Ok.seq (Ok.seq ?_)
  cases hlt : decide (k < s.length)
  · refine Ok.regionW (G := fun _ => true) (C := TabP _) mixed layOk noT TabP_calm (.inl rfl) ?_
    refine wstepN rfl rfl (by dsimp only [putV, List.set]) ?_
    refine wstepN rfl rfl (by dsimp only [putV, List.set]) ?_
    first
      | refine wstepN rfl (lenT rfl rfl) (by dsimp only [putV, List.set]) ?_
      | refine wstepN rfl rfl (by dsimp only [putV, List.set]) ?_
    first
      | refine wstepN rfl (ltT (by assumption) rfl rfl) (by dsimp only [putV, List.set]) ?_
      | refine wstepN rfl (lssK (by assumption) rfl rfl) (by dsimp only [putV, List.set]) ?_
      | refine wstepN rfl rfl (by dsimp only [putV, List.set]) ?_
    refine wnil (Ok.cond (b := false) rfl (fun h => by cases h) (fun _ => ?_))
    refine Ok.exit ?_
    have hge := of_decide_eq_false hlt
    rw [List.take_of_length_le (by omega)] at hno
    rw [splitB_one hno] at hsp
    refine Ok.seq (Ok.regionW (G := fun _ => true) (C := TabP _) mixed layOk noT TabP_calm (.inl rfl) ?_)
    refine wstepN rfl rfl (by dsimp only [putV, List.set]) ?_
    refine wstepN rfl rfl (by dsimp only [putV, List.set]) ?_
    refine wstepN rfl rfl (by dsimp only [putV, List.set]) ?_
    first
      | refine wstepN rfl (cutFromT rfl rfl rfl (by omega)) (by dsimp only [putV, List.set]) ?_
      | refine wstepN rfl (cutFromT rfl rfl rfl (by assumption)) (by dsimp only [putV, List.set]) ?_
      | refine wstepN rfl rfl (by dsimp only [putV, List.set]) ?_
    refine wstepN rfl rfl (by dsimp only [putV, List.set]) ?_
    refine wstepN rfl (appT (p := s.drop from') (by omega) rfl rfl rfl rfl rfl rfl) (by dsimp only [putV, List.set]) ?_
    refine wstepN rfl rfl (by dsimp only [putV, List.set]) ?_
    refine wnil (Ok.ret ⟨fun _ h => (by cases h), _, rfl, ?_⟩)
    rw [hsp]
    rfl
  · have hlt' : k < s.length := of_decide_eq_true hlt
    obtain ⟨c, hc⟩ : ∃ c, s[k]? = some c := ⟨_, List.getElem?_eq_getElem hlt'⟩
    have htk : (s.take (k + 1)).drop from' = (s.take k).drop from' ++ [c] := by
      rw [List.take_add_one, hc, List.drop_append_of_le_length (by simp; omega)]
      rfl
    have hdr : s.drop from' = (s.take k).drop from' ++ c :: s.drop (k + 1) := by
      conv => lhs; rw [← List.take_append_drop k s]
      rw [List.drop_append_of_le_length (by simp; omega), ← List.getElem_cons_drop (h := hlt')]
      rw [show s[k] = c by rw [List.getElem?_eq_getElem hlt'] at hc; exact Option.some.inj hc]
    refine Ok.regionW (G := fun _ => true) (C := TabP _) mixed layOk noT TabP_calm (.inl rfl) ?_
    refine wstepN rfl rfl (by dsimp only [putV, List.set]) ?_
    refine wstepN rfl rfl (by dsimp only [putV, List.set]) ?_
    first
      | refine wstepN rfl (lenT rfl rfl) (by dsimp only [putV, List.set]) ?_
      | refine wstepN rfl rfl (by dsimp only [putV, List.set]) ?_
    first
      | refine wstepN rfl (ltT (by assumption) rfl rfl) (by dsimp only [putV, List.set]) ?_
      | refine wstepN rfl (lssK (by assumption) rfl rfl) (by dsimp only [putV, List.set]) ?_
      | refine wstepN rfl rfl (by dsimp only [putV, List.set]) ?_
    refine wnil (Ok.cond (b := true) rfl (fun _ => ?_) (fun h => by cases h))
    refine Ok.skip ?_
    refine Ok.after (Ok.seq (Ok.block (Ok.seq ?_)))
    by_cases c47 : c = 47
    · have hq3 : decide (c = 47) = true := decide_eq_true c47
      rw [hdr, c47, splitB_app hno] at hsp
      refine Ok.regionW (G := fun _ => true) (C := TabP _) mixed layOk noT TabP_calm (.inl rfl) ?_
      refine wstepN rfl rfl (by dsimp only [putV, List.set]) ?_
      refine wstepN rfl rfl (by dsimp only [putV, List.set]) ?_
      first
        | refine wstepN rfl (idxT rfl rfl rfl (by assumption)) (by dsimp only [putV, List.set]) ?_
        | refine wstepN rfl rfl (by dsimp only [putV, List.set]) ?_
      first
        | refine wstepN rfl (eqC (by first | rfl | assumption) (by assumption) rfl rfl) (by dsimp only [putV, List.set]) ?_
        | refine wstepN rfl (eqC (d := 47) rfl (by assumption) rfl rfl) (by dsimp only [putV, List.set]) ?_
        | refine wstepN rfl (eqC (d := 0) rfl (by assumption) rfl rfl) (by dsimp only [putV, List.set]) ?_
        | refine wstepN rfl (eqlK (by assumption) rfl rfl) (by dsimp only [putV, List.set]) ?_
        | refine wstepN rfl rfl (by dsimp only [putV, List.set]) ?_
      refine wnil (Ok.cond (b := true) rfl (fun _ => ?_) (fun h => by cases h))
      refine Ok.seq (Ok.regionW (G := fun _ => true) (C := TabP _) mixed layOk noT TabP_calm (.inl rfl) ?_)
      refine wstepN rfl rfl (by dsimp only [putV, List.set]) ?_
      refine wstepN rfl rfl (by dsimp only [putV, List.set]) ?_
      refine wstepN rfl rfl (by dsimp only [putV, List.set]) ?_
      refine wstepN rfl rfl (by dsimp only [putV, List.set]) ?_
      first
        | refine wstepN rfl (cutT rfl rfl rfl rfl (by omega)) (by dsimp only [putV, List.set]) ?_
        | refine wstepN rfl (cutT rfl rfl rfl rfl (by assumption)) (by dsimp only [putV, List.set]) ?_
        | refine wstepN rfl rfl (by dsimp only [putV, List.set]) ?_
      refine wstepN rfl rfl (by dsimp only [putV, List.set]) ?_
      refine wstepN rfl (appT (p := (s.take k).drop from') (by omega) rfl rfl rfl rfl rfl rfl) (by dsimp only [putV, List.set]) ?_
      refine wstepN rfl rfl (by dsimp only [putV, List.set]) ?_
      refine wnil ?_
      refine Ok.regionW (G := fun _ => true) (C := TabP _) mixed layOk noT TabP_calm (.inl rfl) ?_
      refine wstepN rfl rfl (by dsimp only [putV, List.set]) ?_
      first
        | refine wstepN rfl (incT (by omega) rfl rfl) (by dsimp only [putV, List.set]) ?_
        | refine wstepN rfl (addK (by assumption) rfl rfl) (by dsimp only [putV, List.set]) ?_
        | refine wstepN rfl rfl (by dsimp only [putV, List.set]) ?_
      refine wstepN rfl rfl (by dsimp only [putV, List.set]) ?_
      refine wnil ?_
      refine Ok.regionW (G := fun _ => true) (C := TabP _) mixed layOk noT TabP_calm (.inl rfl) ?_
      refine wstepN rfl rfl (by dsimp only [putV, List.set]) ?_
      first
        | refine wstepN rfl (incT (by omega) rfl rfl) (by dsimp only [putV, List.set]) ?_
        | refine wstepN rfl (addK (by assumption) rfl rfl) (by dsimp only [putV, List.set]) ?_
        | refine wstepN rfl rfl (by dsimp only [putV, List.set]) ?_
      refine wstepN rfl rfl (by dsimp only [putV, List.set]) ?_
      refine wnil ⟨[2], [0, 3, 4, 5], [.row 9 1 (rowsT (done ++ [(s.take k).drop from']))], by kernel_rfl, by decide, floor_ok rfl, hlt', done ++ [(s.take k).drop from'], k + 1, hlt', Nat.le_refl _, by simp; omega, by rw [hsp]; simp, ?_, rfl, rfl⟩
      rw [List.drop_of_length_le (by simp; omega)]
      simp
    · have hq3 : decide (c = 47) = false := decide_eq_false c47
      refine Ok.regionW (G := fun _ => true) (C := TabP _) mixed layOk noT TabP_calm (.inl rfl) ?_
      refine wstepN rfl rfl (by dsimp only [putV, List.set]) ?_
      refine wstepN rfl rfl (by dsimp only [putV, List.set]) ?_
      first
        | refine wstepN rfl (idxT rfl rfl rfl (by assumption)) (by dsimp only [putV, List.set]) ?_
        | refine wstepN rfl rfl (by dsimp only [putV, List.set]) ?_
      first
        | refine wstepN rfl (eqC (by first | rfl | assumption) (by assumption) rfl rfl) (by dsimp only [putV, List.set]) ?_
        | refine wstepN rfl (eqC (d := 47) rfl (by assumption) rfl rfl) (by dsimp only [putV, List.set]) ?_
        | refine wstepN rfl (eqC (d := 0) rfl (by assumption) rfl rfl) (by dsimp only [putV, List.set]) ?_
        | refine wstepN rfl (eqlK (by assumption) rfl rfl) (by dsimp only [putV, List.set]) ?_
        | refine wstepN rfl rfl (by dsimp only [putV, List.set]) ?_
      refine wnil (Ok.cond (b := false) rfl (fun h => by cases h) (fun _ => ?_))
      refine Ok.skip ?_
      refine Ok.regionW (G := fun _ => true) (C := TabP _) mixed layOk noT TabP_calm (.inl rfl) ?_
      refine wstepN rfl rfl (by dsimp only [putV, List.set]) ?_
      first
        | refine wstepN rfl (incT (by omega) rfl rfl) (by dsimp only [putV, List.set]) ?_
        | refine wstepN rfl (addK (by assumption) rfl rfl) (by dsimp only [putV, List.set]) ?_
        | refine wstepN rfl rfl (by dsimp only [putV, List.set]) ?_
      refine wstepN rfl rfl (by dsimp only [putV, List.set]) ?_
      refine wnil ⟨[0], [0, 3, 4, 5], [.row 9 1 (rowsT done)], by kernel_rfl, by decide, floor_ok rfl, hlt', done, from', hlt', by omega, by omega, hsp, ?_, rfl, rfl⟩
      rw [htk]
      simp only [List.mem_append, List.mem_singleton, not_or]
      exact ⟨hno, fun e => c47 e.symm⟩

end Go.Proofs.YtiefcnghjcafbaaDoorV

/- The examples of the chapter on files. -/
namespace Go.Proofs.YtiefcnghjcafbaaDoorV
open Go Go.RowKit Go.Proofs.YtiefcnghjcafbaaDoor
set_option maxRecDepth 20000
set_option maxHeartbeats 4000000

/-- The examples of the chapter on files. -/
theorem awake9 : FnOk Tryd.prog 9 [] [] (fun r bs' => fr bs' r = .val (.bool true)) :=
  FnOk.fast (Q := fun r => r = .val (.bool true)) layOk Tryd.func9 rfl (goOut 1000 (r := .val (.bool true)) (by kernel_rfl) rfl)


end Go.Proofs.YtiefcnghjcafbaaDoorV
