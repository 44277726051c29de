/- The calculus of values, seventh text: addresses, slices that are read, strings, structs built. -/
import Derived.Test.YtiefcnghjcafbaaDoorV6
namespace Go.Proofs.YtiefcnghjcafbaaDoorV
open Go Go.RowKit

section
variable {P : Program} {L : Lay} {ts : List V} {bs : List Bx} {o : Oper}

theorem op_move {x0 : Operand} {x : V} (ho : o.op = .move x0 ∨ o.op = .assign x0) (hx : evO ts x0 = some x) : OpOk P o (fun ts' bs' => ts' = putV o.dst x ts ∧ bs' = bs) ts bs :=
  OpOk.value fun T φ w a _ ht => ⟨_, by rcases ho with ho | ho <;> simp [execOp, ho], evO_sound ht hx⟩

theorem op_pick {c a0 b0 : Operand} {p : Bool} {x : V} (ho : o.op = .pick c a0 b0) (hc : evO ts c = some (.val (.bool p))) (hx : (if p then evO ts a0 else evO ts b0) = some x) :
    OpOk P o (fun ts' bs' => ts' = putV o.dst x ts ∧ bs' = bs) ts bs := by
  refine OpOk.value fun T φ w a _ ht => ?_
  have h1 := RV.bool_of (evO_sound ht hc)
  cases p
  · exact ⟨a.eval b0, by simp [execOp, ho, h1, asBool], evO_sound ht hx⟩
  · exact ⟨a.eval a0, by simp [execOp, ho, h1, asBool], evO_sound ht hx⟩

theorem op_bin (hL : LayOk P L) {op : BinOp} {t t' : TypeId} {x0 y0 : Operand} {x y v : Value} (ho : o.op = .binOp op t x0 y0 t') (hx : evO ts x0 = some (.val x)) (hy : evO ts y0 = some (.val y)) (hv : evB L op t x y = some v) :
    OpOk P o (fun ts' bs' => ts' = putV o.dst (.val v) ts ∧ bs' = bs) ts bs := by
  refine OpOk.value fun T φ w a _ ht => ⟨v, ?_, .val v (evB_scalar hv)⟩
  have h1 := RV.bool_of (evO_sound ht hx)
  have h2 := RV.bool_of (evO_sound ht hy)
  simp only [execOp, ho, h1, h2, Sem.run_bind, evB_guard hv, Result.andThen, evB_sound hL hv, Sem.run_pure]

def evU : UnOp → Value → Option Value
  | .not, .bool b => some (.bool !b)
  | .neg, .int k n => some (.int k (k.wrap (0 - n)))
  | _, _ => none

theorem op_un {op : UnOp} {t : TypeId} {x0 : Operand} {x v : Value} (ho : o.op = .unOp op t x0) (hx : evO ts x0 = some (.val x)) (hv : evU op x = some v) :
    OpOk P o (fun ts' bs' => ts' = putV o.dst (.val v) ts ∧ bs' = bs) ts bs := by
  refine OpOk.value fun T φ w a _ ht => ?_
  have h1 := RV.bool_of (evO_sound ht hx)
  unfold evU at hv
  split at hv
  · obtain rfl := Option.some.inj hv
    exact ⟨_, by simp [execOp, ho, h1, Op.unary], .val _ rfl⟩
  · obtain rfl := Option.some.inj hv
    exact ⟨_, by simp [execOp, ho, h1, Op.unary, Op.intArith], .val _ rfl⟩
  · cases hv

theorem op_conv (hL : LayOk P L) {s d : TypeId} {x0 : Operand} {k k' : IntKind} {n : Int} (ho : o.op = .convert s d x0) (hx : evO ts x0 = some (.val (.int k n))) (hs : (L.int s).isSome = true) (hd : L.int d = some k') :
    OpOk P o (fun ts' bs' => ts' = putV o.dst (.val (.int k' (k'.wrap n))) ts ∧ bs' = bs) ts bs := by
  refine OpOk.value fun T φ w a _ ht => ⟨_, ?_, .val _ rfl⟩
  have h1 := RV.bool_of (evO_sound ht hx)
  obtain ⟨k0, hk0⟩ := Option.isSome_iff_exists.1 hs
  simp [execOp, ho, h1, convert, run_underlying (hL.int s _ hk0), run_underlying (hL.int d _ hd), Conv.intToInt]

theorem op_convS (hL : LayOk P L) {s d : TypeId} {x0 : Operand} {k : IntKind} {n : Int} (ho : o.op = .convert s d x0) (hx : evO ts x0 = some (.val (.int k n))) (hs : (L.int s).isSome = true) (hd : L.str d = true) :
    OpOk P o (fun ts' bs' => ts' = putV o.dst (.val (.string (Utf8.encode n))) ts ∧ bs' = bs) ts bs := by
  refine OpOk.value fun T φ w a _ ht => ⟨_, ?_, .val _ rfl⟩
  have h1 := RV.bool_of (evO_sound ht hx)
  obtain ⟨k0, hk0⟩ := Option.isSome_iff_exists.1 hs
  simp [execOp, ho, h1, convert, run_underlying (hL.int s _ hk0), run_underlying (hL.str d hd), Conv.intToString]

theorem op_extract {x0 : Operand} {i : Nat} {vs : List V} {x : V} (ho : o.op = .extract x0 i) (hx : evO ts x0 = some (.tup vs)) (hi : vs[i]? = some x) :
    OpOk P o (fun ts' bs' => ts' = putV o.dst x ts ∧ bs' = bs) ts bs := by
  refine OpOk.value fun T φ w a _ ht => ?_
  have h1 := evO_sound ht hx
  generalize he : a.eval x0 = u at h1
  cases h1 with
  | tup vs arr hl h =>
    have hlt : i < arr.size := by rw [← hl]; exact (List.getElem?_eq_some_iff.1 hi).1
    have h2 := h i x hi
    refine ⟨arr.getD i Go.undef, ?_, h2⟩
    simp [execOp, ho, he, Instr.extract, hlt, Array.getD]

theorem op_func {f : FuncId} {cap : Array Operand} {cs : List V} (ho : o.op = .makeFunc (.func f) #[] cap) (hc : cap.toList.map (evO ts) = cs.map some) :
    OpOk P o (fun ts' bs' => ts' = putV o.dst (.fn f cs) ts ∧ bs' = bs) ts bs := by
  refine OpOk.value fun T φ w a _ ht => ⟨.func (.func f) #[] (cap.map a.eval), by simp [execOp, ho, Instr.makeFunc], ?_⟩
  have hlen : cs.length = cap.size := by
    have := congrArg List.length hc
    simpa using this.symm
  refine .fn f cs _ (by simp [hlen]) fun i c hi => ?_
  have hil : i < cap.size := by rw [← hlen]; exact (List.getElem?_eq_some_iff.1 hi).1
  have h1 : evO ts cap[i] = some c := by
    have := congrArg (fun l => l[i]?) hc
    simpa [hi, hil] using this
  have := evO_sound ht h1
  simpa [Array.getD, hil] using this

/-- A field's address. -/
def fldP (o : Nat) : V → Option V
  | .ptr k off => some (.ptr k (off + o))
  | .rptr k sz i j => some (.rptr k sz i (j + o))
  | .eptr cs => some (.eptr (cs.drop o))
  | _ => none

theorem off_at (hL : LayOk P L) {t : TypeId} {l : List (Nat × Nat)} {f q n : Nat} (h : L.off t = some l) (hf : l[f]? = some (q, n)) :
    ∃ (fs : Array Field) (fl : Field), P.underlying t = some (.struct fs) ∧ fs[f]? = some fl ∧ fl.offset = q ∧ ∀ w, (sizeOf fl.type).run P w = .ok n w := by
  obtain ⟨fs, hu, hl⟩ := hL.off t l h
  have hlen : fs.size = l.length := by
    have := congrArg List.length hl
    simpa using this
  have hlt : f < fs.size := by rw [hlen]; exact (List.getElem?_eq_some_iff.1 hf).1
  have h1 := congrArg (fun l => l[f]?) hl
  simp only [List.getElem?_map, hf, Option.map_some, Array.getElem?_toList, Array.getElem?_eq_getElem hlt, Option.some.injEq, Option.map_eq_some_iff, Prod.mk.injEq] at h1
  obtain ⟨i, hi, h2, h3⟩ := h1
  exact ⟨fs, fs[f], hu, Array.getElem?_eq_getElem hlt, h2, fun w => by simp [sizeOf, typeInfo, hi, h3]⟩

theorem op_field (hL : LayOk P L) {t : TypeId} {x0 : Operand} {f q n : Nat} {l : List (Nat × Nat)} {p x : V} (ho : o.op = .fieldAddr t x0 f) (hx : evO ts x0 = some p) (hl : L.off t = some l) (hf : l[f]? = some (q, n)) (hn : n ≠ 0) (hp : fldP q p = some x) :
    OpOk P o (fun ts' bs' => ts' = putV o.dst x ts ∧ bs' = bs) ts bs := by
  obtain ⟨fs, fl, hu, hfl, hq, hsz⟩ := off_at hL hl hf
  have hrun : ∀ (ad : Addr) (w : World), (Instr.fieldAt t (.pointer (some ad)) f).run P w = .ok (.pointer (some (ad.add q))) w := fun ad w => by
    simp [Instr.fieldAt, run_underlying hu, hfl, Instr.sureAddr, fieldPlace, hsz, hn, hq, Result.andThen]
  refine OpOk.value fun T φ w a _ ht => ?_
  have h1 := evO_sound ht hx
  generalize he : a.eval x0 = u at h1
  cases h1 with
  | ptr k off g hg =>
    obtain rfl := Option.some.inj hp
    exact ⟨_, by simp [execOp, ho, he, hrun, add_plain, Result.andThen], .ptr k _ g hg⟩
  | rptr k sz i j g n c hg =>
    obtain rfl := Option.some.inj hp
    exact ⟨_, by simp [execOp, ho, he, hrun, add_plain, Nat.add_assoc, Result.andThen], .rptr k sz i _ g n c hg⟩
  | eptr cs ad hok hlt f' hcell hr =>
    obtain rfl := Option.some.inj hp
    refine ⟨_, by simp [execOp, ho, he, hrun, Result.andThen]; rfl, .eptr _ _ (by rw [add_block]; exact hok) (by rw [add_block]; exact hlt) (fun j => f' (q + j)) (fun j y hj => ?_) (fun j y hj => ?_)⟩
    · rw [List.getElem?_drop] at hj
      rw [add_add]
      exact hcell _ y hj
    · rw [List.getElem?_drop] at hj
      exact hr _ y hj
  | val => cases hp
  | nils => cases hp
  | sl => cases hp
  | row => cases hp
  | win => cases hp
  | fn => cases hp
  | agg => cases hp
  | tup => cases hp
  | gone => cases hp

/-- What a slice holds. -/
def view (bs : List Bx) : V → Option (List (List S))
  | .nils => some []
  | .sl xs => some xs
  | .row k => match bs[k]? with
    | some (.row _ _ xs) => some xs
    | _ => none
  | _ => none

/-- An element's address. -/
def idxS (n i : Nat) (xs : List (List S)) : Option V := match xs[i]? with
  | some x => if x.length = n then some (.eptr x) else none
  | none => none
def idxP (bs : List Bx) (n i : Nat) : V → Option V
  | .sl xs => idxS n i xs
  | .row k => match bs[k]? with
    | some (.row _ sz xs) => if i < xs.length ∧ sz = n then some (.rptr k sz i 0) else none
    | _ => none
  | .win k sz o m _ => if i < m ∧ sz = n then some (.ptr k ((o + i) * sz)) else none
  | _ => none

theorem run_indexAt (hL : LayOk P L) {t e n : Nat} (hl : L.sl t = some (e, n)) (ad : Addr) (len c : Nat) (k : IntKind) (i : Int) (h0 : 0 ≤ i) (h1 : i < len) (w : World) :
    (Instr.indexAt t (.slice (some ad) len c) (.int k i)).run P w = .ok (.pointer (some (ad.add (i.toNat * n)))) w := by
  obtain ⟨hu, hi, _⟩ := hL.sl t e n hl
  have he : P.elem t = e := by simp [Program.elem, hu]
  cases hq : P.info? e with
  | none => rw [hq] at hi; cases hi
  | some inf =>
    rw [hq] at hi
    have hi : inf.size = n := by simpa using hi
    rw [run_indexAt_slice w t ad len c k i (by rw [he]; exact hu), if_pos ⟨h0, h1⟩, he]
    simp [sizeOf, typeInfo, hq, hi, Result.andThen]

theorem op_indexArr (hL : LayOk P L) {t n e : Nat} {x0 i0 : Operand} {k : IntKind} {i : Int} {q off : Nat} (ho : o.op = .indexAddr t x0 i0) (hx : evO ts x0 = some (.ptr q off)) (hi : evO ts i0 = some (.val (.int k i))) (hl : L.arr t = some (n, e)) (h0 : 0 ≤ i ∧ i < n) :
    OpOk P o (fun ts' bs' => ts' = putV o.dst (.ptr q (off + i.toNat * e)) ts ∧ bs' = bs) ts bs := by
  obtain ⟨el, inf, hu, hinf, hsz⟩ := hL.arr t n e hl
  refine OpOk.value fun T φ w a hs ht => ?_
  have h1 := evO_sound ht hx
  have h2 := RV.bool_of (evO_sound ht hi)
  generalize he : a.eval x0 = u at h1
  cases h1 with
  | ptr _ _ g hg =>
    exact ⟨_, by simp [execOp, ho, he, h2, Instr.indexAt, asIntOf, Instr.sureAddr, run_underlying hu, h0, sizeOf, typeInfo, hinf, hsz, add_plain, Result.andThen], .ptr q _ g hg⟩

theorem RS.elem {ok : Nat → Prop} {w : World} {φ : List Value} {xs : List (List S)} {v : Value} (h : RS ok w (.sl xs) v) {i : Nat} {x : List S} (hx : xs[i]? = some x) :
    ∃ ad c, v = .slice (some ad) xs.length c ∧ ∀ n, n = x.length → RV ok w φ (.eptr x) (.pointer (some (ad.add (i * n)))) := by
  cases h with
  | nil A c h => simp at hx
  | cons xs ad c sz f h0 hs hc hm hok hlt hcell hr =>
    refine ⟨ad, c, rfl, fun n hn => ?_⟩
    have hxs := hs x (List.mem_of_getElem? hx)
    subst hn
    rw [hxs]
    refine .eptr x _ (by rw [add_block]; exact hok) (by rw [add_block]; exact hlt) (f i) (fun j y hj => ?_) (fun j y hj => hr i x j y hx hj)
    rw [add_add]
    exact hcell i x j y hx hj

theorem op_index (hL : LayOk P L) {t e n : Nat} {x0 i0 : Operand} {k : IntKind} {i : Int} {p x : V} (ho : o.op = .indexAddr t x0 i0) (hx : evO ts x0 = some p) (hi : evO ts i0 = some (.val (.int k i))) (hl : L.sl t = some (e, n)) (h0 : 0 ≤ i)
    (hp : idxP bs n i.toNat p = some x) : OpOk P o (fun ts' bs' => ts' = putV o.dst x ts ∧ bs' = bs) ts bs := by
  refine OpOk.value fun T φ w a hs ht => ?_
  have h1 := evO_sound ht hx
  have h2 := RV.bool_of (evO_sound ht hi)
  have key : ∀ (xs : List (List S)) (v : Value), RS (okOf T bs φ) w (.sl xs) v → a.eval x0 = v → idxS n i.toNat xs = some x →
      ∃ u, (execOp a.eval o).run P w = .ok (.value u) w ∧ RV (okOf T bs φ) w φ x u := by
    intro xs v hr he hm
    unfold idxS at hm
    split at hm
    · rename_i y hy
      split at hm
      · rename_i hyn
        obtain rfl := Option.some.inj hm
        obtain ⟨ad, c, rfl, hel⟩ := hr.elem (φ := φ) hy
        have hlt : i.toNat < xs.length := (List.getElem?_eq_some_iff.1 hy).1
        refine ⟨_, ?_, hel n hyn.symm⟩
        simp [execOp, ho, he, h2, run_indexAt hL hl ad xs.length c k i h0 (by omega), Result.andThen]
      · cases hm
    · cases hm
  generalize he : a.eval x0 = u at h1
  cases h1 with
  | sl xs v hr => exact key xs _ hr he hp
  | row q A m c hq =>
    simp only [idxP] at hp
    cases hb : bs[q]? with
    | none => rw [hb] at hp; cases hp
    | some b =>
      rw [hb] at hp
      obtain ⟨v', hv', hbo⟩ := hs.box q b hb
      obtain rfl : v' = _ := Option.some.inj (hv'.symm.trans hq)
      cases b with
      | dead => cases hp
      | cells l => cases hp
      | iter s p => cases hp
      | row e' sz xs =>
        simp only at hp
        split at hp
        · rename_i hlt
          obtain ⟨hlt, rfl⟩ := hlt
          obtain rfl := Option.some.inj hp
          obtain ⟨hlen, vals, how, _⟩ := hbo
          rcases how.2 with ⟨_, hz⟩ | ⟨g, cap, cur, hvv, _, _, _, _, _, _⟩
          · omega
          · simp only [Value.slice.injEq] at hvv
            obtain ⟨rfl, rfl, rfl⟩ := hvv
            refine ⟨_, ?_, .rptr q sz i.toNat 0 g _ _ hq⟩
            simp [execOp, ho, he, h2, run_indexAt hL hl _ xs.length _ k i h0 (by omega), Result.andThen, add_plain]
        · cases hp
  | val => cases hp
  | nils => cases hp
  | eptr => cases hp
  | ptr => cases hp
  | rptr => cases hp
  | win q sz o m c g hq hn hm =>
    simp only [idxP] at hp
    split at hp
    · rename_i hc
      obtain ⟨hlt, rfl⟩ := hc
      obtain rfl := Option.some.inj hp
      refine ⟨_, ?_, .ptr q _ g hq⟩
      have e1 : (o + i.toNat) * sz = o * sz + i.toNat * sz := Nat.add_mul _ _ _
      rw [e1]
      simp [execOp, ho, he, h2, run_indexAt hL hl _ m c k i h0 (by omega), Result.andThen, add_plain]
    · cases hp
  | fn => cases hp
  | agg => cases hp
  | tup => cases hp
  | gone => cases hp

theorem view_len {T : Nat → Prop} {bs : List Bx} {φ : List Value} {w : World} (hs : Sim T bs φ w) {p : V} {xs : List (List S)} {v : Value} (h : RV (okOf T bs φ) w φ p v) (hv : view bs p = some xs) : ∃ A c, v = .slice A xs.length c := by
  have key : ∀ xs v, RS (okOf T bs φ) w (.sl xs) v → ∃ A c, v = .slice A xs.length c := fun xs v hr => by
    cases hr with
    | nil A c h => exact ⟨A, c, rfl⟩
    | cons xs ad c => exact ⟨some ad, c, rfl⟩
  cases h with
  | nils => obtain rfl := Option.some.inj hv; exact ⟨none, 0, rfl⟩
  | sl xs' v hr => obtain rfl := Option.some.inj hv; exact key _ _ hr
  | row q A m c hq =>
    simp only [view] at hv
    cases hb : bs[q]? with
    | none => rw [hb] at hv; cases hv
    | some b =>
      rw [hb] at hv
      obtain ⟨v', hv', hbo⟩ := hs.box q b hb
      obtain rfl : v' = _ := Option.some.inj (hv'.symm.trans hq)
      cases b with
      | dead => cases hv
      | cells l => cases hv
      | iter s p => cases hv
      | row e' sz xs =>
        obtain rfl := Option.some.inj hv
        obtain ⟨_, vals, how, _⟩ := hbo
        rcases how.2 with ⟨h1, h2⟩ | ⟨g, cap, cur, h1, _⟩
        · exact ⟨A, c, by simp only [Value.slice.injEq] at h1; rw [h1.2.1, h2]⟩
        · simp only [Value.slice.injEq] at h1
          exact ⟨A, c, by rw [h1.2.1]⟩
  | val => cases hv
  | eptr => cases hv
  | ptr => cases hv
  | rptr => cases hv
  | win => cases hv
  | fn => cases hv
  | agg => cases hv
  | tup => cases hv
  | gone => cases hv

theorem op_len (hL : LayOk P L) {t e n : Nat} {x0 : Operand} {p : V} {xs : List (List S)} (ho : o.op = .call { callee := .builtin .len, args := #[x0], argTypes := #[t] }) (hx : evO ts x0 = some p) (hl : L.sl t = some (e, n)) (hv : view bs p = some xs) :
    OpOk P o (fun ts' bs' => ts' = putV o.dst (.val (.int .i64 xs.length)) ts ∧ bs' = bs) ts bs := by
  refine OpOk.value fun T φ w a hs ht => ⟨_, ?_, .val _ rfl⟩
  obtain ⟨A, c, he⟩ := view_len hs (evO_sound ht hx) hv
  obtain ⟨hu, _⟩ := hL.sl t e n hl
  simp [execOp, ho, resolve, he, invoke, builtin, Builtin.len_, run_underlying hu, goInt, Result.andThen]

theorem op_nil {x0 : Operand} {p : V} (ho : o.op = .nilCheck x0) (hx : evO ts x0 = some p) (hp : (match p with | .ptr _ _ | .rptr _ _ _ _ | .eptr _ => true | _ => false) = true) :
    OpOk P o (fun ts' bs' => ts' = putV o.dst p ts ∧ bs' = bs) ts bs := by
  refine OpOk.value fun T φ w a hs ht => ?_
  have h1 := evO_sound ht hx
  generalize he : a.eval x0 = u at h1
  cases h1 with
  | ptr k off g hg => exact ⟨_, by simp [execOp, ho, he], .ptr k off g hg⟩
  | rptr k sz i j g n c hg => exact ⟨_, by simp [execOp, ho, he], .rptr k sz i j g n c hg⟩
  | eptr cs ad hok hlt f hcell hr => exact ⟨_, by simp [execOp, ho, he], .eptr cs ad hok hlt f hcell hr⟩
  | _ => cases hp

theorem op_char (hL : LayOk P L) {t : Nat} {x0 i0 : Operand} {s : ByteArray} {k : IntKind} {i : Int} {c : UInt8} (ho : o.op = .index t x0 i0) (hx : evO ts x0 = some (.val (.string s))) (hi : evO ts i0 = some (.val (.int k i))) (hl : L.str t = true) (h0 : 0 ≤ i) (hc : s[i.toNat]? = some c) :
    OpOk P o (fun ts' bs' => ts' = putV o.dst (.val (.int .u8 c.toNat)) ts ∧ bs' = bs) ts bs := by
  refine OpOk.value fun T φ w a hs ht => ⟨_, ?_, .val _ rfl⟩
  have h1 := RV.bool_of (evO_sound ht hx)
  have h2 := RV.bool_of (evO_sound ht hi)
  simp [execOp, ho, h1, h2, Instr.index, asIntOf, run_underlying (hL.str t hl), h0, hc]

theorem op_cutS (hL : LayOk P L) {t : Nat} {x0 : Operand} {lo hi : Option Operand} {s : ByteArray} {l h : Nat} (ho : o.op = .slice t x0 lo hi none) (hx : evO ts x0 = some (.val (.string s))) (hs : L.str t = true)
    (hlo : match lo with | none => l = 0 | some q => ∃ k, evO ts q = some (.val (.int k l))) (hhi : match hi with | none => h = s.size | some q => ∃ k, evO ts q = some (.val (.int k h))) (h1 : l ≤ h) (h2 : h ≤ s.size) :
    OpOk P o (fun ts' bs' => ts' = putV o.dst (.val (.string (s.extract l h))) ts ∧ bs' = bs) ts bs := by
  refine OpOk.value fun T φ w a _ ht => ⟨_, ?_, .val _ rfl⟩
  have hxv := RV.bool_of (evO_sound ht hx)
  have hrun : (Instr.slice t (.string s) (lo.map a.eval) (hi.map a.eval) none).run P w = .ok (.string (s.extract l h)) w := by
    have hl' : ∀ (code : BoundsCode), (match lo.map a.eval with | some v => Instr.sliceBound v h code | none => pure 0).run P w = .ok l w := by
      intro code
      cases lo with
      | none => obtain rfl := hlo; rfl
      | some q =>
        obtain ⟨k, hk⟩ := hlo
        have := RV.bool_of (evO_sound ht hk)
        simp [this, Instr.sliceBound, asIntOf, h1]
    have hh' : ∀ (code : BoundsCode), (match hi.map a.eval with | some v => Instr.sliceBound v s.size code | none => pure s.size).run P w = .ok h w := by
      intro code
      cases hi with
      | none => obtain rfl := hhi; rfl
      | some q =>
        obtain ⟨k, hk⟩ := hhi
        have := RV.bool_of (evO_sound ht hk)
        simp [this, Instr.sliceBound, asIntOf, h2]
    cases lo <;> cases hi <;> simp_all [Instr.slice, Instr.sliceBounds, run_underlying (hL.str t hs)]
  have hsl : (Instr.sliceAt t (.string s) (lo.map a.eval) (hi.map a.eval) none).run P w = .ok (.string (s.extract l h)) w := by
    simp [Instr.sliceAt, run_underlying (hL.str t hs), hrun]
  simp [execOp, ho, hxv, hsl]

theorem op_lenS (hL : LayOk P L) {t : Nat} {x0 : Operand} {s : ByteArray} (ho : o.op = .call { callee := .builtin .len, args := #[x0], argTypes := #[t] }) (hx : evO ts x0 = some (.val (.string s))) (hl : L.str t = true) :
    OpOk P o (fun ts' bs' => ts' = putV o.dst (.val (.int .i64 s.size)) ts ∧ bs' = bs) ts bs := by
  refine OpOk.value fun T φ w a hs ht => ⟨_, ?_, .val _ rfl⟩
  have h1 := RV.bool_of (evO_sound ht hx)
  simp [execOp, ho, resolve, h1, invoke, builtin, Builtin.len_, run_underlying (hL.str t hl), goInt, Result.andThen]
end

end Go.Proofs.YtiefcnghjcafbaaDoorV
