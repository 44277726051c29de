/- The calculus of values, thirteenth text: one function that computes what an operation comes to, and the rule that it is right. -/
import Derived.Test.YtiefcnghjcafbaaDoorV11
import Derived.Test.YtiefcnghjcafbaaDoorW3
namespace Go.Proofs.YtiefcnghjcafbaaDoorV
open Go Go.RowKit

/-- Strings cut. -/
def evCut (s : ByteArray) (ts : List V) (lo hi : Option Operand) : Option ByteArray :=
  let h : Option Nat := match hi with
    | none => some s.size
    | some q => match evO ts q with
      | some (.val (.int _ i)) => if 0 ≤ i then some i.toNat else none
      | _ => none
  let l : Option Nat := match lo with
    | none => some 0
    | some q => match evO ts q with
      | some (.val (.int _ i)) => if 0 ≤ i then some i.toNat else none
      | _ => none
  match l, h with
  | some l, some h => if l ≤ h ∧ h ≤ s.size then some (s.extract l h) else none
  | _, _ => none

def evApp (L : Lay) (t : TypeId) (s : V) (k2 : Nat) (bs : List Bx) : Option (V × List Bx) := match L.sl t with
  | none => none
  | some (e, sz) => match L.byt e, bs[k2]? with
    | some b, some (.row e2 sz2 ys) => if sz2 = sz ∧ ys.isEmpty = false then match s with
      | .nils => if ys.length * b ≤ 140737488355328 ∧ ys.length ≤ 140737488355328 then some (.row bs.length, bs ++ [.row e sz ys]) else none
      | .row k => match bs[k]? with
        | some (.row e1 sz1 xs) => if e1 = e ∧ sz1 = sz ∧ (xs.length + ys.length) * b ≤ 140737488355328 ∧ xs.length + ys.length ≤ 140737488355328 then some (.row bs.length, bs.set k .dead ++ [.row e sz (xs ++ ys)]) else none
        | _ => none
      | _ => none
      else none
    | _, _ => none

/-- What is appended has been made fast, or is nothing. -/
def evAppS (L : Lay) (t : TypeId) (s : V) (ys : List (List S)) (bs : List Bx) : Option (V × List Bx) := match L.sl t with
  | none => none
  | some (e, sz) => match ys with
    | [] => match s with
      | .nils => some (.nils, bs)
      | .row k => match bs[k]? with
        | some (.row _ _ _) => some (.row k, bs)
        | _ => none
      | _ => none
    | y :: r => match L.byt e with
      | none => none
      | some b => if (y :: r).all (fun y => y.length == sz) = true then match s with
        | .nils => if (r.length + 1) * b ≤ 140737488355328 ∧ r.length + 1 ≤ 140737488355328 then some (.row bs.length, bs ++ [.row e sz (y :: r)]) else none
        | .row k => match bs[k]? with
          | some (.row e1 sz1 xs) => if e1 = e ∧ sz1 = sz ∧ (xs.length + (r.length + 1)) * b ≤ 140737488355328 ∧ xs.length + (r.length + 1) ≤ 140737488355328 then some (.row bs.length, bs.set k .dead ++ [.row e sz (xs ++ y :: r)]) else none
          | _ => none
        | _ => none
        else none

/-- What is appended fits into the room. -/
def evAppW (L : Lay) (t : TypeId) (k sz q n c : Nat) (x : V) (bs : List Bx) : Option (V × List Bx) := match L.sl t, lenV bs x, bs[k]? with
  | some (_, s), some m, some (.cells cs) => if s = sz ∧ n + m ≤ c ∧ (q + c) * sz ≤ cs.length then match srcs bs sz m x with
    | some l => some (.win k sz q (n + m) c, bs.set k (.cells (spl cs ((q + n) * sz) l)))
    | none => none
    else none
  | _, _, _ => none
/-- Bounds of a cut. -/
def bd (ts : List V) (q : Option Operand) (d : Nat) : Option Nat := match q with
  | none => some d
  | some q => match evO ts q with
    | some (.val (.int _ i)) => if 0 ≤ i then some i.toNat else none
    | _ => none

def evCall (L : Lay) (c : Call) (ts : List V) (bs : List Bx) : Option (V × List Bx) := match c.callee, c.args.toList, c.argTypes.toList with
  | .builtin .len, [x], [t] => match evO ts x with
    | some (.val (.string s)) => if L.str t then some (.val (.int .i64 s.size), bs) else none
    | some (.win _ _ _ n _) => match L.sl t with
      | some _ => some (.val (.int .i64 n), bs)
      | none => none
    | some p => match L.sl t, view bs p with
      | some _, some xs => some (.val (.int .i64 xs.length), bs)
      | _, _ => none
    | none => none
  | .builtin .cap, [x], [t] => match evO ts x, L.sl t with
    | some (.win _ _ _ _ c), some _ => some (.val (.int .i64 c), bs)
    | _, _ => none
  | .builtin .min, [x, y], _ => match evO ts x, evO ts y with
    | some (.val (.int k a)), some (.val (.int _ b)) => some (.val (.int k (if b < a then b else a)), bs)
    | _, _ => none
  | .builtin .copy, [d, s], [t, t'] => match evO ts d, evO ts s, L.sl t with
    | some (.win k sz q n c), some x, some (_, s') => if s' = sz then match lenV bs x, bs[k]? with
      | some len, some (.cells cs) => if (q + n) * sz ≤ cs.length then match srcs bs sz (Nat.min len n) x with
        | some l => some (.val (.int .i64 (Nat.min len n : Nat)), bs.set k (.cells (spl cs (q * sz) l)))
        | none => none
        else none
      | _, _ => none
      else none
    | _, _, _ => none
  | .builtin .append, [s, x], [t, t'] => if t = t' then match evO ts s, evO ts x with
    | some (.win k sz q n c), some x => evAppW L t k sz q n c x bs
    | some s, some (.row k2) => match bs[k2]? with
      | some (.row _ _ []) => evAppS L t s [] bs
      | _ => evApp L t s k2 bs
    | some s, some (.sl ys) => evAppS L t s ys bs
    | some s, some .nils => evAppS L t s [] bs
    | _, _ => none
    else none
  | _, _, _ => none

def ev (L : Lay) (op : Op) (ts : List V) (bs : List Bx) : Option (V × List Bx) := match op with
  | .move x => (evO ts x).map fun v => (v, bs)
  | .assign x => (evO ts x).map fun v => (v, bs)
  | .pick c a b => match evO ts c with
    | some (.val (.bool p)) => (if p then evO ts a else evO ts b).map fun v => (v, bs)
    | _ => none
  | .binOp op t x y _ => match evO ts x, evO ts y with
    | some (.val u), some (.val v) => (match evB L op t u v with | some r => some r | none => evS op u v).map fun r => (.val r, bs)
    | some (.agg cs), some (.agg ds) => match L.eqs t with
      | none => none
      | some l => match op with
        | .eql => (eqL L l cs ds).map fun b => (.val (.bool b), bs)
        | .neq => (eqL L l cs ds).map fun b => (.val (.bool !b), bs)
        | _ => none
    | _, _ => none
  | .unOp op _ x => match evO ts x with
    | some (.val u) => (evU op u).map fun r => (.val r, bs)
    | _ => none
  | .convert s d x => match evO ts x, L.int s, L.int d with
    | some (.val (.int _ n)), some _, some k => some (.val (.int k (k.wrap n)), bs)
    | some (.val (.int _ n)), some _, none => if L.str d = true then some (.val (.string (Utf8.encode n)), bs) else none
    | _, _, _ => none
  | .extract x i => match evO ts x with
    | some (.tup vs) => (vs[i]?).map fun v => (v, bs)
    | _ => none
  | .alloc t => (L.zero t).map fun z => (.ptr bs.length 0, bs ++ [.cells z])
  | .box _ x => match evO ts x with
    | some v => v.cs.map fun cs => (.ptr bs.length 0, bs ++ [.cells cs])
    | none => none
  | .build t ps => match evPs ts ps.toList, L.off t, L.zero t with
    | some vs, some l, some z => (fillV (l[·]?) z vs).map fun r => (.agg r, bs)
    | _, _, _ => none
  | .buildSlice t n ps => match L.sl t with
    | none => none
    | some (e, sz) => match evPs ts ps.toList, L.zero e with
      | some vs, some z => match fillV (fun i => some (i * sz, sz)) (List.replicate n z).flatten vs with
        | none => none
        | some res => match downs res with
          | none => none
          | some l => if z.length = sz ∧ l.length = n * sz ∧ n * sz ≤ 16777216 then some (.row bs.length, bs ++ [.row e sz (chunk sz n l)]) else none
      | _, _ => none
  | .load t a => match evO ts a, L.cel t with
    | some p, some (n, b) => match rd bs p n with
      | some cs => (if b then some (.agg cs) else cs[0]?).map fun v => (v, bs)
      | none => none
    | _, _ => none
  | .store t a x => match evO ts a, evO ts x, L.cel t with
    | some (.ptr k off), some v, some (n, _) => match v.cs, bs[k]? with
      | some cs, some (.cells l) => if cs.length = n ∧ off + n ≤ l.length then some (.tup [], bs.set k (.cells (spl l off cs))) else none
      | _, _ => none
    | some (.rptr k sz i j), some v, some (n, _) => match v.cs, bs[k]? with
      | some cs, some (.row e sz' xs) => match downs cs, xs[i]? with
        | some ss, some y => if cs.length = n ∧ j + n ≤ y.length ∧ sz' = sz then some (.tup [], bs.set k (.row e sz (xs.set i (spl y j ss)))) else none
        | _, _ => none
      | _, _ => none
    | _, _, _ => none
  | .nilCheck x => match evO ts x with
    | some (.ptr k off) => some (.ptr k off, bs)
    | some (.rptr k sz i j) => some (.rptr k sz i j, bs)
    | some (.eptr cs) => some (.eptr cs, bs)
    | _ => none
  | .fieldAddr t x f => match evO ts x, L.off t with
    | some p, some l => match l[f]? with
      | some (q, n) => if n = 0 then none else (fldP q p).map fun v => (v, bs)
      | none => none
    | _, _ => none
  | .indexAddr t x i => match evO ts x, evO ts i, L.sl t with
    | some p, some (.val (.int _ i)), some (_, n) => if 0 ≤ i then (idxP bs n i.toNat p).map fun v => (v, bs) else none
    | some (.ptr q off), some (.val (.int _ i)), none => match L.arr t with
      | some (n, e) => if 0 ≤ i ∧ i < n then some (.ptr q (off + i.toNat * e), bs) else none
      | none => none
    | _, _, _ => none
  | .index t x i => match evO ts x, evO ts i with
    | some (.val (.string s)), some (.val (.int _ i)) => if L.str t = true ∧ 0 ≤ i then (s[i.toNat]?).map fun c => (.val (.int .u8 c.toNat), bs) else none
    | _, _ => none
  | .slice t x lo hi none => match evO ts x with
    | some (.val (.string s)) => if L.str t then (evCut s ts lo hi).map fun r => (.val (.string r), bs) else none
    | some (.win k sz q n c) => match L.sl t, bd ts lo 0, bd ts hi n with
      | some (_, s), some l, some h => if s = sz ∧ l ≤ h ∧ h ≤ c then some (if c = l then .win k sz q (h - l) (c - l) else .win k sz (q + l) (h - l) (c - l), bs) else none
      | _, _, _ => none
    | some (.sl xs) => match L.sl t, bd ts lo 0, bd ts hi xs.length with
      | some (_, s), some l, some h => if xs.all (fun x => x.length == s) = true ∧ l ≤ h ∧ h ≤ xs.length then some (.sl ((xs.take h).drop l), bs) else none
      | _, _, _ => none
    | _ => none
  | .makeSlice t ln cp => match evO ts ln, evO ts cp, L.sl t with
    | some (.val (.int _ n)), some (.val (.int _ c)), some (e, sz) => match L.byt e, L.zero e with
      | some b, some zs => if zs.length = sz ∧ 0 ≤ n ∧ n ≤ c ∧ c ≤ 140737488355328 ∧ c.toNat * b ≤ 140737488355328 then some (.win bs.length sz 0 n.toNat c.toNat, bs ++ [.cells (List.replicate c.toNat zs).flatten]) else none
      | _, _ => none
    | _, _, _ => none
  | .makeFunc (.func f) fst cap => match fst.toList, evOs ts cap.toList with
    | [], some vs => some (.fn f vs, bs)
    | _, _ => none
  | .range t x => match evO ts x with
    | some (.val (.string s)) => if L.str t then some (.ptr bs.length 0, bs ++ [.iter s 0]) else none
    | _ => none
  | .next x true => match evO ts x with
    | some (.ptr k 0) => match bs[k]? with
      | some (.iter s p) => if p < s.size then some (.tup [.val (.bool true), .val (.int .i64 p), .val (.int .i32 (Utf8.decode s p).1)], bs.set k (.iter s (p + (Utf8.decode s p).2))) else some (.tup [.val (.bool false)], bs)
      | _ => none
    | _ => none
  | .call c => evCall L c ts bs
  | _ => none

section
variable {P : Program} {L : Lay} {ts : List V} {bs bs' : List Bx} {o : Oper} {v : V}

theorem toList_nil {α : Type} {a : Array α} (h : a.toList = []) : a = #[] := by apply Array.toList_inj.1; simpa using h
theorem toList_one {α : Type} {a : Array α} {x : α} (h : a.toList = [x]) : a = #[x] := by apply Array.toList_inj.1; simpa using h
theorem toList_two {α : Type} {a : Array α} {x y : α} (h : a.toList = [x, y]) : a = #[x, y] := by apply Array.toList_inj.1; simpa using h

def Comes1 (P : Program) (o : Oper) (ts : List V) (bs : List Bx) (v : V) (bs' : List Bx) : Prop := OpOk P o (fun ts' bs'' => ts' = putV o.dst v ts ∧ bs'' = bs') ts bs

theorem evApp_sound (hL : LayOk P L) {t : TypeId} {s0 x0 : Operand} {s : V} {k2 : Nat} (ho : o.op = .call { callee := .builtin .append, args := #[s0, x0], argTypes := #[t, t] }) (hs : evO ts s0 = some s) (hx : evO ts x0 = some (.row k2)) (h : evApp L t s k2 bs = some (v, bs')) : Comes1 P o ts bs v bs' := by
  unfold evApp at h
  split at h
  · cases h
  · rename_i e sz hsl
    split at h
    · rename_i b e2 sz2 ys hb hk2
      split at h
      · rename_i hc
        obtain ⟨rfl, hys⟩ := hc
        have hne : ys ≠ [] := by
          intro e
          subst e
          cases hys
        have hv : view bs (.row k2) = some ys := by simp [view, hk2]
        have hlen : ∀ (T : Nat → Prop) φ w, Sim T bs φ w → ∀ y ∈ ys, y.length = sz2 := fun T φ w hsim => by
          obtain ⟨_, _, h1, _⟩ := hsim.box k2 _ hk2
          exact h1
        split at h
        · split at h
          · rename_i hbd
            obtain ⟨rfl, rfl⟩ := Prod.mk.inj (Option.some.inj h)
            intro T φ w a hsim ht K Qx hK
            exact op_append0 hL ho hs hx hsl hb hv hne (hlen T φ w hsim) hbd.1 hbd.2 T φ w a hsim ht K Qx hK
          · cases h
        · split at h
          · rename_i k e1 sz1 xs hk
            split at h
            · rename_i hbd
              obtain ⟨rfl, rfl, hb1, hb2⟩ := hbd
              obtain ⟨rfl, rfl⟩ := Prod.mk.inj (Option.some.inj h)
              intro T φ w a hsim ht K Qx hK
              exact op_append hL ho hs hx hk hsl hb hv hne (hlen T φ w hsim) hb1 hb2 T φ w a hsim ht K Qx hK
            · cases h
          · cases h
        · cases h
      · cases h
    · cases h

theorem evAppS_sound (hL : LayOk P L) {t : TypeId} {s0 x0 : Operand} {s x : V} {ys : List (List S)} (ho : o.op = .call { callee := .builtin .append, args := #[s0, x0], argTypes := #[t, t] }) (hs : evO ts s0 = some s) (hx : evO ts x0 = some x) (hv : view bs x = some ys) (h : evAppS L t s ys bs = some (v, bs')) : Comes1 P o ts bs v bs' := by
  unfold evAppS at h
  split at h
  · cases h
  · rename_i e sz hsl
    split at h
    · split at h
      · cases h
        exact op_appendE hL ho hs hx hsl hv (.inl rfl)
      · split at h
        · rename_i k e' sz' xs hk
          cases h
          exact op_appendE hL ho hs hx hsl hv (.inr ⟨_, _, _, _, rfl, hk⟩)
        · cases h
      · cases h
    · rename_i y r
      split at h
      · cases h
      · rename_i b hb
        split at h
        · rename_i hall
          have hlen : ∀ z ∈ y :: r, z.length = sz := fun z hz => by
            have := List.all_eq_true.1 hall z hz
            simpa using this
          split at h
          · split at h
            · rename_i hbd
              cases h
              exact op_append0 hL ho hs hx hsl hb hv (by simp) hlen hbd.1 hbd.2
            · cases h
          · split at h
            · rename_i k e1 sz1 xs hk
              split at h
              · rename_i hbd
                obtain ⟨rfl, rfl, hb1, hb2⟩ := hbd
                cases h
                exact op_append hL ho hs hx hk hsl hb hv (by simp) hlen hb1 hb2
              · cases h
            · cases h
          · cases h
        · cases h

theorem evAppW_sound (hL : LayOk P L) {t : TypeId} {s0 x0 : Operand} {k sz q n c : Nat} {x : V} (ho : o.op = .call { callee := .builtin .append, args := #[s0, x0], argTypes := #[t, t] }) (hs : evO ts s0 = some (.win k sz q n c)) (hx : evO ts x0 = some x) (h : evAppW L t k sz q n c x bs = some (v, bs')) : Comes1 P o ts bs v bs' := by
  unfold evAppW at h
  split at h
  · rename_i e s m cs hl hm hb
    split at h
    · rename_i hc
      obtain ⟨rfl, h1, h2⟩ := hc
      split at h
      · rename_i l hsr
        cases h
        exact op_appW hL ho hs hx hl hm hsr h1 hb h2
      · cases h
    · cases h
  · cases h
theorem bd_sound {q : Option Operand} {d n : Nat} (h : bd ts q d = some n) : Bd ts q d n := by
  unfold bd at h
  unfold Bd
  cases q with
  | none => exact (Option.some.inj h).symm
  | some q =>
    simp only at h ⊢
    split at h
    · rename_i k i hq
      split at h
      · rename_i h0
        obtain rfl := Option.some.inj h
        exact ⟨k, by rw [hq]; congr 3; omega⟩
      · cases h
    · cases h

theorem evCall_sound (hL : LayOk P L) {c : Call} (ho : o.op = .call c) (h : evCall L c ts bs = some (v, bs')) : Comes1 P o ts bs v bs' := by
  obtain ⟨cal, args, tys⟩ := c
  unfold evCall at h
  simp only at h
  split at h
  · rename_i x t h1 h2
    obtain rfl := toList_one h1
    obtain rfl := toList_one h2
    split at h
    · rename_i s hx
      split at h
      · rename_i hst
        obtain ⟨rfl, rfl⟩ := Prod.mk.inj (Option.some.inj h)
        exact op_lenS hL ho hx hst
      · cases h
    · rename_i k sz q n c hx
      split at h
      · rename_i q' hsl
        obtain ⟨e, m⟩ := q'
        cases h
        exact op_lenW hL ho hx hsl
      · cases h
    · rename_i p _ _ hx
      split at h
      · rename_i q xs hsl hv
        obtain ⟨rfl, rfl⟩ := Prod.mk.inj (Option.some.inj h)
        obtain ⟨e, n⟩ := q
        exact op_len hL ho hx hsl hv
      · cases h
    · cases h
  · rename_i x t h1 h2
    obtain rfl := toList_one h1
    obtain rfl := toList_one h2
    split at h
    · rename_i k sz q n c q' hx hsl
      obtain ⟨e, m⟩ := q'
      cases h
      exact op_capW hL ho hx hsl
    · cases h
  · rename_i x y h1
    obtain rfl := toList_two h1
    split at h
    · rename_i k a k' b hx hy
      cases h
      exact op_min ho hx hy
    · cases h
  · rename_i d s t t' h1 h2
    obtain rfl := toList_two h1
    obtain rfl := toList_two h2
    split at h
    · rename_i k sz q n c x e s' hd hx hl
      split at h
      · rename_i hss
        subst hss
        split at h
        · rename_i len cs hm hb
          split at h
          · rename_i hle
            split at h
            · rename_i l hsr
              cases h
              exact op_copyW hL ho hd hx hl hm hsr hb hle
            · cases h
          · cases h
        · cases h
      · cases h
    · cases h
  · rename_i s x t t' h1 h2
    obtain rfl := toList_two h1
    obtain rfl := toList_two h2
    split at h
    · rename_i htt
      subst htt
      split at h
      · rename_i k sz q n c x' hs hx
        exact evAppW_sound hL ho hs hx h
      · rename_i s' k2 hs hx
        split at h
        · rename_i hk2
          exact evAppS_sound hL ho hs hx (by simp [view, hk2]) h
        · exact evApp_sound hL ho hs hx h
      · rename_i s' ys hs hx
        exact evAppS_sound hL ho hs hx rfl h
      · rename_i s' hs hx
        exact evAppS_sound hL ho hs hx rfl h
      · cases h
    · cases h
  · cases h

theorem evCut_sound (hL : LayOk P L) {t : TypeId} {x0 : Operand} {lo hi : Option Operand} {s r : ByteArray} (ho : o.op = .slice t x0 lo hi none) (hx : evO ts x0 = some (.val (.string s))) (hs : L.str t = true) (h : evCut s ts lo hi = some r) : Comes1 P o ts bs (.val (.string r)) bs := by
  unfold evCut at h
  simp only at h
  split at h
  · rename_i l hh h1 h2
    split at h
    · rename_i hb
      obtain rfl := Option.some.inj h
      refine op_cutS hL ho hx hs ?_ ?_ hb.1 hb.2
      · cases lo with
        | none => exact (Option.some.inj h1).symm
        | some q =>
          simp only at h1 ⊢
          split at h1
          · rename_i k i hq
            split at h1
            · rename_i h0
              obtain rfl := Option.some.inj h1
              exact ⟨k, by rw [hq]; congr 3; omega⟩
            · cases h1
          · cases h1
      · cases hi with
        | none => exact (Option.some.inj h2).symm
        | some q =>
          simp only at h2 ⊢
          split at h2
          · rename_i k i hq
            split at h2
            · rename_i h0
              obtain rfl := Option.some.inj h2
              exact ⟨k, by rw [hq]; congr 3; omega⟩
            · cases h2
          · cases h2
    · cases h
  · cases h

theorem ev_sound (hL : LayOk P L) (h : ev L o.op ts bs = some (v, bs')) : Comes1 P o ts bs v bs' := by
  generalize ho : o.op = op at h
  unfold ev at h
  split at h
  · obtain ⟨x, hx, he⟩ := Option.map_eq_some_iff.1 h
    cases he
    exact op_move (.inl ho) hx
  · obtain ⟨x, hx, he⟩ := Option.map_eq_some_iff.1 h
    cases he
    exact op_move (.inr ho) hx
  · split at h
    · rename_i p hc
      obtain ⟨x, hx, he⟩ := Option.map_eq_some_iff.1 h
      cases he
      exact op_pick ho hc hx
    · cases h
  · split at h
    · rename_i u w hx hy
      obtain ⟨x, hv, he⟩ := Option.map_eq_some_iff.1 h
      cases he
      split at hv
      · rename_i r hb
        obtain rfl := Option.some.inj hv
        exact op_bin hL ho hx hy hb
      · exact op_shift ho hx hy hv
    · rename_i cs ds hx hy
      split at h
      · cases h
      · rename_i l hl
        split at h
        · obtain ⟨b, hv, he⟩ := Option.map_eq_some_iff.1 h
          cases he
          exact op_eqL hL ho (.inl rfl) hx hy hl hv
        · obtain ⟨b, hv, he⟩ := Option.map_eq_some_iff.1 h
          cases he
          exact op_eqL hL ho (.inr rfl) hx hy hl hv
        · cases h
    · cases h
  · split at h
    · rename_i u hx
      obtain ⟨x, hv, he⟩ := Option.map_eq_some_iff.1 h
      cases he
      exact op_un ho hx hv
    · cases h
  · split at h
    · rename_i k0 n q k hx hs hd
      cases h
      exact op_conv hL ho hx (by rw [hs]; rfl) hd
    · rename_i k0 n q hx hs hd
      split at h
      · rename_i hs2
        cases h
        exact op_convS hL ho hx (by rw [hs]; rfl) hs2
      · cases h
    · cases h
  · split at h
    · rename_i vs hx
      obtain ⟨x, hv, he⟩ := Option.map_eq_some_iff.1 h
      cases he
      exact op_extract ho hx hv
    · cases h
  · obtain ⟨z, hz, he⟩ := Option.map_eq_some_iff.1 h
    cases he
    exact op_alloc hL ho hz
  · split at h
    · rename_i x hx
      obtain ⟨cs, hc, he⟩ := Option.map_eq_some_iff.1 h
      cases he
      exact op_box ho hx hc
    · cases h
  · split at h
    · rename_i vs l z hp hl hz
      obtain ⟨r, hf, he⟩ := Option.map_eq_some_iff.1 h
      cases he
      exact op_build hL ho hp hl hz hf
    · cases h
  · split at h
    · cases h
    · rename_i e sz hsl
      split at h
      · rename_i vs z hp hz
        split at h
        · cases h
        · rename_i res hf
          split at h
          · cases h
          · rename_i l hd
            split at h
            · rename_i hc
              cases h
              exact op_rows hL ho hp hsl hz hf hd hc.1 hc.2.1 hc.2.2
            · cases h
      · cases h
  · split at h
    · rename_i p n b hx hc
      split at h
      · rename_i cs hr
        obtain ⟨x, hv, he⟩ := Option.map_eq_some_iff.1 h
        cases he
        exact op_load hL ho hx hc hr hv
      · cases h
    · cases h
  · split at h
    · rename_i k off x n b hp hx hc
      split at h
      · rename_i cs l hcs hb
        split at h
        · rename_i hcond
          cases h
          exact op_store hL ho hp hx hc hcs hb hcond.1 hcond.2
        · cases h
      · cases h
    · rename_i k sz i j x n b hp hx hc
      split at h
      · rename_i cs e sz' xs hcs hb
        split at h
        · rename_i ss y hss hy
          split at h
          · rename_i hcond
            obtain ⟨h1, h2, rfl⟩ := hcond
            cases h
            exact op_storeR hL ho hp hx hc hcs hss hb hy h1 h2
          · cases h
        · cases h
      · cases h
    · cases h
  · split at h
    · rename_i hx; cases h; exact op_nil ho hx rfl
    · rename_i hx; cases h; exact op_nil ho hx rfl
    · rename_i hx; cases h; exact op_nil ho hx rfl
    · cases h
  · split at h
    · rename_i p l hx hl
      split at h
      · rename_i q n hf
        split at h
        · cases h
        · rename_i hn
          obtain ⟨x, hv, he⟩ := Option.map_eq_some_iff.1 h
          cases he
          exact op_field hL ho hx hl hf hn hv
      · cases h
    · cases h
  · split at h
    · rename_i p k i e n hx hi hl
      split at h
      · rename_i h0
        obtain ⟨x, hv, he⟩ := Option.map_eq_some_iff.1 h
        cases he
        exact op_index hL ho hx hi hl h0 hv
      · cases h
    · rename_i q off k i hx hi hsl
      split at h
      · rename_i n e ha
        split at h
        · rename_i h0
          cases h
          exact op_indexArr hL ho hx hi ha h0
        · cases h
      · cases h
    · cases h
  · split at h
    · rename_i s k i hx hi
      split at h
      · rename_i hc
        obtain ⟨c, hv, he⟩ := Option.map_eq_some_iff.1 h
        cases he
        exact op_char hL ho hx hi hc.1 hc.2 hv
      · cases h
    · cases h
  · split at h
    · rename_i s hx
      split at h
      · rename_i hst
        obtain ⟨r, hv, he⟩ := Option.map_eq_some_iff.1 h
        cases he
        exact evCut_sound hL ho hx hst hv
      · cases h
    · rename_i k sz q n c hx
      split at h
      · rename_i e s l h' hl h1 h2
        split at h
        · rename_i hc
          obtain ⟨rfl, h3, h4⟩ := hc
          cases h
          exact op_cutW hL ho hx hl (bd_sound h1) (bd_sound h2) h3 h4
        · cases h
      · cases h
    · rename_i xs hx
      split at h
      · rename_i e s l h' hl h1 h2
        split at h
        · rename_i hc
          obtain ⟨h0, h3, h4⟩ := hc
          cases h
          exact op_cutL hL ho hx hl (bd_sound h1) (bd_sound h2) h3 h4 fun y hy => by
            have := List.all_eq_true.1 h0 y hy
            simpa using this
        · cases h
      · cases h
    · cases h
  · split at h
    · rename_i k1 n k2 c e sz hx hy hl
      split at h
      · rename_i b zs hb hz
        split at h
        · rename_i hc
          obtain ⟨h1, h2, h3, h4, h5⟩ := hc
          cases h
          have en : n = ((n.toNat : Nat) : Int) := by omega
          have ec : c = ((c.toNat : Nat) : Int) := by omega
          rw [en] at hx
          rw [ec] at hy
          exact op_makeS hL ho hx hy hl hb hz h1 (by omega) (by omega) h5
        · cases h
      · cases h
    · cases h
  · split at h
    · rename_i h1 h2
      cases h
      have h0 := toList_nil h1
      subst h0
      exact op_fn ho h2
    · cases h
  · split at h
    · rename_i s hx
      split at h
      · rename_i hst
        cases h
        exact op_range hL ho hx hst
      · cases h
    · cases h
  · split at h
    · rename_i k hx
      split at h
      · rename_i s p hb
        have := op_next ho hx hb (P := P)
        split at h
        · rename_i hp
          cases h
          rw [if_pos hp, if_pos hp] at this
          exact this
        · rename_i hp
          cases h
          rw [if_neg hp, if_neg hp] at this
          exact this
      · cases h
    · cases h
  · exact evCall_sound hL ho h
  · cases h
end

/-- Operations in line that make no call. -/
def run (L : Lay) (ops : Array Oper) : List Oper → List V → List Bx → Option (List V × List Bx)
  | [], ts, bs => some (ts, bs)
  | o :: r, ts, bs => match wantV ops o ts with
    | some true => match ev L o.op ts bs with
      | some (v, bs') => run L ops r (putV o.dst v ts) bs'
      | none => none
    | some false => run L ops r (putV o.dst (.tup []) ts) bs
    | none => none

section
variable {P : Program} {m : Nat} {L : Lay} {N : List V → List Bx → Prop} {Q : Ex → List V → List Bx → Prop}

theorem run_sound (hL : LayOk P L) {ops : Array Oper} {rest : List Oper} : ∀ (l : List Oper) (ts : List V) (bs : List Bx) ts' bs', run L ops l ts bs = some (ts', bs') → Ops P ops N rest ts' bs' → Ops P ops N (l ++ rest) ts bs
  | [], ts, bs, ts', bs', h, hN => by
    cases h
    exact hN
  | o :: r, ts, bs, ts', bs', h, hN => by
    unfold run at h
    split at h
    · rename_i hw
      split at h
      · rename_i v bs1 he
        refine ⟨true, hw, fun _ => (ev_sound hL he).mono ?_, fun h => (by cases h)⟩
        rintro _ _ ⟨rfl, rfl⟩
        exact run_sound hL r _ _ _ _ h hN
      · cases h
    · rename_i hw
      exact ⟨false, hw, fun h => (by cases h), fun _ => run_sound hL r _ _ _ _ h hN⟩
    · cases h

theorem Ok.run (hL : LayOk P L) {id : Nat} {l : List Oper} {ts : List V} {bs : List Bx} {ts' : List V} {bs' : List Bx} (h : run L l.toArray l ts bs = some (ts', bs')) (hQ : Q .normal ts' bs') : Ok P m (.region id l.toArray false) Q ts bs :=
  Ok.region (by have := run_sound (P := P) (N := Q .normal) hL (rest := []) l ts bs ts' bs' h hQ; rwa [List.append_nil] at this)
end

end Go.Proofs.YtiefcnghjcafbaaDoorV
