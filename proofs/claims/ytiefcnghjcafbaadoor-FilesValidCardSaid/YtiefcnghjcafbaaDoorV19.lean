/- The calculus of values, nineteenth text: calls that are known, operations one by one, what an outcome returns, and a law's call from its arguments as they come. -/
import Derived.Below
import Derived.Test.YtiefcnghjcafbaaDoorV18
namespace Go.Proofs.YtiefcnghjcafbaaDoorV
open Go Go.RowKit

open Classical in
/-- Calls that are known, one by one. -/
noncomputable def Tab (l : List (FuncId × List V × V)) : CallT := fun f vs bs => (l.find? fun e => decide (e.1 = f ∧ e.2.1 = vs)).map fun e => (e.2.2, bs)

theorem Tab_good {P : Program} {l : List (FuncId × List V × V)} (h : ∀ e ∈ l, (∀ bs, FnOk P e.1 e.2.1 bs (fun r b => r = e.2.2 ∧ b = bs)) ∧ Enters P e.1) : Good P (Tab l) := by
  intro f vs bs v bs' hc
  obtain ⟨e, he, hv⟩ := Option.map_eq_some_iff.1 hc
  cases hv
  have h1 := List.find?_some he
  simp only [decide_eq_true_eq] at h1
  obtain ⟨rfl, rfl⟩ := h1
  obtain ⟨k1, k2⟩ := h e (List.mem_of_find?_eq_some he)
  exact .inl ⟨k1 bs, k2⟩
theorem Tab_calm {l : List (FuncId × List V × V)} {G : FuncId → Bool} : Calm G (Tab l) := by
  intro f vs _
  unfold Tab
  generalize List.find? _ l = q
  cases q with
  | none => exact .inl fun _ => rfl
  | some e => exact .inr ⟨e.2.2, fun _ => rfl⟩
theorem Tab_grows {l : List (FuncId × List V × V)} {H : FuncId → Bool} : Grows H (Tab l) := by
  intro f vs bs v bs' _ h
  obtain ⟨e, _, hv⟩ := Option.map_eq_some_iff.1 h
  cases hv
  exact ⟨[], by simp⟩
theorem Tab_hit {l : List (FuncId × List V × V)} {f : FuncId} {vs : List V} {r : V} {bs : List Bx} : Tab ((f, vs, r) :: l) f vs bs = some (r, bs) := by simp [Tab]
theorem Tab_skip {l : List (FuncId × List V × V)} {f g : FuncId} {vs us : List V} {r : V} {bs : List Bx} (h : g ≠ f) : Tab ((g, us, r) :: l) f vs bs = Tab l f vs bs := by simp [Tab, h]
/-- A fact for the table. -/
theorem fact {P : Program} {f : FuncId} {vs : List V} {r : V} (h : FnOk P f vs [] fun x bs' => fr bs' x = r) (hc : vs.all clean = true) (hr : clean r = true) (he : Enters P f) : (∀ bs, FnOk P f vs bs (fun x b => x = r ∧ b = bs)) ∧ Enters P f :=
  ⟨fun bs => FnOk.among (R := fun x => x = r) h hc (fun x hx => by rw [hx]; exact hr) bs, he⟩

def Wp (L : Lay) (C : CallT) (ops : Array Oper) (N : List V → List Bx → Prop) (l : List Oper) (ts : List V) (bs : List Bx) : Prop := ∃ ts' bs', runX L C ops l ts bs = some (ts', bs') ∧ N ts' bs'
section
variable {L : Lay} {C : CallT} {ops : Array Oper} {N : List V → List Bx → Prop} {o : Oper} {r : List Oper} {ts : List V} {bs : List Bx}
theorem wnil (h : N ts bs) : Wp L C ops N [] ts bs := ⟨ts, bs, rfl, h⟩
theorem wstep {v : V} {bs1 : List Bx} (h1 : wantV ops o ts = some true) (h2 : evX L C o.op ts bs = some (v, bs1)) (h : Wp L C ops N r (putV o.dst v ts) bs1) : Wp L C ops N (o :: r) ts bs := by
  obtain ⟨ts', bs', h3, h4⟩ := h
  exact ⟨ts', bs', by rw [runX_cons, h1]; simp only; rw [h2]; exact h3, h4⟩
theorem wskip (h1 : wantV ops o ts = some false) (h : Wp L C ops N r (putV o.dst (.tup []) ts) bs) : Wp L C ops N (o :: r) ts bs := by
  obtain ⟨ts', bs', h3, h4⟩ := h
  exact ⟨ts', bs', by rw [runX_cons, h1]; exact h3, h4⟩
theorem Ok.regionW {P : Program} {m : Nat} {G : FuncId → Bool} {Q : Ex → List V → List Bx → Prop} (hm : P.follows .mixedOrders = true) (hL : LayOk P L) (hC : Good P C) (hG : Calm G C) {id : Nat} {l : List Oper} {d : Bool} (hc : d = false ∨ (chkD G l.toArray = true ∧ inRange l ts.length = true)) (h : Wp L C l.toArray (Q .normal) l ts bs) : Ok P m (.region id l.toArray d) Q ts bs := by
  obtain ⟨ts', bs', h3, h4⟩ := h
  cases d with
  | false => exact Ok.region (runX_sound hL hC l ts bs ts' bs' h3 h4)
  | true =>
    obtain ⟨h1, h2⟩ := hc.resolve_left (by simp)
    exact Ok.regionD hm hL hC hG h1 h2 h3 h4
end

/-- What an outcome returns, made fast. -/
def outR (L : Lay) (fn : Func) : Out → Option V
  | some (.exit _, _, _) => none
  | some (_, ts', bs') => (resV L ts' bs' fn.results.toList).map fun l => fr bs' (resOf l)
  | none => none

def Ret (L : Lay) (fn : Func) (Q : V → Prop) : Ex → List V → List Bx → Prop := fun e ts' bs' => (∀ id, e ≠ .exit id) ∧ ∃ l, resV L ts' bs' fn.results.toList = some l ∧ Q (fr bs' (resOf l))

theorem exec_out {P : Program} {m : Nat} {L : Lay} {G H : FuncId → Bool} {F : FuncId → Option Func} {C : CallT} (hm : P.follows .mixedOrders = true) (hL : LayOk P L) (hF : Known P F) (hC : Good P C) (hG : Calm G C) (hH : Grows H C) (n : Nat) {Q : V → Prop} {fn : Func} {c : Code} {ts : List V} {bs : List Bx} {r : V}
    (h : outR L fn (exec L G H F C n c ts bs) = some r) (hQ : Q r) : Ok P m c (Ret L fn Q) ts bs := by
  cases he : exec L G H F C n c ts bs with
  | none => rw [he] at h; cases h
  | some q =>
    obtain ⟨e, ts', bs'⟩ := q
    rw [he] at h
    refine exec_at hm hL hF hC hG hH n he ?_
    cases e with
    | exit id => cases h
    | normal =>
      obtain ⟨l, hl, rfl⟩ := Option.map_eq_some_iff.1 h
      exact ⟨fun _ h => (by cases h), l, hl, hQ⟩
    | ret =>
      obtain ⟨l, hl, rfl⟩ := Option.map_eq_some_iff.1 h
      exact ⟨fun _ h => (by cases h), l, hl, hQ⟩

theorem FnOk.fast {P : Program} {L : Lay} {f : FuncId} {fn : Func} {c : Code} {args : List V} {bs : List Bx} {Q : V → Prop} (hL : LayOk P L) (hf : P.funcs[f]? = some fn) (hb : fn.body = some c)
    (h : Ok P bs.length c (Ret L fn Q) (args ++ List.replicate (fn.ntmps - args.length) (.tup [])) bs) : FnOk P f args bs fun r bs' => Q (fr bs' r) := FnOk.of hL hf hb h

theorem val_fr {bs : List Bx} {x : V} {v : Value} (h : fr bs x = .val v) : x = .val v := by
  cases x with
  | row k =>
    rcases frA_row bs k with ⟨xs, e⟩ | e
    · have : frA bs (.row k) = .val v := h
      rw [e] at this
      cases this
    · have : frA bs (.row k) = .val v := h
      rw [e] at this
      cases this
  | win k sz o n c =>
    rcases frA_win bs k sz o n c with ⟨xs, e⟩ | e
    · have : frA bs (.win k sz o n c) = .val v := h
      rw [e] at this
      cases this
    · have : frA bs (.win k sz o n c) = .val v := h
      rw [e] at this
      cases this
  | agg cs => cases h
  | tup cs => cases h
  | nils => cases h
  | _ => exact h

/-- A law's call, from its arguments as they come. -/
theorem law_call {P : Program} {f : FuncId} {args : List V} (h : FnOk P f args [] fun r _ => r = .val (.bool true)) {w : World} {vargs : Array Value} (ha : RVs (fun _ => True) w [] args vargs) :
    Calls P f vargs w fun e w' => e = .returned (.bool true) ∧ Below w.heap.size w w' := by
  have hs : Sim (fun _ => False) [] [] w := ⟨fun k k' b b' v v' g h => by simp at h, fun g h => absurd h mine_nil, fun g h => h.elim, rfl, fun k b h => by simp at h⟩
  refine (h (fun _ => False) [] w vargs hs ⟨ha.1, fun i c hi => (ha.2 i c hi).okm fun g _ _ => ⟨fun h => h, mine_nil⟩⟩).mono ?_
  rintro e w' ⟨v, r, bs', φ', rfl, rfl, he, _, hr⟩
  obtain rfl := RV.bool_of hr
  exact ⟨rfl, he.os, he.tape, he.output, he.size, fun g hg => he.keep g hg mine_nil⟩

/-- The calls of functions that the model knows by itself. -/
def extC (X : FuncId → Option Ext2) : CallT := fun f vs bs => match X f with
  | none => none
  | some k => (extR k vs).map fun v => (v, bs)
theorem extC_good {P : Program} {X : FuncId → Option Ext2} (h : ∀ f k, X f = some k → ExtFn P f k) : Good P (extC X) := by
  intro f vs bs v bs' hc
  unfold extC at hc
  split at hc
  · cases hc
  · rename_i k hk
    obtain ⟨r, hr, he⟩ := Option.map_eq_some_iff.1 hc
    cases he
    exact .inr ⟨rfl, extR_sound (h f k hk) hr⟩
theorem extC_grows {X : FuncId → Option Ext2} {H : FuncId → Bool} : Grows H (extC X) := by
  intro f vs bs v bs' _ h
  unfold extC at h
  split at h
  · cases h
  · obtain ⟨e, _, hv⟩ := Option.map_eq_some_iff.1 h
    cases hv
    exact ⟨[], by simp⟩
theorem extC_calm {X : FuncId → Option Ext2} {G : FuncId → Bool} : Calm G (extC X) := by
  intro f vs _
  unfold extC
  cases X f with
  | none => exact .inl fun _ => rfl
  | some k =>
    simp only
    cases extR k vs with
    | none => exact .inl fun _ => rfl
    | some v => exact .inr ⟨v, fun _ => rfl⟩

end Go.Proofs.YtiefcnghjcafbaaDoorV
