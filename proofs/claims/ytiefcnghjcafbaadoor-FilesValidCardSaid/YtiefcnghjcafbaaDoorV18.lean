/- The calculus of values, eighteenth text: code computed. -/
import Derived.Test.YtiefcnghjcafbaaDoorW5
namespace Go.Proofs.YtiefcnghjcafbaaDoorV
open Go Go.RowKit

abbrev Out := Option (Ex × List V × List Bx)

def inRange (ops : List Oper) (n : Nat) : Bool := ops.all fun o => match o.dst with | none => true | some t => decide (t < n)

/-- A call of a function whose code is at hand: what it returns, made fast. -/
def calmX (L : Lay) (F : FuncId → Option Func) (ex : CallT → Code → List V → List Bx → Out) (C : CallT) (f : FuncId) (vs : List V) : Option V := match F f with
  | none => none
  | some fn => match fn.body with
    | none => none
    | some c => if vs.all clean = true then match ex C c (vs ++ List.replicate (fn.ntmps - vs.length) (V.tup [])) [] with
      | some (.exit _, _, _) => none
      | some (_, ts', bs') => match resV L ts' bs' fn.results.toList with
        | some l => if clean (fr bs' (resOf l)) = true then some (fr bs' (resOf l)) else none
        | none => none
      | none => none
      else none

def ups : List V → Option (List S)
  | [] => some []
  | .val v :: r => (ups r).map (S.val v :: ·)
  | .sl xs :: r => (ups r).map (S.sl xs :: ·)
  | _ => none
theorem ups_up : ∀ {cs : List V} {l : List S}, ups cs = some l → cs = l.map S.up
  | [], l, h => by cases h; rfl
  | x :: r, l, h => by
    cases x with
    | val v =>
      obtain ⟨l', h1, rfl⟩ := Option.map_eq_some_iff.1 h
      rw [ups_up h1]
      rfl
    | sl xs =>
      obtain ⟨l', h1, rfl⟩ := Option.map_eq_some_iff.1 h
      rw [ups_up h1]
      rfl
    | _ => cases h

/-- A call that hands over a new array. -/
def growX (L : Lay) (F : FuncId → Option Func) (ex : CallT → Code → List V → List Bx → Out) (C : CallT) (f : FuncId) (vs : List V) : Option ((Nat × Nat × Nat × Nat) × List S) := match F f with
  | none => none
  | some fn => match fn.body with
    | none => none
    | some c => if vs.all clean = true then match ex C c (vs ++ List.replicate (fn.ntmps - vs.length) (V.tup [])) [] with
      | some (.exit _, _, _) => none
      | some (_, ts', bs') => match resV L ts' bs' fn.results.toList with
        | some l => match resOf l with
          | .win k sz q n c => match bs'[k]? with
            | some (.cells cs) => match ups cs with
              | some l => some ((sz, q, n, c), l)
              | none => none
            | _ => none
          | _ => none
        | none => none
      | none => none
      else none

/-- A call of a function whose code is at hand. -/
def callX (L : Lay) (G H : FuncId → Bool) (F : FuncId → Option Func) (ex : CallT → Code → List V → List Bx → Out) (C : CallT) : CallT := fun f vs bs => match C f vs bs with
  | some r => some r
  | none => if G f = true then (calmX L F ex C f vs).map fun v => (v, bs) else if H f = true then (growX L F ex C f vs).map fun r => (.win bs.length r.1.1 r.1.2.1 r.1.2.2.1 r.1.2.2.2, bs ++ [.cells (r.2.map S.up)]) else match F f with
    | none => none
    | some fn => match fn.body with
      | none => none
      | some c => match ex C c (vs ++ List.replicate (fn.ntmps - vs.length) (V.tup [])) bs with
        | some (.exit _, _, _) => none
        | some (_, ts', bs') => (resV L ts' bs' fn.results.toList).map fun l => (resOf l, bs')
        | none => none

def exec (L : Lay) (G H : FuncId → Bool) (F : FuncId → Option Func) (C : CallT) : Nat → Code → List V → List Bx → Out
  | 0, _, _, _ => none
  | n + 1, c, ts, bs => match c with
    | .skip => some (.normal, ts, bs)
    | .ret => some (.ret, ts, bs)
    | .exit id => some (.exit id, ts, bs)
    | .label _ => some (.normal, ts, bs)
    | .scope c => exec L G H F C n c ts bs
    | .seq x y => match exec L G H F C n x ts bs with
      | some (.normal, ts', bs') => exec L G H F C n y ts' bs'
      | r => r
    | .cond p x y => match evO ts p with
      | some (.val (.bool true)) => exec L G H F C n x ts bs
      | some (.val (.bool false)) => exec L G H F C n y ts bs
      | _ => none
    | .block id c => match exec L G H F C n c ts bs with
      | some (.exit id', ts', bs') => if id' = id then some (.normal, ts', bs') else some (.exit id', ts', bs')
      | r => r
    | .loop c => match exec L G H F C n c ts bs with
      | some (.normal, ts', bs') => exec L G H F C n (.loop c) ts' bs'
      | r => r
    | .region _ ops d => if d = false ∨ (chkD G ops = true ∧ inRange ops.toList ts.length = true) then match runX L (callX L G H F (fun C => exec L G H F C n) C) ops ops.toList ts bs with
        | some (ts', bs') => some (.normal, ts', bs')
        | none => none
      else if chkG G H ops = true ∧ inRange ops.toList ts.length = true then match runD L (callX L G H F (fun C => exec L G H F C n) C) bs ops ops.toList ts bs with
        | some (ts', bs') => some (.normal, ts', bs')
        | none => none
      else none
    | _ => none

section
variable {P : Program} {m : Nat} {L : Lay} {G H : FuncId → Bool} {F : FuncId → Option Func} {C : CallT}

def Known (P : Program) (F : FuncId → Option Func) : Prop := ∀ f fn, F f = some fn → P.funcs[f]? = some fn ∧ Enters P f

def Is (e : Ex) (ts' : List V) (bs' : List Bx) : Ex → List V → List Bx → Prop := fun e2 ts2 bs2 => e2 = e ∧ ts2 = ts' ∧ bs2 = bs'

theorem calmX_good (hL : LayOk P L) (hF : Known P F) {ex : CallT → Code → List V → List Bx → Out} (h : ∀ m c ts bs e ts' bs', ex C c ts bs = some (e, ts', bs') → Ok P m c (Is e ts' bs') ts bs) {f : FuncId} {vs : List V} {v : V} (hc : calmX L F ex C f vs = some v) (bs : List Bx) :
    FnOk P f vs bs (fun r b => r = v ∧ b = bs) ∧ Enters P f := by
  unfold calmX at hc
  split at hc
  · cases hc
  · rename_i fn hfn
    obtain ⟨k1, k2⟩ := hF f fn hfn
    split at hc
    · cases hc
    · rename_i c hb
      split at hc
      · rename_i hcl
        split at hc
        · cases hc
        · rename_i e ts' bs1 hne he
          split at hc
          · rename_i l hl
            split at hc
            · rename_i hcr
              obtain rfl := Option.some.inj hc
              refine ⟨(FnOk.among (R := fun r => r = fr bs1 (resOf l)) (FnOk.of hL k1 hb ((h _ _ _ _ _ _ _ he).mono ?_)) hcl (fun r hr => by rw [hr]; exact hcr) bs), k2⟩
              rintro e2 ts2 bs2 ⟨rfl, rfl, rfl⟩
              exact ⟨fun id hid => hne id hid, l, hl, rfl⟩
            · cases hc
          · cases hc
        · cases hc
      · cases hc

theorem growX_good (hL : LayOk P L) (hF : Known P F) {ex : CallT → Code → List V → List Bx → Out} (h : ∀ m c ts bs e ts' bs', ex C c ts bs = some (e, ts', bs') → Ok P m c (Is e ts' bs') ts bs) {f : FuncId} {vs : List V} {r : (Nat × Nat × Nat × Nat) × List S} (hc : growX L F ex C f vs = some r) (bs : List Bx) :
    FnOk P f vs bs (fun v b => v = .win bs.length r.1.1 r.1.2.1 r.1.2.2.1 r.1.2.2.2 ∧ b = bs ++ [.cells (r.2.map S.up)]) ∧ Enters P f := by
  unfold growX at hc
  split at hc
  · cases hc
  · rename_i fn hfn
    obtain ⟨k1, k2⟩ := hF f fn hfn
    split at hc
    · cases hc
    · rename_i c hb
      split at hc
      · rename_i hcl
        split at hc
        · cases hc
        · rename_i e ts' bs1 hne he
          split at hc
          · rename_i l hl
            split at hc
            · rename_i k sz q n c hw
              split at hc
              · rename_i cs hcs
                split at hc
                · rename_i l2 hd
                  cases hc
                  refine ⟨FnOk.ownW (k := k) (FnOk.of hL k1 hb ((h _ _ _ _ _ _ _ he).mono ?_)) hcl bs, k2⟩
                  rintro e2 ts2 bs2 ⟨rfl, rfl, rfl⟩
                  exact ⟨fun id hid => hne id hid, l, hl, hw, by rw [hcs, ups_up hd]⟩
                · cases hc
              · cases hc
            · cases hc
          · cases hc
        · cases hc
      · cases hc

theorem callX_good (hL : LayOk P L) (hF : Known P F) (hC : Good P C) {ex : CallT → Code → List V → List Bx → Out} (h : ∀ m c ts bs e ts' bs', ex C c ts bs = some (e, ts', bs') → Ok P m c (Is e ts' bs') ts bs) : Good P (callX L G H F ex C) := by
  intro f vs bs v bs' hc
  unfold callX at hc
  split at hc
  · rename_i r hr
    obtain rfl := Option.some.inj hc
    exact hC f vs bs v bs' hr
  · split at hc
    · obtain ⟨v', hv, he⟩ := Option.map_eq_some_iff.1 hc
      cases he
      exact .inl (calmX_good hL hF h hv bs)
    split at hc
    · obtain ⟨r, hv, he⟩ := Option.map_eq_some_iff.1 hc
      cases he
      exact .inl (growX_good hL hF h hv bs)
    · split at hc
      · cases hc
      · rename_i fn hfn
        obtain ⟨k1, k2⟩ := hF f fn hfn
        split at hc
        · cases hc
        · rename_i c hb
          split at hc
          · cases hc
          · rename_i e ts' bs1 hne he
            obtain ⟨l, hl, hv⟩ := Option.map_eq_some_iff.1 hc
            cases hv
            refine .inl ⟨FnOk.of hL k1 hb ((h _ _ _ _ _ _ _ he).mono ?_), k2⟩
            rintro e2 ts2 bs2 ⟨rfl, rfl, rfl⟩
            exact ⟨fun id hid => hne id hid, l, hl, rfl, rfl⟩
          · cases hc

theorem callX_grows (hC : Calm G C) (hH : Grows H C) {ex : CallT → Code → List V → List Bx → Out} : Grows H (callX L G H F ex C) := by
  intro f vs bs v bs' hf h
  unfold callX at h
  split at h
  · rename_i r hr
    obtain rfl := Option.some.inj h
    exact hH f vs bs _ _ hf hr
  · split at h
    · obtain ⟨v', hv, he⟩ := Option.map_eq_some_iff.1 h
      cases he
      exact ⟨[], by simp⟩
    · try rw [if_pos hf] at h
      obtain ⟨r, hv, he⟩ := Option.map_eq_some_iff.1 h
      cases he
      exact ⟨_, rfl⟩

theorem callX_calm (hC : Calm G C) {ex : CallT → Code → List V → List Bx → Out} : Calm G (callX L G H F ex C) := by
  intro f vs hg
  rcases hC f vs hg with h | ⟨v, h⟩
  · cases hr : calmX L F ex C f vs with
    | none =>
      refine .inl fun bs => ?_
      unfold callX
      rw [h bs]
      simp only [if_pos hg, hr]
      rfl
    | some v =>
      refine .inr ⟨v, fun bs => ?_⟩
      unfold callX
      rw [h bs]
      simp only [if_pos hg, hr]
      rfl
  · refine .inr ⟨v, fun bs => ?_⟩
    unfold callX
    rw [h bs]

theorem exec_sound (hm : P.follows .mixedOrders = true) (hL : LayOk P L) (hF : Known P F) (hC : Good P C) (hG : Calm G C) (hH : Grows H C) : ∀ (n m : Nat) c ts bs e ts' bs', exec L G H F C n c ts bs = some (e, ts', bs') → Ok P m c (Is e ts' bs') ts bs := by
  intro n
  induction n using Nat.strongRecOn with
  | _ n ih0 =>
  cases n with
  | zero => intro m c ts bs e ts' bs' h; cases h
  | succ n =>
    have ih := ih0 n (Nat.lt_succ_self n)
    intro m c ts bs e ts' bs' h
    unfold exec at h
    split at h
    · cases h; exact Ok.skip ⟨rfl, rfl, rfl⟩
    · cases h; exact Ok.ret ⟨rfl, rfl, rfl⟩
    · cases h; exact Ok.exit ⟨rfl, rfl, rfl⟩
    · cases h; exact Ok.label ⟨rfl, rfl, rfl⟩
    · exact Ok.scope (ih _ _ _ _ _ _ _ h)
    · refine Ok.seq ?_
      split at h
      · rename_i t1 b1 hx
        refine (ih _ _ _ _ _ _ _ hx).mono ?_
        rintro _ _ _ ⟨rfl, rfl, rfl⟩
        exact ih _ _ _ _ _ _ _ h
      · rename_i hne
        refine (ih _ _ _ _ _ _ _ h).mono ?_
        rintro e2 t2 b2 ⟨rfl, rfl, rfl⟩
        cases e2 with
        | normal => exact absurd h (hne _ _)
        | exit id => exact ⟨rfl, rfl, rfl⟩
        | ret => exact ⟨rfl, rfl, rfl⟩
    · split at h
      · rename_i hp
        exact Ok.cond hp (fun _ => ih _ _ _ _ _ _ _ h) (fun h => by cases h)
      · rename_i hp
        exact Ok.cond hp (fun h => by cases h) (fun _ => ih _ _ _ _ _ _ _ h)
      · cases h
    · refine Ok.block ?_
      split at h
      · rename_i id id' t1 b1 hx
        refine (ih _ _ _ _ _ _ _ hx).mono ?_
        rintro _ _ _ ⟨rfl, rfl, rfl⟩
        unfold blk
        simp only
        split at h
        · rename_i hid
          cases h
          rw [if_pos hid]
          exact ⟨rfl, rfl, rfl⟩
        · rename_i hid
          cases h
          rw [if_neg hid]
          exact ⟨rfl, rfl, rfl⟩
      · rename_i hne
        refine (ih _ _ _ _ _ _ _ h).mono ?_
        rintro e2 t2 b2 ⟨rfl, rfl, rfl⟩
        cases e2 with
        | normal => exact ⟨rfl, rfl, rfl⟩
        | exit id => exact absurd h (hne _ _ _)
        | ret => exact ⟨rfl, rfl, rfl⟩
    · rename_i c
      refine Ok.loop (fun k ts bs => k ≤ n + 1 ∧ exec L G H F C k (.loop c) ts bs = some (e, ts', bs')) (n + 1) ⟨Nat.le_refl _, by unfold exec; exact h⟩ ?_
      rintro k ts bs ⟨hk, hx⟩
      cases k with
      | zero => cases hx
      | succ k =>
        have ihk : ∀ m c ts bs e ts' bs', exec L G H F C k c ts bs = some (e, ts', bs') → Ok P m c (Is e ts' bs') ts bs := by
          intro m0 c0 ts0 bs0 e0 ts0' bs0' h0
          exact ih0 k (by omega) _ _ _ _ _ _ _ h0
        unfold exec at hx
        simp only at hx
        split at hx
        · rename_i t1 b1 hx1
          refine (ihk _ _ _ _ _ _ _ hx1).mono ?_
          rintro _ _ _ ⟨rfl, rfl, rfl⟩
          exact ⟨k, by omega, by omega, hx⟩
        · rename_i hne
          refine (ihk _ _ _ _ _ _ _ hx).mono ?_
          rintro e2 t2 b2 ⟨rfl, rfl, rfl⟩
          cases e2 with
          | normal => exact absurd hx (hne _ _)
          | exit id => exact ⟨rfl, rfl, rfl⟩
          | ret => exact ⟨rfl, rfl, rfl⟩
    · rename_i id ops d
      split at h
      · rename_i hc
        split at h
        · rename_i t1 b1 hx
          cases h
          have hg := callX_good (G := G) (H := H) (ex := fun C => exec L G H F C n) hL hF hC ih
          obtain ⟨l⟩ := ops
          cases d with
          | false => exact Ok.region (runX_sound (N := Is .normal ts' bs' .normal) hL hg l _ _ _ _ hx ⟨rfl, rfl, rfl⟩)
          | true =>
            obtain ⟨h1, h2⟩ := hc.resolve_left (by simp)
            exact Ok.regionD hm hL hg (callX_calm hG) h1 h2 hx ⟨rfl, rfl, rfl⟩
        · cases h
      · rename_i hnc
        split at h
        · rename_i hc
          split at h
          · rename_i t1 b1 hx
            cases h
            have hg := callX_good (G := G) (H := H) (ex := fun C => exec L G H F C n) hL hF hC ih
            obtain ⟨l⟩ := ops
            cases d with
            | false => exact absurd (.inl rfl) hnc
            | true => exact Ok.regionG hm hL hg (callX_calm hG) (callX_grows hG hH) hc.1 hc.2 hx ⟨rfl, rfl, rfl⟩
          · cases h
        · cases h
    · cases h

theorem exec_at {Q : Ex → List V → List Bx → Prop} (hm : P.follows .mixedOrders = true) (hL : LayOk P L) (hF : Known P F) (hC : Good P C) (hG : Calm G C) (hH : Grows H C) (n : Nat) {c : Code} {ts : List V} {bs : List Bx} {e : Ex} {ts' : List V} {bs' : List Bx}
    (h : exec L G H F C n c ts bs = some (e, ts', bs')) (hQ : Q e ts' bs') : Ok P m c Q ts bs :=
  (exec_sound hm hL hF hC hG hH n m c ts bs e ts' bs' h).mono fun _ _ _ ⟨h1, h2, h3⟩ => by subst h1 h2 h3; exact hQ

/-- A call computed. -/
theorem callX_sound (hm : P.follows .mixedOrders = true) (hL : LayOk P L) (hF : Known P F) (hC : Good P C) (hG : Calm G C) (hH : Grows H C) (n : Nat) : Good P (callX L G H F (fun C => exec L G H F C n) C) :=
  callX_good (G := G) (H := H) (ex := fun C => exec L G H F C n) hL hF hC (exec_sound hm hL hF hC hG hH n)
end

end Go.Proofs.YtiefcnghjcafbaaDoorV
