/- The calculus of values, ninth text: calls, regions, functions. -/
import Derived.Shelf.Abstract
import Derived.Test.YtiefcnghjcafbaaDoorV7
namespace Go.Proofs.YtiefcnghjcafbaaDoorV
open Go Go.RowKit

section
variable {P : Program} {m : Nat} {L : Lay} {Q : Ex → List V → List Bx → Prop} {N : List V → List Bx → Prop} {ts : List V} {bs : List Bx} {o : Oper}

def evOs (ts : List V) : List Operand → Option (List V)
  | [] => some []
  | x :: r => match evO ts x, evOs ts r with
    | some v, some l => some (v :: l)
    | _, _ => none

theorem evOs_sound {ok : Nat → Prop} {w : World} {φ : List Value} {a : Act} (ht : Tm ok w φ ts a) : ∀ {os : List Operand} {vs : List V}, evOs ts os = some vs → RVs ok w φ vs (os.map a.eval).toArray
  | [], vs, h => by
    obtain rfl := Option.some.inj h
    exact ⟨rfl, fun i c hc => by simp at hc⟩
  | x :: r, vs, h => by
    unfold evOs at h
    split at h
    · rename_i v l h1 h2
      obtain rfl := Option.some.inj h
      obtain ⟨k1, k2⟩ := evOs_sound ht h2
      refine ⟨by simpa using k1, fun i c hc => ?_⟩
      cases i with
      | zero =>
        obtain rfl : v = c := by simpa using hc
        simpa [Array.getD] using evO_sound ht h1
      | succ i =>
        have := k2 i c (by simpa using hc)
        simpa [Array.getD_eq_getD_getElem?] using this
    · cases h

/-- A call of a Go function. -/
theorem op_call {f0 : Operand} {args : Array Operand} {tys : Array TypeId} {f : FuncId} {vs : List V} {R : V → List Bx → Prop} (ho : o.op = .call { callee := .value f0, args := args, argTypes := tys }) (hf : evO ts f0 = some (.fn f [])) (hen : Enters P f)
    (hv : evOs ts args.toList = some vs) (h : FnOk P f vs bs R) : OpOk P o (fun ts' bs' => ∃ r, R r bs' ∧ ts' = putV o.dst r ts) ts bs := by
  intro T φ w a hs ht K Qx hK
  have h1 := evO_sound ht hf
  have h2 := evOs_sound ht hv
  generalize he : a.eval f0 = u at h1
  cases h1 with
  | fn f cap arr hl hc =>
    have harr : arr = #[] := by
      have : arr.size = 0 := by simpa using hl.symm
      exact Array.eq_empty_of_size_eq_zero this
    subst harr
    unfold Oper.wp
    have hr : (execOp a.eval o).run P w = .ok (.enter f (args.toList.map a.eval).toArray) w := by
      have hen' := hen (args.map a.eval) w
      have hm : (args.toList.map a.eval).toArray = args.map a.eval := by apply Array.toList_inj.1; simp
      rw [hm]
      simp [execOp, ho, resolve, he, Deferred.ofValue, invoke, hen']
    rw [hr]
    refine (h T φ w _ hs h2).mono ?_
    rintro e w' ⟨v, r, bs', φ', rfl, q, hx, hs', hv'⟩
    exact hK _ _ _ _ _ ⟨r, q, rfl⟩ hx hs' ((ht.ext hx).put hv' _)

/-- Is the operation wanted? -/
def wantV (ops : Array Oper) (o : Oper) (ts : List V) : Option Bool := match o.guard with
  | none => some true
  | some (j, b) => match ((ops[j]?).bind (·.dst)).bind (ts[·]?) with
    | some (.val (.bool u)) => some (u == b)
    | some (.tup _) => some false
    | _ => none

theorem wantV_sound {ok : Nat → Prop} {w : World} {φ : List Value} {a : Act} (ht : Tm ok w φ ts a) {ops : Array Oper} {u : Bool} (h : wantV ops o ts = some u) : Region.wanted o (yielded ops a.tmps) = u := by
  unfold wantV at h
  unfold Region.wanted
  split at h
  · rename_i hg
    rw [hg]
    exact Option.some.inj h
  · rename_i j b hg
    rw [hg]
    simp only
    cases hd : (ops[j]?).bind (·.dst) with
    | none => rw [hd] at h; cases h
    | some t =>
      rw [hd] at h
      simp only [Option.bind_some] at h
      unfold yielded
      rw [hd]
      simp only [Option.bind_some]
      cases hx : ts[t]? with
      | none => rw [hx] at h; cases h
      | some x =>
        rw [hx] at h
        have hlt : t < a.tmps.size := by rw [← ht.1]; exact (List.getElem?_eq_some_iff.1 hx).1
        have hr := ht.2.2 t x hx
        have hget : a.tmps[t]? = some (a.tmps.getD t Go.undef) := by simp [Array.getD, hlt]
        rw [hget]
        generalize a.tmps.getD t Go.undef = v at hr
        split at h
        · rename_i u' hu
          obtain rfl := Option.some.inj hu
          cases hr
          obtain rfl := Option.some.inj h
          simp only
          cases u' <;> cases b <;> rfl
        · rename_i vs hu
          obtain rfl := Option.some.inj hu
          cases hr
          obtain rfl := Option.some.inj h
          simp
        · cases h

/-- Operations in line. -/
def Ops (P : Program) (ops : Array Oper) (N : List V → List Bx → Prop) : List Oper → List V → List Bx → Prop
  | [], ts, bs => N ts bs
  | o :: r, ts, bs => ∃ u, wantV ops o ts = some u ∧ (u = true → OpOk P o (Ops P ops N r) ts bs) ∧ (u = false → Ops P ops N r (putV o.dst (.tup []) ts) bs)

theorem ops_sound {ops : Array Oper} : ∀ (l : List Oper) (ts : List V) (bs : List Bx), Ops P ops (Q .normal) l ts bs → ∀ (T : Nat → Prop) φ w a, Sim T bs φ w → Tm (okOf T bs φ) w φ ts a → ∀ K : Exit → Act → World → Prop,
    (∀ e ts' bs' φ' a' w', Q e ts' bs' → Ext bs φ w bs' φ' w' → Sim T bs' φ' w' → Tm (okOf T bs' φ') w' φ' ts' a' → K e.out a' w') → wpList P ops K l a w
  | [], ts, bs, h, T, φ, w, a, hs, ht, K, hK => hK .normal _ _ _ _ _ h (Ext.refl _ _ _) hs ht
  | o :: r, ts, bs, h, T, φ, w, a, hs, ht, K, hK => by
    obtain ⟨u, hu, h1, h2⟩ := h
    have hw := wantV_sound ht hu
    refine wpList_step fun K' hK' => ?_
    rw [hw]
    cases u with
    | true =>
      simp only [if_true]
      refine h1 rfl T φ w a hs ht K' K fun ts' bs' φ' a' w' q he hs' ht' => hK' _ _ ?_
      exact ops_sound r ts' bs' q T φ' w' a' hs' ht' K fun e ts2 bs2 φ2 a2 w2 q2 he2 => hK e ts2 bs2 φ2 a2 w2 q2 (he.trans he2)
    | false =>
      simp only [Bool.false_eq_true, if_false]
      exact hK' _ _ (ops_sound r _ bs (h2 rfl) T φ w _ hs (ht.put rv_skip _) K hK)

theorem Ok.region {id : Nat} {l : List Oper} (h : Ops P l.toArray (Q .normal) l ts bs) : Ok P m (.region id l.toArray false) Q ts bs :=
  fun T φ w a hs ht K hK => wp_region_lit (ops_sound l ts bs h T φ w a hs ht K fun e ts' bs' φ' a' w' q he => hK e ts' bs' φ' a' w' q he.toM)

/-! ### A function -/
def res1 (L : Lay) (ts : List V) (bs : List Bx) : ResultVar → Option V
  | .tmp t => ts[t]?
  | .cell p t => match ts[p]?, L.cel t with
    | some x, some (n, b) => match rd bs x n with
      | some cs => if b then some (.agg cs) else cs[0]?
      | none => none
    | _, _ => none

def resV (L : Lay) (ts : List V) (bs : List Bx) : List ResultVar → Option (List V)
  | [] => some []
  | x :: r => match res1 L ts bs x, resV L ts bs r with
    | some v, some l => some (v :: l)
    | _, _ => none

def resOf : List V → V
  | [v] => v
  | l => .tup l

theorem run_loadVar (hL : LayOk P L) {T : Nat → Prop} {φ : List Value} {w : World} (hs : Sim T bs φ w) {t n : Nat} {b : Bool} {p x : V} {v : Value} {cs : List V} (hp : RV (okOf T bs φ) w φ p v) (hc : L.cel t = some (n, b)) (hr : rd bs p n = some cs)
    (hx : (if b then some (.agg cs) else cs[0]?) = some x) : ∃ ad u, v = .pointer (some ad) ∧ (loadVar t ad).run P w = .ok u w ∧ RV (okOf T bs φ) w φ x u := by
  obtain ⟨hl, ad, hv, f, hf⟩ := rd_sound hs hp hr
  obtain ⟨h1, h2⟩ := run_cel hL hc w
  cases b with
  | false =>
    have hn : n = 1 := (hL.cel t n false hc).elim fun d h => h.2.2.2 rfl
    subst hn
    have hx' : cs[0]? = some x := hx
    obtain ⟨_, k1, k2⟩ := hf 0 x hx'
    refine ⟨ad, f 0, hv, ?_, k2⟩
    have k3 : w.cell? ad = some (f 0) := by simpa [Addr.add] using k1
    simp [loadVar, h1, k3, Result.andThen]
  | true =>
    obtain rfl : V.agg cs = x := by simpa using hx
    have hlc : (loadCells ad n).run P w = .ok ((List.range n).map f).toArray w := run_loadCells w ad n f fun j hj => by
      obtain ⟨_, k1, _⟩ := hf j _ (List.getElem?_eq_getElem (by omega))
      exact k1
    refine ⟨ad, .agg ((List.range n).map f).toArray, hv, ?_, .agg cs _ (by simp [hl]) (fun c hc => ?_) (fun i c hi => ?_)⟩
    · simp [loadVar, h1, h2, hlc, Result.andThen]
    · obtain ⟨j, hj⟩ := List.mem_iff_getElem?.1 hc
      exact (hf j c hj).1
    · have hin : i < n := by rw [← hl]; exact (List.getElem?_eq_some_iff.1 hi).1
      have := (hf i c hi).2.2
      simpa [Array.getD, hin] using this

theorem res_run (hL : LayOk P L) {T : Nat → Prop} {φ : List Value} {w : World} {a : Act} (hs : Sim T bs φ w) (ht : Tm (okOf T bs φ) w φ ts a) (f : ResultVar → Sem Value) (hf : ∀ u, f (.tmp u) = pure (a.tmps.getD u Go.undef)) (hc : ∀ p t, f (.cell p t) = (do loadVar t (← asAddr (a.tmps.getD p Go.undef)))) :
    ∀ (rs : List ResultVar) (l : List V), resV L ts bs rs = some l → ∃ vs, (rs.mapM f).run P w = .ok vs w ∧ RVs (okOf T bs φ) w φ l vs.toArray
  | [], l, h => by
    obtain rfl := Option.some.inj h
    exact ⟨[], by simp, rfl, fun i c hc => by simp at hc⟩
  | r :: rs, l, h => by
    unfold resV at h
    split at h
    · rename_i x l' h1 h2
      obtain rfl := Option.some.inj h
      obtain ⟨vs, k1, k2, k3⟩ := res_run hL hs ht f hf hc rs l' h2
      have hone : ∃ u, (f r).run P w = .ok u w ∧ RV (okOf T bs φ) w φ x u := by
        cases r with
        | tmp t => exact ⟨_, by rw [hf]; rfl, ht.2.2 t x h1⟩
        | cell p t =>
          simp only [res1] at h1
          cases hp : ts[p]? with
          | none => rw [hp] at h1; cases h1
          | some y =>
            rw [hp] at h1
            cases hcl : L.cel t with
            | none => rw [hcl] at h1; cases h1
            | some nb =>
              obtain ⟨n, b⟩ := nb
              rw [hcl] at h1
              change (match rd bs y n with | some cs => if b = true then some (V.agg cs) else cs[0]? | none => none) = some x at h1
              cases hrd : rd bs y n with
              | none => rw [hrd] at h1; cases h1
              | some cs =>
                rw [hrd] at h1
                obtain ⟨ad, u, hv, hl, hr⟩ := run_loadVar hL hs (ht.2.2 p y hp) hcl hrd h1
                exact ⟨u, by rw [hc, hv]; simp [asAddr, hl], hr⟩
      obtain ⟨u, q1, q2⟩ := hone
      refine ⟨u :: vs, by rw [List.mapM_cons]; simp [q1, k1, Result.andThen], by simpa using k2, fun i c hi => ?_⟩
      cases i with
      | zero =>
        obtain rfl : x = c := by simpa using hi
        simpa [Array.getD] using q2
      | succ i =>
        have := k3 i c (by simpa using hi)
        simpa [Array.getD_eq_getD_getElem?] using this
    · cases h

theorem FnOk.of {f : FuncId} {fn : Func} {c : Code} {args : List V} {R : V → List Bx → Prop} (hL : LayOk P L) (hf : P.funcs[f]? = some fn) (hb : fn.body = some c)
    (h : Ok P bs.length c (fun e ts' bs' => (∀ id, e ≠ .exit id) ∧ ∃ l, resV L ts' bs' fn.results.toList = some l ∧ R (resOf l) bs') (args ++ List.replicate (fn.ntmps - args.length) (.tup [])) bs) : FnOk P f args bs R := by
  intro T φ w vargs hs ha
  refine calls_of_wp hf hb (h T φ w _ hs ⟨by simp [ha.1], rfl, fun i c hc => ?_⟩ _ ?_)
  · rcases Nat.lt_or_ge i args.length with hi | hi
    · rw [List.getElem?_append_left hi] at hc
      have := ha.2 i c hc
      have hi2 : i < vargs.size := by rw [← ha.1]; exact hi
      simpa [Array.getD_eq_getD_getElem?, Array.getElem?_append_left hi2] using this
    · rw [List.getElem?_append_right hi] at hc
      obtain ⟨hi2, rfl⟩ := List.getElem?_eq_some_iff.1 hc
      rw [List.getElem_replicate]
      have hv : (vargs ++ Array.replicate (fn.ntmps - vargs.size) Go.undef).getD i Go.undef = Go.undef := by
        rw [Array.getD_eq_getD_getElem?, Array.getElem?_append_right (by rw [← ha.1]; exact hi)]
        simp only [Array.getElem?_replicate]
        split <;> rfl
      rw [hv]
      exact rv_skip
  · rintro e ts' bs' φ' a' w' ⟨he, l, hl, hR⟩ hxm hs' ht'
    have hx := hxm.full (by rw [hs.len]; exact Nat.le_refl _)
    have key : ∃ v, (results fn a'.tmps).run P w' = .ok v w' ∧ RV (okOf T bs' φ') w' φ' (resOf l) v := by
      obtain ⟨vs, k1, k2, k3⟩ := res_run (P := P) hL hs' ht' (fun | .tmp t => pure (a'.tmps.getD t Go.undef) | .cell p t => do loadVar t (← asAddr (a'.tmps.getD p Go.undef))) (fun _ => rfl) (fun _ _ => rfl) _ l hl
      have hrun : (results fn a'.tmps).run P w' = .ok (if h : vs.toArray.size = 1 then vs.toArray[0] else .tuple vs.toArray) w' := by
        unfold results
        rw [← Array.toArray_toList (xs := fn.results), List.mapM_toArray]
        simp only [Sem.run_bind, Sem.run_map]
        exact (congrArg (fun r : Result (List Value) => (r.andThen fun a w' => Result.ok a.toArray w').andThen fun a w' => Sem.run P (pure (if h : a.size = 1 then a[0] else Value.tuple a)) w') k1).trans rfl
      refine ⟨_, hrun, ?_⟩
      match l, vs, k2, k3 with
      | [x], [u], _, k3 =>
        have := k3 0 x rfl
        simpa [resOf, Array.getD] using this
      | [], [], _, _ => exact .tup [] _ rfl (fun i c hi => by simp at hi)
      | x :: y :: l, [], k2, _ => simp at k2
      | x :: y :: l, [u], k2, _ => simp at k2
      | x :: y :: l, u :: u2 :: vs, k2, k3 =>
        simp only [resOf]
        rw [dif_neg (by simp)]
        exact .tup _ _ k2 k3
    obtain ⟨v, h1, h2⟩ := key
    have hd := ht'.2.1
    cases e with
    | normal => exact ⟨hd, v, h1, v, _, bs', φ', rfl, hR, hx, hs', h2⟩
    | ret => exact ⟨hd, v, h1, v, _, bs', φ', rfl, hR, hx, hs', h2⟩
    | exit id => exact absurd rfl (he id)
end

end Go.Proofs.YtiefcnghjcafbaaDoorV
