/- The calculus of values: smallest numbers; calls of functions that the model knows by itself. -/
import Derived.Laws.Externs
import Derived.Lib.Bytealg
import Derived.Test.YtiefcnghjcafbaaDoorW2
namespace Go.Proofs.YtiefcnghjcafbaaDoorV
open Go Go.RowKit

section
variable {P : Program} {L : Lay} {ts : List V} {bs : List Bx} {o : Oper}

theorem op_min {x0 y0 : Operand} {tys : Array TypeId} {k k' : IntKind} {a b : Int} (ho : o.op = .call { callee := .builtin .min, args := #[x0, y0], argTypes := tys }) (hx : evO ts x0 = some (.val (.int k a))) (hy : evO ts y0 = some (.val (.int k' b))) :
    OpOk P o (fun ts' bs' => ts' = putV o.dst (.val (.int k (if b < a then b else a))) ts ∧ bs' = bs) ts bs := by
  refine OpOk.value fun T φ w a' hs ht => ⟨_, ?_, .val _ rfl⟩
  have h1 := RV.bool_of (evO_sound ht hx)
  have h2 := RV.bool_of (evO_sound ht hy)
  simp [execOp, ho, resolve, h1, h2, invoke, builtin, Builtin.min_, Builtin.min2, Result.andThen]

/-- Shifts. -/
def evS (op : BinOp) : Value → Value → Option Value
  | .int k a, .int _ b => match op with
    | .shr => if b < 0 then none else some (.int k (a.fdiv (2 ^ (min b.toNat k.bits))))
    | .shl => if b < 0 then none else some (.int k (k.wrap (a * 2 ^ (min b.toNat k.bits))))
    | _ => none
  | _, _ => none
theorem op_shift {op : BinOp} {t t' : TypeId} {x0 y0 : Operand} {x y v : Value} (ho : o.op = .binOp op t x0 y0 t') (hx : evO ts x0 = some (.val x)) (hy : evO ts y0 = some (.val y)) (h : evS op x y = some v) :
    OpOk P o (fun ts' bs' => ts' = putV o.dst (.val v) ts ∧ bs' = bs) ts bs := by
  unfold evS at h
  split at h
  · rename_i k a k' b
    split at h
    · split at h
      · cases h
      · rename_i hb
        obtain rfl := Option.some.inj h
        refine OpOk.value fun T φ w a' hs ht => ⟨_, ?_, .val _ rfl⟩
        have h1 := RV.bool_of (evO_sound ht hx)
        have h2 := RV.bool_of (evO_sound ht hy)
        simp [execOp, ho, h1, h2, eqGuard, binOp, Op.shift, hb]
    · split at h
      · cases h
      · rename_i hb
        obtain rfl := Option.some.inj h
        refine OpOk.value fun T φ w a' hs ht => ⟨_, ?_, .val _ rfl⟩
        have h1 := RV.bool_of (evO_sound ht hx)
        have h2 := RV.bool_of (evO_sound ht hy)
        simp [execOp, ho, h1, h2, eqGuard, binOp, Op.shift, hb]
    · cases h
  · cases h

/-- What a function that the model knows by itself yields. -/
def ExtOk (P : Program) (f : FuncId) (vs : List V) (v : V) : Prop := ∀ (ok : Nat → Prop) (w : World) (φ : List Value) vargs, RVs ok w φ vs vargs → ∃ u, (callFunc f vargs).run P w = .ok (.value u) w ∧ RV ok w φ v u

theorem op_callE {f0 : Operand} {args : Array Operand} {tys : Array TypeId} {f : FuncId} {vs cap : List V} {v : V} (ho : o.op = .call { callee := .value f0, args := args, argTypes := tys }) (hf : evO ts f0 = some (.fn f cap)) (hv : evOs ts args.toList = some vs) (h : ExtOk P f (vs ++ cap) v) :
    OpOk P o (fun ts' bs' => ts' = putV o.dst v ts ∧ bs' = bs) ts bs := by
  refine OpOk.value fun T φ w a hs ht => ?_
  have h1 := evO_sound ht hf
  have h2 := evOs_sound ht hv
  generalize he : a.eval f0 = u at h1
  cases h1 with
  | fn f cap arr hl hc =>
    have hm : (args.toList.map a.eval).toArray = args.map a.eval := by apply Array.toList_inj.1; simp
    rw [hm] at h2
    have h3 : RVs (okOf T bs φ) w φ (vs ++ cap) (args.map a.eval ++ arr) := by
      obtain ⟨k1, k2⟩ := h2
      refine ⟨by simp only [List.length_append, Array.size_append]; omega, fun i c hi => ?_⟩
      rcases Nat.lt_or_ge i vs.length with hlt | hge
      · rw [List.getElem?_append_left hlt] at hi
        have := k2 i c hi
        rwa [Array.getD_eq_getD_getElem?, Array.getElem?_append_left (by omega), ← Array.getD_eq_getD_getElem?]
      · rw [List.getElem?_append_right hge] at hi
        have := hc _ c hi
        rwa [Array.getD_eq_getD_getElem?, Array.getElem?_append_right (by omega), ← k1, ← Array.getD_eq_getD_getElem?]
    obtain ⟨u, hu, hr⟩ := h _ _ _ _ h3
    exact ⟨u, by simp [execOp, ho, resolve, he, Deferred.ofValue, invoke, hu], hr⟩

theorem ext_two {f : FuncId} {x y : Value} {v : Value} (hv : scalar v = true) (h : ∀ w, (callFunc f #[x, y]).run P w = .ok (.value v) w) : ExtOk P f [.val x, .val y] (.val v) := by
  intro ok w φ vargs hr
  obtain ⟨k1, k2⟩ := hr
  have e1 := RV.bool_of (k2 0 _ rfl)
  have e2 := RV.bool_of (k2 1 _ rfl)
  have : vargs = #[x, y] := by
    apply Array.ext
    · simpa using k1.symm
    · intro i h1 h2
      have h2 : i < 2 := by simpa using h2
      rcases i with _ | _ | i
      · simpa [Array.getD, h1] using e1
      · simpa [Array.getD, h1] using e2
      · omega
  subst this
  exact ⟨v, h w, .val v hv⟩

/-- Functions on bytes that the model knows by itself. -/
inductive Ext2 where
  | idx
  | cnt

def extR : Ext2 → List V → Option V
  | .idx, [.val (.string s), .val (.int .u8 c)] => some (.val (.int .i64 (firstIdx s c.toNat.toUInt8)))
  | .cnt, [.val (.string s), .val (.int .u8 c)] => some (.val (.int .i64 (Lib.countByte s.data.toList c.toNat.toUInt8)))
  | _, _ => none

def ExtFn (P : Program) (f : FuncId) : Ext2 → Prop
  | .idx => ∀ args w, (callFunc f args).run P w = ((Extern.BytealgIndexByte.indexByte args).run P w).andThen fun v w' => .ok (.value v) w'
  | .cnt => ∀ args w, (callFunc f args).run P w = ((Extern.BytealgCount.count args).run P w).andThen fun v w' => .ok (.value v) w'

theorem extR_sound {f : FuncId} {k : Ext2} {vs : List V} {v : V} (hf : ExtFn P f k) (h : extR k vs = some v) : ExtOk P f vs v := by
  unfold extR at h
  split at h
  · obtain rfl := Option.some.inj h
    exact ext_two rfl fun w => by rw [hf, run_indexByte_string]; rfl
  · obtain rfl := Option.some.inj h
    exact ext_two rfl fun w => by rw [hf, Lib.run_countString]; rfl
  · cases h
end

end Go.Proofs.YtiefcnghjcafbaaDoorV
