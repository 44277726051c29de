/- The calculus of values, twenty-first text: a nil slice seen as an empty slice of one's own. -/
import Derived.Test.YtiefcnghjcafbaaDoorV20
namespace Go.Proofs.YtiefcnghjcafbaaDoorV
open Go Go.RowKit

section
variable {T : Nat → Prop} {bs : List Bx} {φ : List Value} {w : World}

theorem nil_push (hs : Sim T bs φ w) (e sz : Nat) : Ext bs φ w (bs ++ [.row e sz []]) (φ ++ [.slice none 0 0]) w ∧ Sim T (bs ++ [.row e sz []]) (φ ++ [.slice none 0 0]) w := by
  have hw : Below w.heap.size w w := ⟨rfl, rfl, rfl, Nat.le_refl _, fun _ _ => rfl⟩
  have hn : ∀ g, blkOf (.slice none 0 0) = some g → w.heap.size ≤ g := fun g hg => by cases hg
  exact ⟨ext_push hs hw hn, hs.push hw hn fun _ => ⟨fun x hx => (by cases hx), [], ⟨by simp, .inl ⟨rfl, rfl⟩⟩, fun i x j y hi _ => (by simp at hi)⟩⟩

theorem Ok.nilT {P : Program} {m : Nat} {c : Code} {Q : Ex → List V → List Bx → Prop} {ts : List V} (i e sz : Nat) (hi : ts[i]? = some .nils) (h : Ok P m c Q (ts.set i (.row bs.length)) (bs ++ [.row e sz []])) : Ok P m c Q ts bs := by
  intro T φ w a hs ht K hK
  obtain ⟨he, hs'⟩ := nil_push hs e sz
  refine h T _ w a hs' ?_ K fun e ts' bs' φ' a' w' q hx => hK e ts' bs' φ' a' w' q (he.toM.trans hx)
  have ht' := ht.ext he
  refine ⟨by simpa using ht'.1, ht'.2.1, fun j c hc => ?_⟩
  by_cases hij : i = j
  · subst hij
    have hl : i < ts.length := (List.getElem?_eq_some_iff.1 hi).1
    rw [List.getElem?_set_self hl] at hc
    obtain rfl := Option.some.inj hc
    have hv := ht.2.2 i _ hi
    generalize a.tmps.getD i Go.undef = v at hv
    cases hv with
    | nils => exact .row _ none 0 0 (by rw [← hs.len]; simp)
  · rw [List.getElem?_set_ne hij] at hc
    exact ht'.2.2 j c hc

theorem Ok.nilC {P : Program} {m : Nat} {c : Code} {Q : Ex → List V → List Bx → Prop} {ts : List V} (k j e sz : Nat) {cs : List V} (hb : bs[k]? = some (.cells cs)) (hj : cs[j]? = some .nils) (h : Ok P m c Q ts (bs.set k (.cells (cs.set j (.row bs.length))) ++ [.row e sz []])) : Ok P m c Q ts bs := by
  intro T φ w a hs ht K hK
  obtain ⟨he, hs'⟩ := nil_push hs e sz
  have hk : k < bs.length := (List.getElem?_eq_some_iff.1 hb).1
  have hb1 : (bs ++ [.row e sz []])[k]? = some (.cells cs) := get_app hb
  obtain ⟨v, hv, ho⟩ := hs'.box k _ hb1
  have he2 := ext_set (w' := w) (b' := .cells (cs.set j (.row bs.length))) hb1 rfl hv rfl rfl rfl (Nat.le_refl _) (fun _ _ _ => rfl)
  have hset : (bs ++ [Bx.row e sz []]).set k (.cells (cs.set j (.row bs.length))) = bs.set k (.cells (cs.set j (.row bs.length))) ++ [Bx.row e sz []] := by
    rw [List.set_append_left _ _ hk]
  have hs2 := hs'.put hb1 rfl hv he2 (fun _ _ _ => rfl) (by
    obtain ⟨g, arr, t, h1, h2, h3, h4⟩ := ho
    refine ⟨g, arr, t, h1, h2, by simpa using h3, fun i c hc => ?_⟩
    by_cases hij : j = i
    · subst hij
      have hl : j < cs.length := (List.getElem?_eq_some_iff.1 hj).1
      rw [List.getElem?_set_self hl] at hc
      obtain rfl := Option.some.inj hc
      obtain ⟨_, hr⟩ := h4 j _ hj
      refine ⟨rfl, ?_⟩
      generalize arr.getD j Go.undef = u at hr
      cases hr with
      | nils => exact .row _ none 0 0 (by rw [← hs.len]; simp)
    · rw [List.getElem?_set_ne hij] at hc
      exact ⟨(h4 i c hc).1, (h4 i c hc).2.ext he2⟩)
  rw [hset] at he2 hs2
  have hall := he.trans he2
  exact h T _ w a hs2 (ht.ext hall) K fun e ts' bs' φ' a' w' q hx => hK e ts' bs' φ' a' w' q (hall.toM.trans hx)
end

/-- A counter goes up. -/
theorem wrap_nat {k : Nat} (h : k < 9223372036854775807) : IntKind.i64.wrap ((k : Int) + 1) = ((k + 1 : Nat) : Int) := by
  have : IntKind.i64.wrap ((k : Int) + 1) = (k : Int) + 1 := by
    unfold IntKind.wrap
    simp [IntKind.bits, IntKind.signed]
    omega
  rw [this]
  push_cast
  rfl

end Go.Proofs.YtiefcnghjcafbaaDoorV
