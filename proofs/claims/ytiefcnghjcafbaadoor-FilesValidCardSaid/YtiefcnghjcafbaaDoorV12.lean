/- The calculus of values, twelfth text: append onto a slice of the call's own. -/
import Derived.Deep.Upon
import Derived.Laws.StructEq
import Derived.Laws.RangeString
import Derived.Test.YtiefcnghjcafbaaDoorV9
import Derived.Test.YtiefcnghjcafbaaDoorV8
namespace Go.Proofs.YtiefcnghjcafbaaDoorV
open Go Go.RowKit

theorem own_blk {w : World} {e sz n : Nat} {v : Value} {vals : List Value} (h : w.ownsRow 0 e sz v n vals) : blkOf v = v.ownBlock := by
  rcases h.2 with ⟨rfl, _⟩ | ⟨g, cap, cur, rfl, _⟩ <;> rfl

theorem div_mul_mod {q n sz : Nat} (h : q < n * sz) : q / sz < n ∧ q % sz < sz ∧ q / sz * sz + q % sz = q := by
  have hs : 0 < sz := by
    rcases Nat.eq_zero_or_pos sz with h0 | h0
    · rw [h0, Nat.mul_zero] at h; omega
    · exact h0
  refine ⟨(Nat.div_lt_iff_lt_mul hs).2 h, Nat.mod_lt _ hs, ?_⟩
  rw [Nat.mul_comm]
  exact Nat.div_add_mod q sz

/-- What is appended, cell by cell. -/
theorem src_cells {T : Nat → Prop} {bs : List Bx} {φ : List Value} {w : World} (hs : Sim T bs φ w) {p : V} {ys : List (List S)} {sz : Nat} {v : Value} (h : RV (okOf T bs φ) w φ p v) (hv : view bs p = some ys) (hne : ys ≠ []) (hsz : ∀ y ∈ ys, y.length = sz) :
    ∃ (ad : Addr) (c : Nat) (news : List Value), v = .slice (some ad) ys.length c ∧ news.length = ys.length * sz ∧ (∀ (j : Nat) u, news[j]? = some u → w.cell? (ad.add j) = some u) ∧ (∀ u ∈ news, u.oneCell' = true) ∧
      ∀ (i : Nat) x (j : Nat) y, ys[i]? = some x → x[j]? = some y → RS (okOf T bs φ) w y (news.getD (i * sz + j) Go.undef) := by
  have pos : 0 < ys.length := List.length_pos_iff.2 hne
  have at_ : ∀ q, q < ys.length * sz → ∃ x y, ys[q / sz]? = some x ∧ x[q % sz]? = some y := fun q hq => by
    obtain ⟨h1, h2, _⟩ := div_mul_mod hq
    have hx : ys[q / sz]? = some ys[q / sz] := List.getElem?_eq_getElem h1
    have hl := hsz _ (List.mem_of_getElem? hx)
    exact ⟨_, _, hx, List.getElem?_eq_getElem (by omega)⟩
  have fast : ∀ v, RS (okOf T bs φ) w (.sl ys) v → ∃ (ad : Addr) (c : Nat) (news : List Value), v = .slice (some ad) ys.length c ∧ news.length = ys.length * sz ∧ (∀ (j : Nat) u, news[j]? = some u → w.cell? (ad.add j) = some u) ∧ (∀ u ∈ news, u.oneCell' = true) ∧
      ∀ (i : Nat) x (j : Nat) y, ys[i]? = some x → x[j]? = some y → RS (okOf T bs φ) w y (news.getD (i * sz + j) Go.undef) := by
    intro v hr
    cases hr with
    | nil A c h => exact absurd rfl hne
    | cons xs ad c sz' f h0 hs' hc hm hok hlt hcell hr =>
      have hss : sz' = sz := by
        match ys, hne with
        | y :: r, _ => exact (hs' y List.mem_cons_self).symm.trans (hsz y List.mem_cons_self)
      subst hss
      have hget : ∀ q, q < ys.length * sz' → ((List.range (ys.length * sz')).map fun q => f (q / sz') (q % sz'))[q]? = some (f (q / sz') (q % sz')) := fun q hq => by simp [hq]
      refine ⟨ad, c, (List.range (ys.length * sz')).map fun q => f (q / sz') (q % sz'), rfl, by simp, fun q u hq => ?_, fun u hu => ?_, fun i x j y hx hy => ?_⟩
      · have hql : q < ys.length * sz' := by
          have := (List.getElem?_eq_some_iff.1 hq).1
          simpa using this
        rw [hget q hql] at hq
        obtain rfl := Option.some.inj hq
        obtain ⟨x, y, hx, hy⟩ := at_ q hql
        have := hcell _ x _ y hx hy
        rwa [(div_mul_mod hql).2.2] at this
      · obtain ⟨q, hq⟩ := List.mem_iff_getElem?.1 hu
        have hql : q < ys.length * sz' := by
          have := (List.getElem?_eq_some_iff.1 hq).1
          simpa using this
        rw [hget q hql] at hq
        obtain rfl := Option.some.inj hq
        obtain ⟨x, y, hx, hy⟩ := at_ q hql
        exact ((hr _ x _ y hx hy).up (φ := φ) |>.atom (S.up_atomic y)).1
      · have hi : i < ys.length := (List.getElem?_eq_some_iff.1 hx).1
        have hj : j < sz' := by rw [← hsz x (List.mem_of_getElem? hx)]; exact (List.getElem?_eq_some_iff.1 hy).1
        have h4 := Nat.mul_le_mul_right sz' hi
        rw [Nat.succ_mul] at h4
        have hq : i * sz' + j < ys.length * sz' := by omega
        rw [List.getD_eq_getElem?_getD, hget _ hq]
        have e1 : (i * sz' + j) / sz' = i := by
          rw [Nat.mul_comm, Nat.mul_add_div (by omega), Nat.div_eq_of_lt hj]
          omega
        have e2 : (i * sz' + j) % sz' = j := by
          rw [Nat.mul_comm, Nat.mul_add_mod, Nat.mod_eq_of_lt hj]
        rw [e1, e2]
        exact hr i x j y hx hy
  cases h with
  | nils => obtain rfl := Option.some.inj hv; exact absurd rfl hne
  | sl xs v hr => obtain rfl := Option.some.inj hv; exact fast _ hr
  | row q A m c hq =>
    simp only [view] at hv
    cases hb : bs[q]? with
    | none => rw [hb] at hv; cases hv
    | some b =>
      rw [hb] at hv
      obtain ⟨v', hv', hbo⟩ := hs.box q b hb
      obtain rfl : v' = _ := Option.some.inj (hv'.symm.trans hq)
      cases b with
      | dead => cases hv
      | cells l => cases hv
      | iter s p => cases hv
      | row e' sz' xs =>
        obtain rfl := Option.some.inj hv
        obtain ⟨hlen, vals, how, hc⟩ := hbo
        have hss : sz' = sz := by
          match xs, hne with
          | y :: r, _ => exact (hlen y List.mem_cons_self).symm.trans (hsz y List.mem_cons_self)
        subst hss
        rcases how.2 with ⟨_, h2⟩ | ⟨g, cap, cur, h1, _⟩
        · omega
        · refine ⟨⟨g, 0, none⟩, cap, vals, h1, how.1, fun j u hj => ?_, fun u hu => ?_, hc⟩
          · have hjl : j < xs.length * sz' := by rw [← how.1]; exact (List.getElem?_eq_some_iff.1 hj).1
            rw [add_plain, Nat.zero_add, own_cell how h1 hjl, List.getD_eq_getElem?_getD, hj]
            rfl
          · obtain ⟨q, hq⟩ := List.mem_iff_getElem?.1 hu
            have hql : q < xs.length * sz' := by rw [← how.1]; exact (List.getElem?_eq_some_iff.1 hq).1
            obtain ⟨x, y, hx, hy⟩ := at_ q hql
            have := hc _ x _ y hx hy
            rw [(div_mul_mod hql).2.2, List.getD_eq_getElem?_getD, hq] at this
            exact ((this.up (φ := φ)).atom (S.up_atomic y)).1
  | val => cases hv
  | eptr => cases hv
  | ptr => cases hv
  | rptr => cases hv
  | win => cases hv
  | fn => cases hv
  | agg => cases hv
  | tup => cases hv
  | gone => cases hv

section
variable {P : Program} {L : Lay} {ts : List V} {bs : List Bx} {o : Oper}

theorem app_rows {ok : Nat → Prop} {w : World} {xs ys : List (List S)} {vals news : List Value} {sz : Nat} (hl : vals.length = xs.length * sz) (hxs : ∀ x ∈ xs, x.length = sz)
    (hx : ∀ (i : Nat) x (j : Nat) y, xs[i]? = some x → x[j]? = some y → RS ok w y (vals.getD (i * sz + j) Go.undef)) (hy : ∀ (i : Nat) x (j : Nat) y, ys[i]? = some x → x[j]? = some y → RS ok w y (news.getD (i * sz + j) Go.undef)) :
    ∀ (i : Nat) x (j : Nat) y, (xs ++ ys)[i]? = some x → x[j]? = some y → RS ok w y ((vals ++ news).getD (i * sz + j) Go.undef) := by
  intro i x j y hi hj
  rcases Nat.lt_or_ge i xs.length with h | h
  · rw [List.getElem?_append_left h] at hi
    have hjs : j < sz := by rw [← hxs x (List.mem_of_getElem? hi)]; exact (List.getElem?_eq_some_iff.1 hj).1
    have h4 := Nat.mul_le_mul_right sz h
    rw [Nat.succ_mul] at h4
    have := hx i x j y hi hj
    rwa [List.getD_eq_getElem?_getD, List.getElem?_append_left (by omega), ← List.getD_eq_getElem?_getD]
  · rw [List.getElem?_append_right h] at hi
    have := hy _ x j y hi hj
    have h4 := Nat.mul_le_mul_right sz h
    have h5 : (i - xs.length) * sz = i * sz - xs.length * sz := Nat.sub_mul _ _ _
    rw [List.getD_eq_getElem?_getD, List.getElem?_append_right (by omega), ← List.getD_eq_getElem?_getD]
    rw [show i * sz + j - vals.length = (i - xs.length) * sz + j by omega]
    exact this

/-- append onto nil: a new slice. -/
theorem op_append0 (hL : LayOk P L) {t e sz by_ : Nat} {s0 x0 : Operand} {p : V} {ys : List (List S)} (ho : o.op = .call { callee := .builtin .append, args := #[s0, x0], argTypes := #[t, t] }) (hs0 : evO ts s0 = some .nils) (hx0 : evO ts x0 = some p)
    (hl : L.sl t = some (e, sz)) (hb : L.byt e = some by_) (hv : view bs p = some ys) (hne : ys ≠ []) (hsz : ∀ y ∈ ys, y.length = sz) (hbound : ys.length * by_ ≤ 140737488355328) (hm : ys.length ≤ 140737488355328) :
    OpOk P o (fun ts' bs' => ts' = putV o.dst (.row bs.length) ts ∧ bs' = bs ++ [.row e sz ys]) ts bs := by
  refine OpOk.make fun T φ w a hs ht => ?_
  obtain ⟨hu, hinf, hsz0⟩ := hL.sl t e sz hl
  obtain ⟨i, z, h1, h2, h3, h4⟩ := hL.byt e by_ hb
  have hisz : i.size = sz := by rw [h1] at hinf; simpa using hinf
  have hn := evO_sound ht hs0
  have hnil : a.eval s0 = .slice none 0 0 := by
    generalize a.eval s0 = u at hn
    cases hn
    rfl
  obtain ⟨ad, c, news, he, hnl, hnc, hn1, hnr⟩ := src_cells hs (evO_sound ht hx0) hv hne hsz
  obtain ⟨v', w', hrun, hown, hg, hiff, hat⟩ := run_append_own_at (P := P) w 0 t o.type e i z sz by_ hu h1 h2 hisz h3 (by rw [h4, hisz]) hsz0 (.slice none 0 0) 0 [] ⟨by simp, .inl ⟨rfl, rfl⟩⟩ ad ys.length c news hnl hnc hn1 (by simp only [maxLen]; omega) (by simpa using hbound) (Nat.zero_le _)
  have hw : Below w.heap.size w w' := ⟨hg.os, hg.tape, hg.output, hg.size, fun g hg2 => hg.block g hg2 (by simp [Value.ownBlock])⟩
  have hsl : ∃ A m c, v' = .slice A m c := by
    rcases hown.2 with ⟨rfl, _⟩ | ⟨g, cap, cur, rfl, _⟩
    · exact ⟨_, _, _, rfl⟩
    · exact ⟨_, _, _, rfl⟩
  have hlφ : (φ ++ [v'])[bs.length]? = some v' := by rw [← hs.len]; simp
  refine ⟨v', v', w', ?_, hw, fun g hg2 => ?_, fun hx => ⟨⟨hsz, news, by simpa using hown, fun i x j y hx' hy' => (hnr i x j y hx' hy').ext hx⟩, ?_⟩⟩
  · simp [execOp, ho, resolve, hnil, he, invoke, builtin, hrun]
  · rw [own_blk hown] at hg2
    rcases hat with h | h
    · rw [h] at hg2
      cases hg2
    · rw [h] at hg2
      exact Nat.le_of_eq (Option.some.inj hg2)
  · obtain ⟨A, m, c, rfl⟩ := hsl
    exact .row _ _ _ _ hlφ

/-- append onto a slice of the call's own: it is used up, a new one stands for it. -/
theorem op_append (hL : LayOk P L) {t e sz by_ k : Nat} {s0 x0 : Operand} {p : V} {xs ys : List (List S)} (ho : o.op = .call { callee := .builtin .append, args := #[s0, x0], argTypes := #[t, t] }) (hs0 : evO ts s0 = some (.row k)) (hx0 : evO ts x0 = some p)
    (hk : bs[k]? = some (.row e sz xs)) (hl : L.sl t = some (e, sz)) (hb : L.byt e = some by_) (hv : view bs p = some ys) (hne : ys ≠ []) (hsz : ∀ y ∈ ys, y.length = sz) (hbound : (xs.length + ys.length) * by_ ≤ 140737488355328) (hm : xs.length + ys.length ≤ 140737488355328) :
    OpOk P o (fun ts' bs' => ts' = putV o.dst (.row bs.length) ts ∧ bs' = bs.set k .dead ++ [.row e sz (xs ++ ys)]) ts bs := by
  intro T φ w a hs ht K Qx hK
  obtain ⟨hu, hinf, hsz0⟩ := hL.sl t e sz hl
  obtain ⟨i, z, h1, h2, h3, h4⟩ := hL.byt e by_ hb
  have hisz : i.size = sz := by rw [h1] at hinf; simpa using hinf
  obtain ⟨v, hvφ, hlen, vals, how, hc⟩ := hs.box k _ hk
  have hsv : a.eval s0 = v := by
    have hn := evO_sound ht hs0
    generalize a.eval s0 = u at hn
    cases hn with
    | row k A n c hq => exact Option.some.inj (hq.symm.trans hvφ)
  obtain ⟨ad, c, news, he, hnl, hnc, hn1, hnr⟩ := src_cells hs (evO_sound ht hx0) hv hne hsz
  obtain ⟨v', w', hrun, hown, hg, hiff, hat⟩ := run_append_own_at (P := P) w 0 t o.type e i z sz by_ hu h1 h2 hisz h3 (by rw [h4, hisz]) hsz0 v xs.length vals how ad ys.length c news hnl hnc hn1 (by simp only [maxLen]; omega) hbound (Nat.zero_le _)
  have hkl : k < bs.length := (List.getElem?_eq_some_iff.1 hk).1
  have hsl : ∃ A m c, v' = .slice A m c := by
    rcases hown.2 with ⟨rfl, _⟩ | ⟨g, cap, cur, rfl, _⟩
    · exact ⟨_, _, _, rfl⟩
    · exact ⟨_, _, _, rfl⟩
  have hlφ : (φ ++ [v'])[bs.length]? = some v' := by rw [← hs.len]; simp
  have hblk := own_blk how
  have hblk' := own_blk hown
  have hold : ∀ (j : Nat) b u, (bs.set k .dead ++ [.row e sz (xs ++ ys)])[j]? = some b → b.live = true → (φ ++ [v'])[j]? = some u → (j ≠ k ∧ bs[j]? = some b ∧ φ[j]? = some u) ∨ (j = bs.length ∧ u = v') := by
    intro j b u hj hlv hu'
    rcases Nat.lt_or_ge j bs.length with h | h
    · rw [List.getElem?_append_left (by simpa using h)] at hj
      rw [List.getElem?_append_left (by rw [hs.len]; exact h)] at hu'
      by_cases hjk : j = k
      · subst hjk
        rw [List.getElem?_set_self hkl] at hj
        obtain rfl := Option.some.inj hj
        cases hlv
      · rw [List.getElem?_set_ne (Ne.symm hjk)] at hj
        exact .inl ⟨hjk, hj, hu'⟩
    · have hje : j = bs.length := by
        have := (List.getElem?_eq_some_iff.1 hj).1
        simp at this
        omega
      subst hje
      rw [hlφ] at hu'
      exact .inr ⟨rfl, (Option.some.inj hu').symm⟩
  have hx : Ext bs φ w (bs.set k .dead ++ [.row e sz (xs ++ ys)]) (φ ++ [v']) w' := by
    refine ⟨hg.os, hg.tape, hg.output, hg.size, fun j u hj => ?_, fun g hgl hm => ?_, fun g hm => ?_⟩
    · rw [List.getElem?_append_left (List.getElem?_eq_some_iff.1 hj).1]
      exact hj
    · exact hg.block g hgl (fun e' => hm ⟨k, _, v, hk, rfl, hvφ, by rw [hblk]; exact e'.symm⟩)
    · obtain ⟨j, b, u, hj, hlv, hu', hgb⟩ := hm
      rcases hold j b u hj hlv hu' with ⟨_, q1, q2⟩ | ⟨_, rfl⟩
      · exact .inl ⟨j, b, u, q1, hlv, q2, hgb⟩
      · rw [hblk'] at hgb
        rcases hat with h | h
        · exact .inl ⟨k, _, v, hk, rfl, hvφ, by rw [hblk, ← h]; exact hgb⟩
        · rw [h] at hgb
          exact .inr (Nat.le_of_eq (Option.some.inj hgb))
  have hsim : Sim T (bs.set k .dead ++ [.row e sz (xs ++ ys)]) (φ ++ [v']) w' := by
    refine hs.step hx ?_ (by simp [hs.len]) ?_
    · intro j j' b b' u u' g p1 l1 p2 g1 q1 l2 q2 g2
      have new_ : ∀ (j : Nat) b u, j ≠ k → bs[j]? = some b → b.live = true → φ[j]? = some u → blkOf u = some g → blkOf v' = some g → False := by
        intro j b u hjk hj hlv hu' hgb hgv
        rw [hblk'] at hgv
        rcases hat with h | h
        · exact hjk (hs.inj j k b _ u v g hj hlv hu' hgb hk rfl hvφ (by rw [hblk, ← h]; exact hgv))
        · rw [h] at hgv
          have hlt := mine_lt hs ⟨j, b, u, hj, hlv, hu', hgb⟩
          have := Option.some.inj hgv
          omega
      rcases hold j b u p1 l1 p2 with ⟨a1, a2, a3⟩ | ⟨a1, rfl⟩ <;> rcases hold j' b' u' q1 l2 q2 with ⟨c1, c2, c3⟩ | ⟨c1, rfl⟩
      · exact hs.inj j j' b b' u u' g a2 l1 a3 g1 c2 l2 c3 g2
      · exact (new_ j b u a1 a2 l1 a3 g1 g2).elim
      · exact (new_ j' b' u' c1 c2 l2 c3 g2 g1).elim
      · omega
    · intro j b hj
      rcases Nat.lt_or_ge j bs.length with h | h
      · rw [List.getElem?_append_left (by simpa using h)] at hj
        by_cases hjk : j = k
        · subst hjk
          rw [List.getElem?_set_self hkl] at hj
          obtain rfl := Option.some.inj hj
          exact .inr ⟨v, hx.pre _ _ hvφ, trivial⟩
        · rw [List.getElem?_set_ne (Ne.symm hjk)] at hj
          refine .inl ⟨hj, fun hlv u g hu' hgb => hg.block g (mine_lt hs ⟨j, b, u, hj, hlv, hu', hgb⟩) fun e' => hjk ?_⟩
          exact hs.inj j k b _ u v g hj hlv hu' hgb hk rfl hvφ (by rw [hblk]; exact e'.symm)
      · have hje : j = bs.length := by
          have := (List.getElem?_eq_some_iff.1 hj).1
          simp at this
          omega
        subst hje
        rw [List.getElem?_append_right (by simp)] at hj
        obtain rfl : Bx.row e sz (xs ++ ys) = b := by simpa using hj
        refine .inr ⟨v', hlφ, fun x hx' => ?_, vals ++ news, by simpa using hown, fun i x j y hi hj => (app_rows how.1 hlen hc hnr i x j y hi hj).ext hx⟩
        rcases List.mem_append.1 hx' with h | h
        · exact hlen x h
        · exact hsz x h
  unfold Oper.wp
  have hr : (execOp a.eval o).run P w = .ok (.value v') w' := by simp [execOp, ho, resolve, hsv, he, invoke, builtin, hrun]
  rw [hr]
  refine hK _ _ _ _ _ ⟨rfl, rfl⟩ hx hsim ((ht.ext hx).put ?_ _)
  obtain ⟨A, m, c, rfl⟩ := hsl
  exact .row _ _ _ _ hlφ
/-- Nothing is appended. -/
theorem op_appendE (hL : LayOk P L) {t e sz : Nat} {s0 x0 : Operand} {p s : V} (ho : o.op = .call { callee := .builtin .append, args := #[s0, x0], argTypes := #[t, t] }) (hs0 : evO ts s0 = some s) (hx0 : evO ts x0 = some p)
    (hl : L.sl t = some (e, sz)) (hv : view bs p = some []) (hsv : s = .nils ∨ ∃ k e' sz' xs, s = .row k ∧ bs[k]? = some (.row e' sz' xs)) :
    OpOk P o (fun ts' bs' => ts' = putV o.dst s ts ∧ bs' = bs) ts bs := by
  refine OpOk.value fun T φ w a hs ht => ?_
  obtain ⟨hu, hinf, _⟩ := hL.sl t e sz hl
  obtain ⟨i, hi, hsz⟩ := Option.map_eq_some_iff.1 hinf
  obtain ⟨A, c, he⟩ := view_len hs (evO_sound ht hx0) hv
  have hsr := evO_sound ht hs0
  have hshape : ∃ B n m, a.eval s0 = .slice B n m ∧ n ≤ m := by
    generalize a.eval s0 = u at hsr
    rcases hsv with rfl | ⟨k, e', sz', xs, rfl, hk⟩
    · cases hsr
      exact ⟨none, 0, 0, rfl, Nat.le_refl _⟩
    · obtain ⟨v, hvφ, hlen, vals, how, hc⟩ := hs.box k _ hk
      cases hsr with
      | row k A n c hq =>
        obtain rfl : v = _ := Option.some.inj (hvφ.symm.trans hq)
        rcases how.2 with ⟨h1, h2⟩ | ⟨g, cap, cur, h1, _, _, h4, _⟩
        · cases h1
          exact ⟨_, _, _, rfl, Nat.le_refl _⟩
        · cases h1
          exact ⟨_, _, _, rfl, h4⟩
  obtain ⟨B, n, m, hse, hnm⟩ := hshape
  have hsrc : Src P i.size t (.slice A ([] : List (List S)).length c) 0 [] w := by
    refine ⟨.inl ⟨e, hu⟩, fun w' => ?_, ?_, ?_, by simp, fun u hu => by cases hu⟩
    · simp [Builtin.lenOf]
    · cases A with
      | none => simp [Builtin.firstCells]
      | some ad =>
        simp only [Builtin.firstCells]
        rw [Nat.zero_mul]
        exact run_loadCells w ad 0 (fun _ => Go.undef) fun j hj => by omega
    · cases A with
      | none => simp [Builtin.firstCells]
      | some ad =>
        simp only [Builtin.firstCells]
        rw [Nat.zero_mul]
        exact run_loadCells w.drew ad 0 (fun _ => Go.undef) fun j hj => by omega
  have hrun := run_append_nothing (P := P) w t t o.type e i hu hi B n m hnm _ hsrc
  refine ⟨a.eval s0, ?_, hsr⟩
  simp [execOp, ho, resolve, he, hse, invoke, builtin] at hrun ⊢
  rw [hrun]
  rfl
end

section
variable {P : Program} {L : Lay} {ts : List V} {bs : List Bx} {o : Oper}

/-- A function value. -/
theorem op_fn {f : FuncId} {cap : Array Operand} {vs : List V} (ho : o.op = .makeFunc (.func f) #[] cap) (hv : evOs ts cap.toList = some vs) : OpOk P o (fun ts' bs' => ts' = putV o.dst (.fn f vs) ts ∧ bs' = bs) ts bs := by
  refine OpOk.value fun T φ w a hs ht => ?_
  obtain ⟨k1, k2⟩ := evOs_sound ht hv
  have hm : (cap.toList.map a.eval).toArray = cap.map a.eval := by apply Array.toList_inj.1; simp
  rw [hm] at k1 k2
  exact ⟨.func (.func f) #[] (cap.map a.eval), by simp [execOp, ho, Instr.makeFunc], .fn f vs _ k1 k2⟩

/-- A call of a function value. -/
theorem op_callF {f0 : Operand} {args : Array Operand} {tys : Array TypeId} {f : FuncId} {vs cap : List V} {R : V → List Bx → Prop} (ho : o.op = .call { callee := .value f0, args := args, argTypes := tys }) (hf : evO ts f0 = some (.fn f cap)) (hen : Enters P f)
    (hv : evOs ts args.toList = some vs) (h : FnOk P f (vs ++ cap) bs R) : OpOk P o (fun ts' bs' => ∃ r, R r bs' ∧ ts' = putV o.dst r ts) ts bs := by
  intro T φ w a hs ht K Qx hK
  have h1 := evO_sound ht hf
  have h2 := evOs_sound ht hv
  generalize he : a.eval f0 = u at h1
  cases h1 with
  | fn f cap arr hl hc =>
    unfold Oper.wp
    have hm : (args.toList.map a.eval).toArray = args.map a.eval := by apply Array.toList_inj.1; simp
    rw [hm] at h2
    have hr : (execOp a.eval o).run P w = .ok (.enter f (args.map a.eval ++ arr)) w := by
      have hen' := hen (args.map a.eval ++ arr) w
      simp [execOp, ho, resolve, he, Deferred.ofValue, invoke, hen']
    rw [hr]
    have h3 : RVs (okOf T bs φ) w φ (vs ++ cap) (args.map a.eval ++ arr) := by
      obtain ⟨k1, k2⟩ := h2
      refine ⟨by simp only [List.length_append, Array.size_append]; omega, fun i c hi => ?_⟩
      rcases Nat.lt_or_ge i vs.length with hlt | hge
      · rw [List.getElem?_append_left hlt] at hi
        have := k2 i c hi
        rwa [Array.getD_eq_getD_getElem?, Array.getElem?_append_left (by omega), ← Array.getD_eq_getD_getElem?]
      · rw [List.getElem?_append_right hge] at hi
        have := hc _ c hi
        rwa [Array.getD_eq_getD_getElem?, Array.getElem?_append_right (by omega), ← k1, ← Array.getD_eq_getD_getElem?]
    refine (h T φ w _ hs h3).mono ?_
    rintro e w' ⟨v, r, bs', φ', rfl, q, hx, hs', hv'⟩
    exact hK _ _ _ _ _ ⟨r, q, rfl⟩ hx hs' ((ht.ext hx).put hv' _)

/-- A range over a string begins. -/
theorem op_range (hL : LayOk P L) {t : TypeId} {x0 : Operand} {s : ByteArray} (ho : o.op = .range t x0) (hx : evO ts x0 = some (.val (.string s))) (hst : L.str t = true) :
    OpOk P o (fun ts' bs' => ts' = putV o.dst (.ptr bs.length 0) ts ∧ bs' = bs ++ [.iter s 0]) ts bs := by
  refine OpOk.make fun T φ w a hs ht => ?_
  have hl : (φ ++ [Value.pointer (some ⟨w.heap.size, 0, none⟩)])[bs.length]? = some (.pointer (some ⟨w.heap.size, 0, none⟩)) := by rw [← hs.len]; simp
  have h1 := evO_sound ht hx
  generalize he : a.eval x0 = u at h1
  cases h1 with
  | val =>
    refine ⟨.pointer (some ⟨w.heap.size, 0, none⟩), .pointer (some ⟨w.heap.size, 0, none⟩), w.alloc (.stringIter s 0), ?_, below_alloc1 w _, fun g hg => ?_, fun _ => ⟨⟨w.heap.size, rfl, heap_alloc_new w _⟩, ?_⟩⟩
    · simp [execOp, ho, Instr.range, he, run_underlying (hL.str t hst)]
    · obtain rfl : w.heap.size = g := by simpa [blkOf] using hg
      exact Nat.le_refl _
    · exact .ptr _ 0 _ hl

/-- The next character of a string, and the end. -/
theorem run_next_in {P : Program} {w : World} {s : ByteArray} {p g : Nat} (hh : w.heap[g]? = some (.stringIter s p)) (hp : p < s.size) (ty : TypeId) :
    (Instr.next (.pointer (some ⟨g, 0, none⟩)) true ty).run P w = .ok (.tuple #[.bool true, .int .i64 p, .int .i32 (Utf8.decode s p).1]) { w with heap := w.heap.setIfInBounds g (.stringIter s (p + (Utf8.decode s p).2)) } := by
  simp only [Instr.next, getObj, setObj, Sem.run_bind, Sem.run, hh, Result.andThen, hp, if_true]
  simp [goInt]
theorem run_next_out {P : Program} {w : World} {s : ByteArray} {p g : Nat} (hh : w.heap[g]? = some (.stringIter s p)) (hp : ¬ p < s.size) (ty : TypeId) :
    (Instr.next (.pointer (some ⟨g, 0, none⟩)) true ty).run P w = .ok (.tuple #[.bool false]) w := by
  simp [Instr.next, getObj, Sem.run, hh, hp]

/-- The next character of a string. -/
theorem op_next {k : Nat} {x0 : Operand} {s : ByteArray} {p : Nat} (ho : o.op = .next x0 true) (hx : evO ts x0 = some (.ptr k 0)) (hb : bs[k]? = some (.iter s p)) :
    OpOk P o (fun ts' bs' => ts' = putV o.dst (if p < s.size then .tup [.val (.bool true), .val (.int .i64 p), .val (.int .i32 (Utf8.decode s p).1)] else .tup [.val (.bool false)]) ts ∧ bs' = if p < s.size then bs.set k (.iter s (p + (Utf8.decode s p).2)) else bs) ts bs := by
  intro T φ w a hs ht K Qx hK
  have h1 := evO_sound ht hx
  generalize he : a.eval x0 = u at h1
  cases h1 with
  | ptr k off g hg =>
    obtain ⟨v, hv, g', rfl, hh⟩ := hs.box k _ hb
    obtain rfl : g' = g := by
      have := hv.symm.trans hg
      simpa using this
    have hlt : g' < w.heap.size := (Array.getElem?_eq_some_iff.1 hh).1
    unfold Oper.wp
    by_cases hp : p < s.size
    · have hr : (execOp a.eval o).run P w = .ok (.value (.tuple #[.bool true, .int .i64 p, .int .i32 (Utf8.decode s p).1])) { w with heap := w.heap.setIfInBounds g' (.stringIter s (p + (Utf8.decode s p).2)) } := by
        simp [execOp, ho, he, run_next_in hh hp]
      rw [hr]
      have hkeep : ∀ g, g < w.heap.size → blkOf (Value.pointer (some ⟨g', 0, none⟩)) ≠ some g → (w.heap.setIfInBounds g' (.stringIter s (p + (Utf8.decode s p).2)))[g]? = w.heap[g]? := fun g _ hne => by
        have : g' ≠ g := fun e => hne (by rw [e]; rfl)
        simp [this]
      have hx2 := ext_set (w := w) (w' := { w with heap := w.heap.setIfInBounds g' (.stringIter s (p + (Utf8.decode s p).2)) }) (b' := .iter s (p + (Utf8.decode s p).2)) hb rfl hv rfl rfl rfl (by simp) hkeep
      have hs2 := hs.put hb rfl hv hx2 hkeep ⟨g', rfl, by simp [hlt]⟩
      refine hK _ _ _ _ _ ⟨rfl, by rw [if_pos hp]⟩ hx2 hs2 ?_
      rw [if_pos hp]
      refine (ht.ext hx2).put (.tup _ _ rfl fun i c hi => ?_) _
      rcases i with _ | _ | _ | i
      · obtain rfl := Option.some.inj hi; exact .val _ rfl
      · obtain rfl := Option.some.inj hi; exact .val _ rfl
      · obtain rfl := Option.some.inj hi; exact .val _ rfl
      · simp at hi
    · have hr : (execOp a.eval o).run P w = .ok (.value (.tuple #[.bool false])) w := by
        simp [execOp, ho, he, run_next_out hh hp]
      rw [hr]
      refine hK _ _ _ _ _ ⟨rfl, by rw [if_neg hp]⟩ (Ext.refl _ _ _) hs ?_
      rw [if_neg hp]
      refine ht.put (.tup _ _ rfl fun i c hi => ?_) _
      rcases i with _ | i
      · obtain rfl := Option.some.inj hi; exact .val _ rfl
      · simp at hi

/-- Are two structs of numbers, bools and strings equal? -/
def eqL (L : Lay) : List TypeId → List V → List V → Option Bool
  | [], [], [] => some true
  | t :: l, .val (.int k a) :: r, .val (.int k' b) :: r' => if k = k' ∧ (L.int t).isSome = true then (if a == b then eqL L l r r' else some false) else none
  | t :: l, .val (.bool a) :: r, .val (.bool b) :: r' => if L.bool t = true then (if a == b then eqL L l r r' else some false) else none
  | t :: l, .val (.string a) :: r, .val (.string b) :: r' => if L.str t = true then (if a = b then eqL L l r r' else some false) else none
  | _, _, _ => none

def aggD : TypeDesc → Bool
  | .struct _ | .array _ _ => true
  | _ => false
theorem part_run {t : TypeId} {d : TypeDesc} (ht : P.underlying t = some d) (hd : aggD d = false) {xs : Array Value} {i : Nat} (hi : i < xs.size) (w : World) : (part t xs i).run P w = .ok (xs.getD i Go.undef) w := by
  unfold part isAgg
  cases d <;> simp_all [run_underlying ht, Array.getD, aggD]

theorem eqL_run (hL : LayOk P L) {ok : Nat → Prop} {w : World} {φ : List Value} {d : Nat} : ∀ (fs : List Field) (l : List TypeId) (i : Nat) (cs ds : List V) (xs ys : Array Value) (b : Bool), fs.map (fun f => (f.name != "_", f.type, f.offset)) = (l.zipIdx i).map (fun p => (true, p.1, p.2)) →
    (∀ j c, cs[j]? = some c → RV ok w φ c (xs.getD (i + j) Go.undef)) → i + cs.length ≤ xs.size → (∀ j c, ds[j]? = some c → RV ok w φ c (ys.getD (i + j) Go.undef)) → i + ds.length ≤ ys.size → eqL L l cs ds = some b → (Op.eqFields (d + 1) xs ys fs).run P w = .ok b w := by
  intro fs
  induction fs with
  | nil =>
    intro l i cs ds xs ys b hf hc hcl hd hdl h
    cases l with
    | nil =>
      unfold eqL at h
      split at h <;> first | (cases h; simp [Op.eqFields]; done) | skip
      all_goals simp_all
    | cons t l => simp at hf
  | cons f fs ih =>
    intro l i cs ds xs ys b hf hc hcl hd hdl h
    cases l with
    | nil => simp at hf
    | cons t l =>
      simp only [List.map_cons, List.zipIdx_cons, List.cons.injEq, Prod.mk.injEq, bne_iff_ne, ne_eq] at hf
      obtain ⟨⟨h1, rfl, rfl⟩, hf⟩ := hf
      have go : ∀ (c1 c2 : V) (r r' : List V) (q : Bool) (d0 : TypeDesc), P.underlying f.type = some d0 → aggD d0 = false → cs = c1 :: r → ds = c2 :: r' → (Op.equalIn (d + 1) f.type (xs.getD f.offset Go.undef) (ys.getD f.offset Go.undef)).run P w = .ok q w →
          (if q then eqL L l r r' else some false) = some b → (Op.eqFields (d + 1) xs ys (f :: fs)).run P w = .ok b w := by
        intro c1 c2 r r' q d0 hu hd0 e1 e2 hq hb
        subst e1 e2
        simp only [List.length_cons] at hcl hdl
        simp only [Op.eqFields, h1, ne_eq, not_false_eq_true, if_true, Sem.run_bind, part_run hu hd0 (show f.offset < xs.size by omega), part_run hu hd0 (show f.offset < ys.size by omega), Result.andThen_ok, hq]
        cases q with
        | false =>
          obtain rfl := Option.some.inj hb
          simp
        | true =>
          simp only [Bool.not_true, Bool.false_eq_true, if_false]
          refine ih l (f.offset + 1) r r' xs ys b hf (fun j c hj => ?_) (by omega) (fun j c hj => ?_) (by omega) hb
          · have := hc (j + 1) c (by simpa using hj)
            rwa [show f.offset + (j + 1) = f.offset + 1 + j by omega] at this
          · have := hd (j + 1) c (by simpa using hj)
            rwa [show f.offset + (j + 1) = f.offset + 1 + j by omega] at this
      have at1 : ∀ (v : Value) (r : List V), cs = .val v :: r → xs.getD f.offset Go.undef = v := by
        intro v r e
        have := hc 0 (.val v) (by rw [e]; rfl)
        rw [Nat.add_zero] at this
        generalize xs.getD f.offset Go.undef = u at this
        cases this
        rfl
      have at2 : ∀ (v : Value) (r : List V), ds = .val v :: r → ys.getD f.offset Go.undef = v := by
        intro v r e
        have := hd 0 (.val v) (by rw [e]; rfl)
        rw [Nat.add_zero] at this
        generalize ys.getD f.offset Go.undef = u at this
        cases this
        rfl
      unfold eqL at h
      split at h
      · exact absurd ‹f.type :: l = []› (by simp)
      · rename_i t' l' k a r k' b' r' e0
        cases e0
        split at h
        · rename_i hk
          obtain ⟨rfl, hi⟩ := hk
          obtain ⟨k0, hk0⟩ := Option.isSome_iff_exists.1 hi
          have hu := hL.int _ _ hk0
          exact go _ _ _ _ (a == b') _ hu rfl rfl rfl (by rw [at1 _ _ rfl, at2 _ _ rfl]; exact run_equalIn_int w d _ _ _ _ _ hu) h
        · cases h
      · rename_i t' l' a r b' r' e0
        cases e0
        split at h
        · rename_i hk
          have hu := hL.bool _ hk
          exact go _ _ _ _ (a == b') _ hu rfl rfl rfl (by rw [at1 _ _ rfl, at2 _ _ rfl]; exact run_equalIn_bool' w d _ _ _ hu) h
        · cases h
      · rename_i t' l' a r b' r' e0
        cases e0
        split at h
        · rename_i hk
          have hu := hL.str _ hk
          exact go _ _ _ _ (decide (a = b')) _ hu rfl rfl rfl (by rw [at1 _ _ rfl, at2 _ _ rfl, run_equalIn_string w d _ _ _ hu, bytes_eq]) (by simpa using h)
        · cases h
      · cases h

/-- Two structs compared. -/
theorem op_eqL (hL : LayOk P L) {op : BinOp} {t t' : TypeId} {x0 y0 : Operand} {cs ds : List V} {l : List TypeId} {b : Bool} (ho : o.op = .binOp op t x0 y0 t') (hop : op = .eql ∨ op = .neq) (hx : evO ts x0 = some (.agg cs)) (hy : evO ts y0 = some (.agg ds)) (hl : L.eqs t = some l) (h : eqL L l cs ds = some b) :
    OpOk P o (fun ts' bs' => ts' = putV o.dst (.val (.bool (if op = .eql then b else !b))) ts ∧ bs' = bs) ts bs := by
  refine OpOk.value fun T φ w a hs ht => ?_
  obtain ⟨k1, k2, k3⟩ := hL.eqs t l hl
  have h1 := evO_sound ht hx
  have h2 := evO_sound ht hy
  generalize he : a.eval x0 = u at h1
  generalize hf : a.eval y0 = v at h2
  cases h1 with
  | agg _ xs hl1 ha1 hc1 =>
    cases h2 with
    | agg _ ys hl2 ha2 hc2 =>
      have ht2 : P.underlying t = some (.struct (P.fieldsOf t)) ∧ (P.fieldsOf t).toList.map (fun f => (f.name != "_", f.type, f.offset)) = (l.zipIdx 0).map fun p => (true, p.1, p.2) := by
        unfold Program.fieldsOf
        split at k3
        · rename_i fs hu
          rw [hu]
          exact ⟨rfl, Option.some.inj k3⟩
        · cases k3
      have hrun : (Op.equalIn 10000 t (.agg xs) (.agg ys)).run P w = .ok b w := by
        rw [run_equalIn_struct w 9999 t xs ys ht2.1 k1]
        exact eqL_run hL (d := 9998) _ l 0 cs ds xs ys b ht2.2 (fun j c hj => by rw [Nat.zero_add]; exact hc1 j c hj) (by omega) (fun j c hj => by rw [Nat.zero_add]; exact hc2 j c hj) (by omega) h
      rcases hop with rfl | rfl
      · exact ⟨.bool b, by simp [execOp, ho, he, hf, run_eqGuard_agg w _ t x0 y0 xs ys k2, run_eql_struct, hrun], .val _ rfl⟩
      · exact ⟨.bool (!b), by simp [execOp, ho, he, hf, run_eqGuard_agg w _ t x0 y0 xs ys k2, run_neq_struct, hrun], .val _ rfl⟩
end

end Go.Proofs.YtiefcnghjcafbaaDoorV
