/- The calculus of values, twelfth text: append onto a slice of the call's own. -/
import Derived.Deep.Upon
import Derived.Test.YtbkjiglbkckhmaaV8
namespace Go.Proofs.YtbkjiglbkckhmaaV
open Go Go.RowKit

theorem own_blk {w : World} {e sz n : Nat} {v : Value} {vals : List Value} (h : w.ownsRow 0 e sz v n vals) : blkOf v = v.ownBlock := by
  rcases h.2 with ⟨rfl, _⟩ | ⟨g, cap, cur, rfl, _⟩ <;> rfl

theorem div_mul_mod {q n sz : Nat} (h : q < n * sz) : q / sz < n ∧ q % sz < sz ∧ q / sz * sz + q % sz = q := by
  have hs : 0 < sz := by
    rcases Nat.eq_zero_or_pos sz with h0 | h0
    · rw [h0, Nat.mul_zero] at h; omega
    · exact h0
  refine ⟨(Nat.div_lt_iff_lt_mul hs).2 h, Nat.mod_lt _ hs, ?_⟩
  rw [Nat.mul_comm]
  exact Nat.div_add_mod q sz

/-- What is appended, cell by cell. -/
theorem src_cells {T : Nat → Prop} {bs : List Bx} {φ : List Value} {w : World} (hs : Sim T bs φ w) {p : V} {ys : List (List S)} {sz : Nat} {v : Value} (h : RV (okOf T bs φ) w φ p v) (hv : view bs p = some ys) (hne : ys ≠ []) (hsz : ∀ y ∈ ys, y.length = sz) :
    ∃ (ad : Addr) (c : Nat) (news : List Value), v = .slice (some ad) ys.length c ∧ news.length = ys.length * sz ∧ (∀ (j : Nat) u, news[j]? = some u → w.cell? (ad.add j) = some u) ∧ (∀ u ∈ news, u.oneCell' = true) ∧
      ∀ (i : Nat) x (j : Nat) y, ys[i]? = some x → x[j]? = some y → RS (okOf T bs φ) w y (news.getD (i * sz + j) Go.undef) := by
  have pos : 0 < ys.length := List.length_pos_iff.2 hne
  have at_ : ∀ q, q < ys.length * sz → ∃ x y, ys[q / sz]? = some x ∧ x[q % sz]? = some y := fun q hq => by
    obtain ⟨h1, h2, _⟩ := div_mul_mod hq
    have hx : ys[q / sz]? = some ys[q / sz] := List.getElem?_eq_getElem h1
    have hl := hsz _ (List.mem_of_getElem? hx)
    exact ⟨_, _, hx, List.getElem?_eq_getElem (by omega)⟩
  have fast : ∀ v, RS (okOf T bs φ) w (.sl ys) v → ∃ (ad : Addr) (c : Nat) (news : List Value), v = .slice (some ad) ys.length c ∧ news.length = ys.length * sz ∧ (∀ (j : Nat) u, news[j]? = some u → w.cell? (ad.add j) = some u) ∧ (∀ u ∈ news, u.oneCell' = true) ∧
      ∀ (i : Nat) x (j : Nat) y, ys[i]? = some x → x[j]? = some y → RS (okOf T bs φ) w y (news.getD (i * sz + j) Go.undef) := by
    intro v hr
    cases hr with
    | nil A c h => exact absurd rfl hne
    | cons xs ad c sz' f h0 hs' hc hm hok hlt hcell hr =>
      have hss : sz' = sz := by
        match ys, hne with
        | y :: r, _ => exact (hs' y List.mem_cons_self).symm.trans (hsz y List.mem_cons_self)
      subst hss
      have hget : ∀ q, q < ys.length * sz' → ((List.range (ys.length * sz')).map fun q => f (q / sz') (q % sz'))[q]? = some (f (q / sz') (q % sz')) := fun q hq => by simp [hq]
      refine ⟨ad, c, (List.range (ys.length * sz')).map fun q => f (q / sz') (q % sz'), rfl, by simp, fun q u hq => ?_, fun u hu => ?_, fun i x j y hx hy => ?_⟩
      · have hql : q < ys.length * sz' := by
          have := (List.getElem?_eq_some_iff.1 hq).1
          simpa using this
        rw [hget q hql] at hq
        obtain rfl := Option.some.inj hq
        obtain ⟨x, y, hx, hy⟩ := at_ q hql
        have := hcell _ x _ y hx hy
        rwa [(div_mul_mod hql).2.2] at this
      · obtain ⟨q, hq⟩ := List.mem_iff_getElem?.1 hu
        have hql : q < ys.length * sz' := by
          have := (List.getElem?_eq_some_iff.1 hq).1
          simpa using this
        rw [hget q hql] at hq
        obtain rfl := Option.some.inj hq
        obtain ⟨x, y, hx, hy⟩ := at_ q hql
        exact ((hr _ x _ y hx hy).up (φ := φ) |>.atom (S.up_atomic y)).1
      · have hi : i < ys.length := (List.getElem?_eq_some_iff.1 hx).1
        have hj : j < sz' := by rw [← hsz x (List.mem_of_getElem? hx)]; exact (List.getElem?_eq_some_iff.1 hy).1
        have h4 := Nat.mul_le_mul_right sz' hi
        rw [Nat.succ_mul] at h4
        have hq : i * sz' + j < ys.length * sz' := by omega
        rw [List.getD_eq_getElem?_getD, hget _ hq]
        have e1 : (i * sz' + j) / sz' = i := by
          rw [Nat.mul_comm, Nat.mul_add_div (by omega), Nat.div_eq_of_lt hj]
          omega
        have e2 : (i * sz' + j) % sz' = j := by
          rw [Nat.mul_comm, Nat.mul_add_mod, Nat.mod_eq_of_lt hj]
        rw [e1, e2]
        exact hr i x j y hx hy
  cases h with
  | nils => obtain rfl := Option.some.inj hv; exact absurd rfl hne
  | sl xs v hr => obtain rfl := Option.some.inj hv; exact fast _ hr
  | row q A m c hq =>
    simp only [view] at hv
    cases hb : bs[q]? with
    | none => rw [hb] at hv; cases hv
    | some b =>
      rw [hb] at hv
      obtain ⟨v', hv', hbo⟩ := hs.box q b hb
      obtain rfl : v' = _ := Option.some.inj (hv'.symm.trans hq)
      cases b with
      | dead => cases hv
      | cells l => cases hv
      | ice xs => obtain rfl := Option.some.inj hv; exact fast _ hbo
      | row e' sz' xs =>
        obtain rfl := Option.some.inj hv
        obtain ⟨hlen, vals, how, hc⟩ := hbo
        have hss : sz' = sz := by
          match xs, hne with
          | y :: r, _ => exact (hlen y List.mem_cons_self).symm.trans (hsz y List.mem_cons_self)
        subst hss
        rcases how.2 with ⟨_, h2⟩ | ⟨g, cap, cur, h1, _⟩
        · omega
        · refine ⟨⟨g, 0, none⟩, cap, vals, h1, how.1, fun j u hj => ?_, fun u hu => ?_, hc⟩
          · have hjl : j < xs.length * sz' := by rw [← how.1]; exact (List.getElem?_eq_some_iff.1 hj).1
            rw [add_plain, Nat.zero_add, own_cell how h1 hjl, List.getD_eq_getElem?_getD, hj]
            rfl
          · obtain ⟨q, hq⟩ := List.mem_iff_getElem?.1 hu
            have hql : q < xs.length * sz' := by rw [← how.1]; exact (List.getElem?_eq_some_iff.1 hq).1
            obtain ⟨x, y, hx, hy⟩ := at_ q hql
            have := hc _ x _ y hx hy
            rw [(div_mul_mod hql).2.2, List.getD_eq_getElem?_getD, hq] at this
            exact ((this.up (φ := φ)).atom (S.up_atomic y)).1
  | val => cases hv
  | eptr => cases hv
  | ptr => cases hv
  | rptr => cases hv
  | fn => cases hv
  | agg => cases hv
  | tup => cases hv
  | gone => cases hv

section
variable {P : Program} {L : Lay} {ts : List V} {bs : List Bx} {o : Oper}

theorem app_rows {ok : Nat → Prop} {w : World} {xs ys : List (List S)} {vals news : List Value} {sz : Nat} (hl : vals.length = xs.length * sz) (hxs : ∀ x ∈ xs, x.length = sz)
    (hx : ∀ (i : Nat) x (j : Nat) y, xs[i]? = some x → x[j]? = some y → RS ok w y (vals.getD (i * sz + j) Go.undef)) (hy : ∀ (i : Nat) x (j : Nat) y, ys[i]? = some x → x[j]? = some y → RS ok w y (news.getD (i * sz + j) Go.undef)) :
    ∀ (i : Nat) x (j : Nat) y, (xs ++ ys)[i]? = some x → x[j]? = some y → RS ok w y ((vals ++ news).getD (i * sz + j) Go.undef) := by
  intro i x j y hi hj
  rcases Nat.lt_or_ge i xs.length with h | h
  · rw [List.getElem?_append_left h] at hi
    have hjs : j < sz := by rw [← hxs x (List.mem_of_getElem? hi)]; exact (List.getElem?_eq_some_iff.1 hj).1
    have h4 := Nat.mul_le_mul_right sz h
    rw [Nat.succ_mul] at h4
    have := hx i x j y hi hj
    rwa [List.getD_eq_getElem?_getD, List.getElem?_append_left (by omega), ← List.getD_eq_getElem?_getD]
  · rw [List.getElem?_append_right h] at hi
    have := hy _ x j y hi hj
    have h4 := Nat.mul_le_mul_right sz h
    have h5 : (i - xs.length) * sz = i * sz - xs.length * sz := Nat.sub_mul _ _ _
    rw [List.getD_eq_getElem?_getD, List.getElem?_append_right (by omega), ← List.getD_eq_getElem?_getD]
    rw [show i * sz + j - vals.length = (i - xs.length) * sz + j by omega]
    exact this

/-- append onto nil: a new slice. -/
theorem op_append0 (hL : LayOk P L) {t e sz by_ : Nat} {s0 x0 : Operand} {p : V} {ys : List (List S)} (ho : o.op = .call { callee := .builtin .append, args := #[s0, x0], argTypes := #[t, t] }) (hs0 : evO ts s0 = some .nils) (hx0 : evO ts x0 = some p)
    (hl : L.sl t = some (e, sz)) (hb : L.byt e = some by_) (hv : view bs p = some ys) (hne : ys ≠ []) (hsz : ∀ y ∈ ys, y.length = sz) (hbound : ys.length * by_ ≤ 140737488355328) (hm : ys.length ≤ 140737488355328) :
    OpOk P o (fun ts' bs' => ts' = putV o.dst (.row bs.length) ts ∧ bs' = bs ++ [.row e sz ys]) ts bs := by
  refine OpOk.make fun T φ w a hs ht => ?_
  obtain ⟨hu, hinf, hsz0⟩ := hL.sl t e sz hl
  obtain ⟨i, z, h1, h2, h3, h4⟩ := hL.byt e by_ hb
  have hisz : i.size = sz := by rw [h1] at hinf; simpa using hinf
  have hn := evO_sound ht hs0
  have hnil : a.eval s0 = .slice none 0 0 := by
    generalize a.eval s0 = u at hn
    cases hn
    rfl
  obtain ⟨ad, c, news, he, hnl, hnc, hn1, hnr⟩ := src_cells hs (evO_sound ht hx0) hv hne hsz
  obtain ⟨v', w', hrun, hown, hg, hiff, hat⟩ := run_append_own_at (P := P) w 0 t o.type e i z sz by_ hu h1 h2 hisz h3 (by rw [h4, hisz]) hsz0 (.slice none 0 0) 0 [] ⟨by simp, .inl ⟨rfl, rfl⟩⟩ ad ys.length c news hnl hnc hn1 (by simp only [maxLen]; omega) (by simpa using hbound) (Nat.zero_le _)
  have hw : Below w.heap.size w w' := ⟨hg.os, hg.tape, hg.output, hg.size, fun g hg2 => hg.block g hg2 (by simp [Value.ownBlock])⟩
  have hsl : ∃ A m c, v' = .slice A m c := by
    rcases hown.2 with ⟨rfl, _⟩ | ⟨g, cap, cur, rfl, _⟩
    · exact ⟨_, _, _, rfl⟩
    · exact ⟨_, _, _, rfl⟩
  have hlφ : (φ ++ [v'])[bs.length]? = some v' := by rw [← hs.len]; simp
  refine ⟨v', v', w', ?_, hw, fun g hg2 => ?_, fun hx => ⟨⟨hsz, news, by simpa using hown, fun i x j y hx' hy' => (hnr i x j y hx' hy').ext hx⟩, ?_⟩⟩
  · simp [execOp, ho, resolve, hnil, he, invoke, builtin, hrun]
  · rw [own_blk hown] at hg2
    rcases hat with h | h
    · rw [h] at hg2
      cases hg2
    · rw [h] at hg2
      exact Nat.le_of_eq (Option.some.inj hg2)
  · obtain ⟨A, m, c, rfl⟩ := hsl
    exact .row _ _ _ _ hlφ

/-- append onto a slice of the call's own: it is used up, a new one stands for it. -/
theorem op_append (hL : LayOk P L) {t e sz by_ k : Nat} {s0 x0 : Operand} {p : V} {xs ys : List (List S)} (ho : o.op = .call { callee := .builtin .append, args := #[s0, x0], argTypes := #[t, t] }) (hs0 : evO ts s0 = some (.row k)) (hx0 : evO ts x0 = some p)
    (hk : bs[k]? = some (.row e sz xs)) (hl : L.sl t = some (e, sz)) (hb : L.byt e = some by_) (hv : view bs p = some ys) (hne : ys ≠ []) (hsz : ∀ y ∈ ys, y.length = sz) (hbound : (xs.length + ys.length) * by_ ≤ 140737488355328) (hm : xs.length + ys.length ≤ 140737488355328) :
    OpOk P o (fun ts' bs' => ts' = putV o.dst (.row bs.length) ts ∧ bs' = bs.set k .dead ++ [.row e sz (xs ++ ys)]) ts bs := by
  intro T φ w a hs ht K Qx hK
  obtain ⟨hu, hinf, hsz0⟩ := hL.sl t e sz hl
  obtain ⟨i, z, h1, h2, h3, h4⟩ := hL.byt e by_ hb
  have hisz : i.size = sz := by rw [h1] at hinf; simpa using hinf
  obtain ⟨v, hvφ, hlen, vals, how, hc⟩ := hs.box k _ hk
  have hsv : a.eval s0 = v := by
    have hn := evO_sound ht hs0
    generalize a.eval s0 = u at hn
    cases hn with
    | row k A n c hq => exact Option.some.inj (hq.symm.trans hvφ)
  obtain ⟨ad, c, news, he, hnl, hnc, hn1, hnr⟩ := src_cells hs (evO_sound ht hx0) hv hne hsz
  obtain ⟨v', w', hrun, hown, hg, hiff, hat⟩ := run_append_own_at (P := P) w 0 t o.type e i z sz by_ hu h1 h2 hisz h3 (by rw [h4, hisz]) hsz0 v xs.length vals how ad ys.length c news hnl hnc hn1 (by simp only [maxLen]; omega) hbound (Nat.zero_le _)
  have hkl : k < bs.length := (List.getElem?_eq_some_iff.1 hk).1
  have hsl : ∃ A m c, v' = .slice A m c := by
    rcases hown.2 with ⟨rfl, _⟩ | ⟨g, cap, cur, rfl, _⟩
    · exact ⟨_, _, _, rfl⟩
    · exact ⟨_, _, _, rfl⟩
  have hlφ : (φ ++ [v'])[bs.length]? = some v' := by rw [← hs.len]; simp
  have hblk := own_blk how
  have hblk' := own_blk hown
  have hold : ∀ (j : Nat) b u, (bs.set k .dead ++ [.row e sz (xs ++ ys)])[j]? = some b → b.live = true → (φ ++ [v'])[j]? = some u → (j ≠ k ∧ bs[j]? = some b ∧ φ[j]? = some u) ∨ (j = bs.length ∧ u = v') := by
    intro j b u hj hlv hu'
    rcases Nat.lt_or_ge j bs.length with h | h
    · rw [List.getElem?_append_left (by simpa using h)] at hj
      rw [List.getElem?_append_left (by rw [hs.len]; exact h)] at hu'
      by_cases hjk : j = k
      · subst hjk
        rw [List.getElem?_set_self hkl] at hj
        obtain rfl := Option.some.inj hj
        cases hlv
      · rw [List.getElem?_set_ne (Ne.symm hjk)] at hj
        exact .inl ⟨hjk, hj, hu'⟩
    · have hje : j = bs.length := by
        have := (List.getElem?_eq_some_iff.1 hj).1
        simp at this
        omega
      subst hje
      rw [hlφ] at hu'
      exact .inr ⟨rfl, (Option.some.inj hu').symm⟩
  have hx : Ext bs φ w (bs.set k .dead ++ [.row e sz (xs ++ ys)]) (φ ++ [v']) w' := by
    refine ⟨hg.os, hg.tape, hg.output, hg.size, fun j u hj => ?_, fun g hgl hm => ?_, fun g hm => ?_⟩
    · rw [List.getElem?_append_left (List.getElem?_eq_some_iff.1 hj).1]
      exact hj
    · exact hg.block g hgl (fun e' => hm ⟨k, _, v, hk, rfl, hvφ, by rw [hblk]; exact e'.symm⟩)
    · obtain ⟨j, b, u, hj, hlv, hu', hgb⟩ := hm
      rcases hold j b u hj hlv hu' with ⟨_, q1, q2⟩ | ⟨_, rfl⟩
      · exact .inl ⟨j, b, u, q1, hlv, q2, hgb⟩
      · rw [hblk'] at hgb
        rcases hat with h | h
        · exact .inl ⟨k, _, v, hk, rfl, hvφ, by rw [hblk, ← h]; exact hgb⟩
        · rw [h] at hgb
          exact .inr (Nat.le_of_eq (Option.some.inj hgb))
  have hsim : Sim T (bs.set k .dead ++ [.row e sz (xs ++ ys)]) (φ ++ [v']) w' := by
    refine hs.step hx ?_ (by simp [hs.len]) ?_
    · intro j j' b b' u u' g p1 l1 p2 g1 q1 l2 q2 g2
      have new_ : ∀ (j : Nat) b u, j ≠ k → bs[j]? = some b → b.live = true → φ[j]? = some u → blkOf u = some g → blkOf v' = some g → False := by
        intro j b u hjk hj hlv hu' hgb hgv
        rw [hblk'] at hgv
        rcases hat with h | h
        · exact hjk (hs.inj j k b _ u v g hj hlv hu' hgb hk rfl hvφ (by rw [hblk, ← h]; exact hgv))
        · rw [h] at hgv
          have hlt := mine_lt hs ⟨j, b, u, hj, hlv, hu', hgb⟩
          have := Option.some.inj hgv
          omega
      rcases hold j b u p1 l1 p2 with ⟨a1, a2, a3⟩ | ⟨a1, rfl⟩ <;> rcases hold j' b' u' q1 l2 q2 with ⟨c1, c2, c3⟩ | ⟨c1, rfl⟩
      · exact hs.inj j j' b b' u u' g a2 l1 a3 g1 c2 l2 c3 g2
      · exact (new_ j b u a1 a2 l1 a3 g1 g2).elim
      · exact (new_ j' b' u' c1 c2 l2 c3 g2 g1).elim
      · omega
    · intro j b hj
      rcases Nat.lt_or_ge j bs.length with h | h
      · rw [List.getElem?_append_left (by simpa using h)] at hj
        by_cases hjk : j = k
        · subst hjk
          rw [List.getElem?_set_self hkl] at hj
          obtain rfl := Option.some.inj hj
          exact .inr ⟨v, hx.pre _ _ hvφ, trivial⟩
        · rw [List.getElem?_set_ne (Ne.symm hjk)] at hj
          refine .inl ⟨hj, fun hlv u g hu' hgb => hg.block g (mine_lt hs ⟨j, b, u, hj, hlv, hu', hgb⟩) fun e' => hjk ?_⟩
          exact hs.inj j k b _ u v g hj hlv hu' hgb hk rfl hvφ (by rw [hblk]; exact e'.symm)
      · have hje : j = bs.length := by
          have := (List.getElem?_eq_some_iff.1 hj).1
          simp at this
          omega
        subst hje
        rw [List.getElem?_append_right (by simp)] at hj
        obtain rfl : Bx.row e sz (xs ++ ys) = b := by simpa using hj
        refine .inr ⟨v', hlφ, fun x hx' => ?_, vals ++ news, by simpa using hown, fun i x j y hi hj => (app_rows how.1 hlen hc hnr i x j y hi hj).ext hx⟩
        rcases List.mem_append.1 hx' with h | h
        · exact hlen x h
        · exact hsz x h
  unfold Oper.wp
  have hr : (execOp a.eval o).run P w = .ok (.value v') w' := by simp [execOp, ho, resolve, hsv, he, invoke, builtin, hrun]
  rw [hr]
  refine hK _ _ _ _ _ ⟨rfl, rfl⟩ hx hsim ((ht.ext hx).put ?_ _)
  obtain ⟨A, m, c, rfl⟩ := hsl
  exact .row _ _ _ _ hlφ
/-- Nothing is appended. -/
theorem op_appendE (hL : LayOk P L) {t e sz : Nat} {s0 x0 : Operand} {p s : V} (ho : o.op = .call { callee := .builtin .append, args := #[s0, x0], argTypes := #[t, t] }) (hs0 : evO ts s0 = some s) (hx0 : evO ts x0 = some p)
    (hl : L.sl t = some (e, sz)) (hv : view bs p = some []) (hsv : s = .nils ∨ ∃ k e' sz' xs, s = .row k ∧ bs[k]? = some (.row e' sz' xs)) :
    OpOk P o (fun ts' bs' => ts' = putV o.dst s ts ∧ bs' = bs) ts bs := by
  refine OpOk.value fun T φ w a hs ht => ?_
  obtain ⟨hu, hinf, _⟩ := hL.sl t e sz hl
  obtain ⟨i, hi, hsz⟩ := Option.map_eq_some_iff.1 hinf
  obtain ⟨A, c, he⟩ := view_len hs (evO_sound ht hx0) hv
  have hsr := evO_sound ht hs0
  have hshape : ∃ B n m, a.eval s0 = .slice B n m ∧ n ≤ m := by
    generalize a.eval s0 = u at hsr
    rcases hsv with rfl | ⟨k, e', sz', xs, rfl, hk⟩
    · cases hsr
      exact ⟨none, 0, 0, rfl, Nat.le_refl _⟩
    · obtain ⟨v, hvφ, hlen, vals, how, hc⟩ := hs.box k _ hk
      cases hsr with
      | row k A n c hq =>
        obtain rfl : v = _ := Option.some.inj (hvφ.symm.trans hq)
        rcases how.2 with ⟨h1, h2⟩ | ⟨g, cap, cur, h1, _, _, h4, _⟩
        · cases h1
          exact ⟨_, _, _, rfl, Nat.le_refl _⟩
        · cases h1
          exact ⟨_, _, _, rfl, h4⟩
  obtain ⟨B, n, m, hse, hnm⟩ := hshape
  have hsrc : Src P i.size t (.slice A ([] : List (List S)).length c) 0 [] w := by
    refine ⟨.inl ⟨e, hu⟩, fun w' => ?_, ?_, ?_, by simp, fun u hu => by cases hu⟩
    · simp [Builtin.lenOf]
    · cases A with
      | none => simp [Builtin.firstCells]
      | some ad =>
        simp only [Builtin.firstCells]
        rw [Nat.zero_mul]
        exact run_loadCells w ad 0 (fun _ => Go.undef) fun j hj => by omega
    · cases A with
      | none => simp [Builtin.firstCells]
      | some ad =>
        simp only [Builtin.firstCells]
        rw [Nat.zero_mul]
        exact run_loadCells w.drew ad 0 (fun _ => Go.undef) fun j hj => by omega
  have hrun := run_append_nothing (P := P) w t t o.type e i hu hi B n m hnm _ hsrc
  refine ⟨a.eval s0, ?_, hsr⟩
  simp [execOp, ho, resolve, he, hse, invoke, builtin] at hrun ⊢
  rw [hrun]
  rfl
end

end Go.Proofs.YtbkjiglbkckhmaaV
