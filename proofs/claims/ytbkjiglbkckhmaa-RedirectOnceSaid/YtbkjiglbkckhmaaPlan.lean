/- What both Plan return; equal lists of moves. -/
import Derived.Test.YtbkjiglbkckhmaaMove
import Derived.Test.YtbkjiglbkckhmaaReq
namespace Go.Proofs.YtbkjiglbkckhmaaV
open Go Go.RowKit Go.Proofs.Ytbkjiglbkckhmaa
set_option maxRecDepth 20000
set_option maxHeartbeats 1000000

structure RD where
  pos : Int
  fd : Int
  op : Int
  wp : Int
  w : Value
abbrev rdS (r : RD) : List S := [.val (i64 r.pos), .val (i64 r.fd), .val (i64 r.op), .val (i64 r.wp), .val r.w]
abbrev txS (s : ByteArray) : List S := [.val (.string s)]
abbrev mvS (k a b c : Int) (p t : ByteArray) : List S := [.val (i64 k), .val (i64 a), .val (i64 b), .val (i64 c), .val (.string p), .val (.string t)]
def IsMv (x : List S) : Prop := ∃ k a b c p t, x = mvS k a b c p t
def mvE : V → Int
  | .tup [_, .val (.int _ e)] => e
  | _ => 0
def mvM : V → List S
  | .tup [.agg [.val a, .val b, .val c, .val d, .val e, .val f], _] => [.val a, .val b, .val c, .val d, .val e, .val f]
  | _ => []
def mvZ (rs : List RD) (ss : List ByteArray) (nb : Bool) : List V := (rs.zip ss).map fun p => mvR p.1.fd p.1.op p.2 nb
def planZ (zs : List V) : V := match zs.find? fun v => mvE v != 0 with
  | some v => .tup [.sl [], .val (i64 (mvE v))]
  | none => .tup [.sl (zs.map mvM), .val (i64 0)]
def planR (rs : List RD) (ss : List ByteArray) (nb : Bool) : V := if (rs.length : Int) != (ss.length : Int) then .tup [.sl [], .val (i64 1)] else planZ (mvZ rs ss nb)

theorem mv_is (fd op : Int) (s : ByteArray) (nb : Bool) : ∃ k a b c p t e, mvR fd op s nb = .tup [mvV k a b c p t, .val (i64 e)] := by
  unfold mvR
  repeat' split
  · exact ⟨_, _, _, _, _, _, _, rfl⟩
  · exact ⟨_, _, _, _, _, _, _, rfl⟩
  · exact dup_is fd s
  · exact ⟨_, _, _, _, _, _, _, rfl⟩
  · exact ⟨_, _, _, _, _, _, _, rfl⟩
  · exact ⟨_, _, _, _, _, _, _, rfl⟩
theorem find_at {zs : List V} {k : Nat} {z : V} (h : (zs.take k).all (fun v => mvE v == 0) = true) (hk : zs[k]? = some z) (hz : (mvE z != 0) = true) : zs.find? (fun v => mvE v != 0) = some z := by
  have hlt := (List.getElem?_eq_some_iff.1 hk).1
  have h1 : zs = zs.take k ++ z :: zs.drop (k + 1) := by
    rw [← (List.getElem?_eq_some_iff.1 hk).2, List.getElem_cons_drop, List.take_append_drop]
  rw [h1, List.find?_append]
  have h2 : (zs.take k).find? (fun v => mvE v != 0) = none := by
    rw [List.find?_eq_none]
    intro x hx
    have := List.all_eq_true.1 h x hx
    simpa using this
  rw [h2]
  simp only [Option.none_or, List.find?_cons, hz]
theorem find_no {zs : List V} (h : zs.all (fun v => mvE v == 0) = true) : zs.find? (fun v => mvE v != 0) = none := by
  rw [List.find?_eq_none]
  intro x hx
  have := List.all_eq_true.1 h x hx
  simpa using this

theorem plan25 (rs : List RD) (ss : List ByteArray) (o : Int) (hl : rs.length ≤ 60) : FnOk Try.prog 25 [.sl (rs.map rdS), .sl (ss.map txS), .val (i64 o)] [] (fun r bs' => fr bs' r = planR rs ss (nbO o)) := by
  refine FnOk.fast (Q := fun r => r = planR rs ss (nbO o)) layOk Try.func25 rfl ?_
  refine Ok.seq (go 10 rfl ?_)
  refine Ok.seq (Ok.seq (go 10 rfl ?_))
  have hln : (((rs.map rdS).length : Int) != ((ss.map txS).length : Int)) = ((rs.length : Int) != (ss.length : Int)) := by simp
  unfold planR
  rw [← hln]
  refine Ok.cond (b := (((rs.map rdS).length : Int) != ((ss.map txS).length : Int))) rfl (fun h => ?_) (fun h => Ok.skip ?_)
  · rw [h]
    exact go 10 rfl ⟨fun _ h => (by cases h), _, rfl, rfl⟩
  rw [h]
  have hlen : rs.length = ss.length := by
    have : (rs.length : Int) = ss.length := by simpa using h
    omega
  have hz : (mvZ rs ss (nbO o)).length = rs.length := by simp [mvZ, hlen]
  generalize hzs : mvZ rs ss (nbO o) = zs at hz
  show Ok _ _ _ (Ret lay _ fun r => r = planZ zs) _ _
  refine Ok.seq (go 10 rfl ?_)
  unfold thn
  dsimp only
  refine Ok.nilT 8 62 6 rfl ?_
  refine Ok.seq (Ok.mono (Q := fun e ts bs => match zs.find? (fun v => mvE v != 0) with | some v => e = .ret ∧ bs = [] ∧ ts = ((List.replicate 44 V.gone).set 6 .nils).set 7 (.val (i64 (mvE v))) | none => e = .normal ∧ bs = [.row 62 6 (zs.map mvM)] ∧ ts = (List.replicate 44 V.gone).set 8 (.row 0)) ?_ ?_)
  · refine Ok.after (Ok.seq (go 10 rfl ?_))
    refine Ok.gc [0] [0, 1, 2, 8, 18, 19, 20] rfl (by decide) (floor_ok rfl) ?_
    refine Ok.range layOk (rs.map rdS).length (fun k ts bs => k ≤ (rs.map rdS).length ∧ (zs.take k).all (fun v => mvE v == 0) = true ∧ (∃ u, ts = ((((((((List.replicate 44 V.gone).set 0 (.sl (rs.map rdS))).set 1 (.sl (ss.map txS))).set 2 (.val (i64 o))).set 8 (.row 0)).set 18 (.sl (rs.map rdS))).set 19 (.val (i64 (rs.map rdS).length))).set 42 u).set 20 (.val (i64 k))) ∧ bs = [.row 62 6 ((zs.take k).map mvM)]) rfl rfl rfl rfl rfl rfl rfl rfl rfl (by simp; omega) ?_ ?_ ?_ ?_
    · exact ⟨Nat.zero_le _, rfl, ⟨.gone, by kernel_rfl⟩, rfl⟩
    · rintro k _ _ ⟨h, _, ⟨u, rfl⟩, rfl⟩
      exact ⟨rfl, rfl, by simp, h⟩
    · rintro k _ _ hk ⟨_, hall, ⟨u, rfl⟩, rfl⟩
      have hk2 : k < rs.length := by simpa using hk
      obtain ⟨r, hr⟩ : ∃ r, rs[k]? = some r := ⟨_, List.getElem?_eq_getElem hk2⟩
      obtain ⟨s, hs⟩ : ∃ s, ss[k]? = some s := ⟨_, List.getElem?_eq_getElem (by omega)⟩
      have hget : zs[k]? = some (mvR r.fd r.op s (nbO o)) := by
        rw [← hzs]
        have hzip : (rs.zip ss)[k]? = some (r, s) := List.getElem?_zip_eq_some.2 ⟨hr, hs⟩
        simp only [mvZ, List.getElem?_map, hzip, Option.map_some]
      have hT0 := fact (mv39 r.pos r.fd r.op r.wp r.w s o) rfl (by obtain ⟨k, a, b, c, p, t, e, hv⟩ := mv_is r.fd r.op s (nbO o); rw [hv]; rfl) Try.call39
      obtain ⟨k0, a, b, c, p, t, e, hv⟩ := mv_is r.fd r.op s (nbO o)
      rw [hv] at hget hT0
      have hT : ∀ e0 ∈ [((39 : FuncId), [rdV r.pos r.fd r.op r.wp r.w, V.val (.string s), V.val (i64 o)], V.tup [mvV k0 a b c p t, .val (i64 e)])], (∀ bs, FnOk Try.prog e0.1 e0.2.1 bs (fun r b => r = e0.2.2 ∧ b = bs)) ∧ Enters Try.prog e0.1 := by
        intro e0 he
        obtain rfl := List.mem_singleton.1 he
        exact hT0
      simp only [List.replicate, List.set]
      refine Ok.block (Ok.after (Ok.seq (Ok.regionW (G := fun _ => false) (C := fun _ _ _ => none) mixed layOk noCalls (fun _ _ h => by cases h) (.inl rfl) ?_)))
      refine wstepN rfl rfl (by dsimp only [putV, List.set]) ?_
      refine wstepN rfl (ev_ix (xs := rs.map rdS) (e := rdS r) rfl rfl rfl (by rw [List.getElem?_map, hr]; rfl) rfl) (by dsimp only [putV, List.set]) ?_
      repeat refine wstepN rfl rfl (by dsimp only [putV, List.set]) ?_
      refine wnil ?_
      refine Ok.seq (Ok.regionW (G := fun _ => true) (C := Tab _) mixed layOk (Tab_good hT) Tab_calm (.inr ⟨by kernel_rfl, by kernel_rfl⟩) ?_)
      refine wstepN rfl rfl (by dsimp only [putV, List.set]) ?_
      refine wstepN rfl rfl (by dsimp only [putV, List.set]) ?_
      refine wstepN rfl rfl (by dsimp only [putV, List.set]) ?_
      refine wstepN rfl (ev_ix (xs := ss.map txS) (e := txS s) rfl rfl rfl (by rw [List.getElem?_map, hs]; rfl) rfl) (by dsimp only [putV, List.set]) ?_
      refine wstepN rfl rfl (by dsimp only [putV, List.set]) ?_
      refine wstepN rfl rfl (by dsimp only [putV, List.set]) ?_
      refine wstepN rfl Tab_hit (by dsimp only [putV, List.set]) ?_
      repeat refine wstepN rfl rfl (by dsimp only [putV, List.set]) ?_
      refine wnil ?_
      refine Ok.seq (Ok.seq (Ok.regionW (G := fun _ => false) (C := fun _ _ _ => none) mixed layOk noCalls (fun _ _ h => by cases h) (.inl rfl) ?_))
      generalize he : (e != 0) = ne
      refine wstepN rfl rfl (by dsimp only [putV, List.set]) ?_
      refine wstepN rfl (neqK he rfl rfl) (by dsimp only [putV, List.set]) ?_
      refine wnil (Ok.cond (b := ne) rfl (fun h => ?_) (fun h => Ok.skip ?_))
      · subst h
        have hf := find_at hall hget he
        rw [hf]
        refine go 10 rfl ?_
        refine ⟨[], [6, 7], _, rfl, by decide, floor_ok rfl, ?_⟩
        exact ⟨[], [6, 7], _, rfl, by decide, floor_ok rfl, rfl, rfl, rfl⟩
      · subst h
        unfold thn
        dsimp only
        refine Ok.regionW (G := fun _ => false) (C := fun _ _ _ => none) mixed layOk noCalls (fun _ _ h => by cases h) (.inl rfl) ?_
        refine wstepN rfl rfl (by dsimp only [putV, List.set]) ?_
        refine wstepN rfl rfl (by dsimp only [putV, List.set]) ?_
        refine wstepN rfl rfl (by dsimp only [putV, List.set]) ?_
        refine wstepN rfl (ev_app (xs := (zs.take k).map mvM) (ys := [mvS k0 a b c p t]) rfl rfl rfl rfl rfl rfl rfl (by simp; omega) (by simp; omega)) (by dsimp only [putV, List.set]) ?_
        refine wstepN rfl rfl (by dsimp only [putV, List.set]) ?_
        refine wnil ?_
        refine ⟨[4], [0, 1, 2, 8, 18, 19, 20], _, rfl, by decide, floor_ok rfl, ?_⟩
        refine ⟨by kernel_rfl, Nat.lt_of_lt_of_eq (by decide : 42 < 44) (by kernel_rfl), hk, ?_, ⟨.val (i64 ((k + 1 : Nat) : Int)), by kernel_rfl⟩, ?_⟩
        · rw [List.take_add_one, hget]
          simp only [Option.toList_some, List.all_append, hall, List.all_cons, List.all_nil, Bool.and_true, Bool.true_and]
          show (e == 0) = true
          simpa using he
        · rw [List.take_add_one, hget]
          simp [mvM]
    · rintro _ _ ⟨_, hall, ⟨u, rfl⟩, rfl⟩
      have h1 : (rs.map rdS).length = zs.length := by rw [hz]; simp
      rw [h1, List.take_length] at hall
      rw [find_no hall]
      refine ⟨[0], [8], _, rfl, by decide, floor_ok rfl, rfl, ?_, by kernel_rfl⟩
      rw [h1, List.take_length]
  intro e ts bs he
  unfold planZ
  cases hf : zs.find? (fun v => mvE v != 0) with
  | some v =>
    rw [hf] at he
    obtain ⟨rfl, rfl, rfl⟩ := he
    exact ⟨fun _ h => (by cases h), _, rfl, rfl⟩
  | none =>
    rw [hf] at he
    obtain ⟨rfl, rfl, rfl⟩ := he
    exact goOut 10 rfl rfl

theorem plan26 (rs : List RD) (ss : List ByteArray) (o : Int) (hl : rs.length ≤ 60) : FnOk Try.prog 26 [.sl (rs.map rdS), .sl (ss.map txS), .val (i64 o)] [] (fun r bs' => fr bs' r = planR rs ss (nbO o)) := by
  refine FnOk.fast (Q := fun r => r = planR rs ss (nbO o)) layOk Try.func26 rfl ?_
  refine Ok.seq (go 10 rfl ?_)
  refine Ok.seq (Ok.seq (go 10 rfl ?_))
  have hln : (((rs.map rdS).length : Int) != ((ss.map txS).length : Int)) = ((rs.length : Int) != (ss.length : Int)) := by simp
  unfold planR
  rw [← hln]
  refine Ok.cond (b := (((rs.map rdS).length : Int) != ((ss.map txS).length : Int))) rfl (fun h => ?_) (fun h => Ok.skip ?_)
  · rw [h]
    exact go 10 rfl ⟨fun _ h => (by cases h), _, rfl, rfl⟩
  rw [h]
  have hlen : rs.length = ss.length := by
    have : (rs.length : Int) = ss.length := by simpa using h
    omega
  have hz : (mvZ rs ss (nbO o)).length = rs.length := by simp [mvZ, hlen]
  generalize hzs : mvZ rs ss (nbO o) = zs at hz
  show Ok _ _ _ (Ret lay _ fun r => r = planZ zs) _ _
  refine Ok.seq (go 10 rfl ?_)
  unfold thn
  dsimp only
  refine Ok.nilT 8 62 6 rfl ?_
  refine Ok.seq (Ok.mono (Q := fun e ts bs => match zs.find? (fun v => mvE v != 0) with | some v => e = .ret ∧ bs = [] ∧ ts = ((List.replicate 46 V.gone).set 6 .nils).set 7 (.val (i64 (mvE v))) | none => e = .normal ∧ bs = [.row 62 6 (zs.map mvM)] ∧ ts = (List.replicate 46 V.gone).set 8 (.row 0)) ?_ ?_)
  · refine Ok.after (Ok.seq (go 10 rfl ?_))
    refine Ok.gc [0] [0, 1, 2, 8, 17, 18, 19] rfl (by decide) (floor_ok rfl) ?_
    refine Ok.range layOk (rs.map rdS).length (fun k ts bs => k ≤ (rs.map rdS).length ∧ (zs.take k).all (fun v => mvE v == 0) = true ∧ (∃ u, ts = ((((((((List.replicate 46 V.gone).set 0 (.sl (rs.map rdS))).set 1 (.sl (ss.map txS))).set 2 (.val (i64 o))).set 8 (.row 0)).set 17 (.sl (rs.map rdS))).set 18 (.val (i64 (rs.map rdS).length))).set 44 u).set 19 (.val (i64 k))) ∧ bs = [.row 62 6 ((zs.take k).map mvM)]) rfl rfl rfl rfl rfl rfl rfl rfl rfl (by simp; omega) ?_ ?_ ?_ ?_
    · exact ⟨Nat.zero_le _, rfl, ⟨.gone, by kernel_rfl⟩, rfl⟩
    · rintro k _ _ ⟨h, _, ⟨u, rfl⟩, rfl⟩
      exact ⟨rfl, rfl, by simp, h⟩
    · rintro k _ _ hk ⟨_, hall, ⟨u, rfl⟩, rfl⟩
      have hk2 : k < rs.length := by simpa using hk
      obtain ⟨r, hr⟩ : ∃ r, rs[k]? = some r := ⟨_, List.getElem?_eq_getElem hk2⟩
      obtain ⟨s, hs⟩ : ∃ s, ss[k]? = some s := ⟨_, List.getElem?_eq_getElem (by omega)⟩
      have hget : zs[k]? = some (mvR r.fd r.op s (nbO o)) := by
        rw [← hzs]
        have hzip : (rs.zip ss)[k]? = some (r, s) := List.getElem?_zip_eq_some.2 ⟨hr, hs⟩
        simp only [mvZ, List.getElem?_map, hzip, Option.map_some]
      have hT0 := fact (mv40 r.pos r.fd r.op r.wp r.w s (nbO o)) rfl (by obtain ⟨k, a, b, c, p, t, e, hv⟩ := mv_is r.fd r.op s (nbO o); rw [hv]; rfl) Try.call40
      obtain ⟨k0, a, b, c, p, t, e, hv⟩ := mv_is r.fd r.op s (nbO o)
      rw [hv] at hget hT0
      have hT : ∀ e0 ∈ [((40 : FuncId), [rdV r.pos r.fd r.op r.wp r.w, V.val (.string s), V.val (.bool (nbO o))], V.tup [mvV k0 a b c p t, .val (i64 e)])], (∀ bs, FnOk Try.prog e0.1 e0.2.1 bs (fun r b => r = e0.2.2 ∧ b = bs)) ∧ Enters Try.prog e0.1 := by
        intro e0 he
        obtain rfl := List.mem_singleton.1 he
        exact hT0
      simp only [List.replicate, List.set]
      refine Ok.block (Ok.after (Ok.seq (Ok.regionW (G := fun _ => false) (C := fun _ _ _ => none) mixed layOk noCalls (fun _ _ h => by cases h) (.inl rfl) ?_)))
      refine wstepN rfl rfl (by dsimp only [putV, List.set]) ?_
      refine wstepN rfl rfl (by dsimp only [putV, List.set]) ?_
      refine wnil ?_
      refine Ok.seq (Ok.regionW (G := fun _ => true) (C := Tab _) mixed layOk (Tab_good hT) Tab_calm (.inr ⟨by kernel_rfl, by kernel_rfl⟩) ?_)
      refine wstepN rfl rfl (by dsimp only [putV, List.set]) ?_
      refine wstepN rfl rfl (by dsimp only [putV, List.set]) ?_
      refine wstepN rfl (ev_ix (xs := rs.map rdS) (e := rdS r) rfl rfl rfl (by rw [List.getElem?_map, hr]; rfl) rfl) (by dsimp only [putV, List.set]) ?_
      refine wstepN rfl rfl (by dsimp only [putV, List.set]) ?_
      refine wstepN rfl rfl (by dsimp only [putV, List.set]) ?_
      refine wstepN rfl rfl (by dsimp only [putV, List.set]) ?_
      refine wstepN rfl (ev_ix (xs := ss.map txS) (e := txS s) rfl rfl rfl (by rw [List.getElem?_map, hs]; rfl) rfl) (by dsimp only [putV, List.set]) ?_
      refine wstepN rfl rfl (by dsimp only [putV, List.set]) ?_
      refine wstepN rfl rfl (by dsimp only [putV, List.set]) ?_
      refine wstepN rfl rfl (by dsimp only [putV, List.set]) ?_
      refine wstepN rfl (neqK (k := .i64) (a := andI o) (b := 0) (v := nbO o) rfl rfl rfl) (by dsimp only [putV, List.set]) ?_
      refine wstepN rfl Tab_hit (by dsimp only [putV, List.set]) ?_
      repeat refine wstepN rfl rfl (by dsimp only [putV, List.set]) ?_
      refine wnil ?_
      refine Ok.seq (Ok.seq (Ok.regionW (G := fun _ => false) (C := fun _ _ _ => none) mixed layOk noCalls (fun _ _ h => by cases h) (.inl rfl) ?_))
      generalize he : (e != 0) = ne
      refine wstepN rfl rfl (by dsimp only [putV, List.set]) ?_
      refine wstepN rfl (neqK he rfl rfl) (by dsimp only [putV, List.set]) ?_
      refine wnil (Ok.cond (b := ne) rfl (fun h => ?_) (fun h => Ok.skip ?_))
      · subst h
        have hf := find_at hall hget he
        rw [hf]
        refine go 10 rfl ?_
        refine ⟨[], [6, 7], _, rfl, by decide, floor_ok rfl, ?_⟩
        exact ⟨[], [6, 7], _, rfl, by decide, floor_ok rfl, rfl, rfl, rfl⟩
      · subst h
        unfold thn
        dsimp only
        refine Ok.regionW (G := fun _ => false) (C := fun _ _ _ => none) mixed layOk noCalls (fun _ _ h => by cases h) (.inl rfl) ?_
        refine wstepN rfl rfl (by dsimp only [putV, List.set]) ?_
        refine wstepN rfl rfl (by dsimp only [putV, List.set]) ?_
        refine wstepN rfl rfl (by dsimp only [putV, List.set]) ?_
        refine wstepN rfl (ev_app (xs := (zs.take k).map mvM) (ys := [mvS k0 a b c p t]) rfl rfl rfl rfl rfl rfl rfl (by simp; omega) (by simp; omega)) (by dsimp only [putV, List.set]) ?_
        refine wstepN rfl rfl (by dsimp only [putV, List.set]) ?_
        refine wnil ?_
        refine ⟨[3], [0, 1, 2, 8, 17, 18, 19], _, rfl, by decide, floor_ok rfl, ?_⟩
        refine ⟨by kernel_rfl, Nat.lt_of_lt_of_eq (by decide : 44 < 46) (by kernel_rfl), hk, ?_, ⟨.val (i64 ((k + 1 : Nat) : Int)), by kernel_rfl⟩, ?_⟩
        · rw [List.take_add_one, hget]
          simp only [Option.toList_some, List.all_append, hall, List.all_cons, List.all_nil, Bool.and_true, Bool.true_and]
          show (e == 0) = true
          simpa using he
        · rw [List.take_add_one, hget]
          simp [mvM]
    · rintro _ _ ⟨_, hall, ⟨u, rfl⟩, rfl⟩
      have h1 : (rs.map rdS).length = zs.length := by rw [hz]; simp
      rw [h1, List.take_length] at hall
      rw [find_no hall]
      refine ⟨[0], [8], _, rfl, by decide, floor_ok rfl, rfl, ?_, by kernel_rfl⟩
      rw [h1, List.take_length]
  intro e ts bs he
  unfold planZ
  cases hf : zs.find? (fun v => mvE v != 0) with
  | some v =>
    rw [hf] at he
    obtain ⟨rfl, rfl, rfl⟩ := he
    exact ⟨fun _ h => (by cases h), _, rfl, rfl⟩
  | none =>
    rw [hf] at he
    obtain ⟨rfl, rfl, rfl⟩ := he
    exact goOut 10 rfl rfl

theorem eq_mv {L : Lay} {C : CallT} {ts : List V} {bs : List Bx} {t' : TypeId} {x y : Operand} {k a b c : Int} {p q : ByteArray} (hL : L.eqs 62 = some [3, 3, 3, 3, 9, 9]) (h3 : L.int 3 = some .i64) (h9 : L.str 9 = true) (hx : evO ts x = some (mvV k a b c p q)) (hy : evO ts y = some (mvV k a b c p q)) : evX L C (.binOp .neq 62 x y t') ts bs = some (.val (.bool false), bs) := by
  simp [evX, ev, hx, hy, hL, eqL, h3, h9]

theorem same27 (xs : List (List S)) (hq : ∀ x ∈ xs, IsMv x) (hl : xs.length ≤ 1000) : FnOk Try.prog 27 [.sl xs, .sl xs] [] (fun r bs' => fr bs' r = .val (.bool true)) := by
  refine FnOk.fast (Q := fun r => r = .val (.bool true)) layOk Try.func27 rfl ?_
  refine Ok.seq (go 10 rfl ?_)
  refine Ok.seq (Ok.seq (go 10 rfl ?_))
  refine Ok.cond (b := ((xs.length : Int) != xs.length)) rfl (fun h => by simp at h) (fun _ => Ok.skip ?_)
  unfold thn
  dsimp only
  refine Ok.seq (Ok.mono (Q := fun e ts bs => e = .normal ∧ bs = [] ∧ ts = (((List.replicate 26 V.gone).set 0 (.sl xs)).set 1 (.sl xs)).set 4 (.val (.bool false))) ?_ ?_)
  · refine Ok.after (Ok.seq (go 10 rfl ?_))
    refine Ok.gc [] [0, 1, 4, 12, 13] rfl (by decide) (floor_ok rfl) ?_
    refine Ok.range layOk xs.length (fun k ts bs => k ≤ xs.length ∧ bs = [] ∧ ∃ u, ts = ((((((List.replicate 26 V.gone).set 0 (.sl xs)).set 1 (.sl xs)).set 4 (.val (.bool false))).set 12 (.val (i64 xs.length))).set 25 u).set 13 (.val (i64 k))) rfl rfl rfl rfl rfl rfl rfl rfl rfl (by omega) ?_ ?_ ?_ ?_
    · exact ⟨Nat.zero_le _, rfl, .gone, by kernel_rfl⟩
    · rintro k _ _ ⟨h, rfl, u, rfl⟩
      exact ⟨rfl, rfl, by simp, h⟩
    · rintro k _ _ hk ⟨_, rfl, u, rfl⟩
      have hget : xs[k]? = some xs[k] := List.getElem?_eq_getElem hk
      obtain ⟨k0, a, b, c, p, t, hx⟩ := hq xs[k] (List.getElem_mem hk)
      rw [hx] at hget
      simp only [List.replicate, List.set]
      refine Ok.block (Ok.after (Ok.seq (go 10 rfl ?_)))
      unfold thn
      dsimp only
      refine Ok.seq (Ok.regionW (G := fun _ => false) (C := fun _ _ _ => none) mixed layOk noCalls (fun _ _ h => by cases h) (.inr ⟨by kernel_rfl, by kernel_rfl⟩) ?_)
      refine wstepN rfl rfl (by dsimp only [putV, List.set]) ?_
      refine wstepN rfl rfl (by dsimp only [putV, List.set]) ?_
      refine wstepN rfl (ev_ix (xs := xs) (e := mvS k0 a b c p t) rfl rfl rfl hget rfl) (by dsimp only [putV, List.set]) ?_
      refine wstepN rfl rfl (by dsimp only [putV, List.set]) ?_
      refine wstepN rfl rfl (by dsimp only [putV, List.set]) ?_
      refine wstepN rfl rfl (by dsimp only [putV, List.set]) ?_
      refine wstepN rfl (ev_ix (xs := xs) (e := mvS k0 a b c p t) rfl rfl rfl hget rfl) (by dsimp only [putV, List.set]) ?_
      refine wstepN rfl rfl (by dsimp only [putV, List.set]) ?_
      refine wstepN rfl (eq_mv rfl rfl rfl rfl rfl) (by dsimp only [putV, List.set]) ?_
      refine wnil ?_
      refine Ok.cond (b := false) rfl (fun h => by cases h) (fun _ => Ok.skip ?_)
      refine ⟨[], [0, 1, 4, 12, 13], _, rfl, by decide, floor_ok rfl, ?_⟩
      exact ⟨by kernel_rfl, Nat.lt_of_lt_of_eq (by decide : 25 < 26) (by kernel_rfl), hk, rfl, .val (i64 ((k + 1 : Nat) : Int)), by kernel_rfl⟩
    · rintro _ _ ⟨_, rfl, u, rfl⟩
      exact ⟨[], [0, 1, 4], _, rfl, by decide, floor_ok rfl, rfl, rfl, by kernel_rfl⟩
  rintro _ _ _ ⟨rfl, rfl, rfl⟩
  exact goOut 10 (r := .val (.bool true)) (by kernel_rfl) rfl


end Go.Proofs.YtbkjiglbkckhmaaV
