/- The value of decimal digits, of the program and of the reference. -/
import Derived.Test.YtbkjiglbkckhmaaReq
import Derived.Test.YtbkjiglbkckhmaaV26
namespace Go.Proofs.YtbkjiglbkckhmaaV
open Go Go.RowKit Go.Proofs.Ytbkjiglbkckhmaa
set_option maxRecDepth 20000
set_option maxHeartbeats 1000000

def isDg (b : Int) : Bool := decide (b ≥ 48) && decide (b ≤ 57)
/-- The byte at a place. -/
def bt (s : ByteArray) (k : Nat) : Nat := match s[k]? with | some c => c.toNat | none => 0
/-- The value of the first k digits. -/
def dv (s : ByteArray) : Nat → Nat
  | 0 => 0
  | k + 1 => 10 * dv s k + (bt s k - 48)
def badS (s : ByteArray) : Bool := decide (s = ⟨#[]⟩) || decide ((s.size : Int) > 10) || (decide ((s.size : Int) > 1) && ((bt s 0 : Int) == 48))
def allD (s : ByteArray) (n : Nat) : Bool := (List.range n).all fun k => isDg (bt s k)
/-- The value of a text of digits, and whether it is one. -/
def digR (s : ByteArray) : Int × Bool := if badS s then (0, false) else if allD s s.size then (if decide ((dv s s.size : Int) > 2147483647) then (0, false) else ((dv s s.size : Int), true)) else (0, false)

theorem bt_at {s : ByteArray} {k : Nat} (h : k < s.size) : ∃ c, s[k]? = some c ∧ bt s k = c.toNat := by
  refine ⟨s[k], getElem?_pos s k h, ?_⟩
  unfold bt
  rw [getElem?_pos s k h]
theorem isDg_lt {b : Nat} (h : isDg (b : Int) = true) : 48 ≤ b ∧ b ≤ 57 := by
  simp only [isDg, Bool.and_eq_true, decide_eq_true_eq] at h
  omega
theorem allD_succ {s : ByteArray} {k : Nat} : allD s (k + 1) = (allD s k && isDg (bt s k)) := by
  simp [allD, List.range_succ]
theorem dv_lt {s : ByteArray} : ∀ {k : Nat}, allD s k = true → dv s k < 10 ^ k
  | 0, _ => by simp [dv]
  | k + 1, h => by
    rw [allD_succ, Bool.and_eq_true] at h
    have := dv_lt h.1
    have := isDg_lt h.2
    simp only [dv, Nat.pow_succ]
    omega
theorem dv_small {s : ByteArray} {k : Nat} (h : allD s k = true) (hk : k ≤ 10) : dv s k < 10000000000 := by
  have h1 := dv_lt h
  have h2 : 10 ^ k ≤ 10 ^ 10 := Nat.pow_le_pow_right (by decide) hk
  have h3 : (10 : Nat) ^ 10 = 10000000000 := by decide
  omega
theorem allD_not {s : ByteArray} {k n : Nat} (hk : k < n) (h : isDg (bt s k) = false) : allD s n = false := by
  cases ha : allD s n with
  | false => rfl
  | true =>
    have := List.all_eq_true.1 ha k (List.mem_range.2 hk)
    rw [h] at this
    cases this
/-- The character at a place is a digit when the byte is, and then it is that byte. -/
theorem dec_dig {s : ByteArray} {p : Nat} (hp : p < s.size) : isDg ((Utf8.decode s p).1 : Int) = isDg (bt s p : Int) ∧ (isDg (bt s p : Int) = true → Utf8.decode s p = (bt s p, 1)) := by
  have hb : bt s p = (s[p]'hp).toNat := by unfold bt; rw [getElem?_pos s p hp]
  rcases Nat.lt_or_ge (s[p]'hp).toNat 128 with h | h
  · have := decode_ascii s p hp h
    rw [this, hb]
    exact ⟨rfl, fun _ => rfl⟩
  · have h1 := (decode_high s p hp h).1
    have h2 : isDg (bt s p : Int) = false := by
      rw [hb]
      simp only [isDg, Bool.and_eq_false_iff, decide_eq_false_iff_not]
      omega
    have h3 : isDg ((Utf8.decode s p).1 : Int) = false := by
      simp only [isDg, Bool.and_eq_false_iff, decide_eq_false_iff_not]
      omega
    rw [h2, h3]
    exact ⟨rfl, fun h => by cases h⟩

theorem dig52 (b : Int) : FnOk Try.prog 52 [.val (.int .u8 b)] [] (fun r bs' => fr bs' r = .val (.bool (isDg b))) := by
  refine FnOk.fast (Q := fun r => r = .val (.bool (isDg b))) layOk Try.func52 rfl ?_
  refine Ok.seq (go 10 rfl ?_)
  unfold thn
  dsimp only
  refine Ok.seq (Ok.regionW (G := fun _ => false) (C := fun _ _ _ => none) mixed layOk noCalls (fun _ _ h => by cases h) (.inl rfl) ?_)
  unfold isDg
  generalize h1 : decide (b ≥ 48) = c1
  generalize h2 : decide (b ≤ 57) = c2
  cases c1
  all_goals
    repeat (first | refine wskipN rfl (by dsimp only [putV, List.set]) ?_ | refine wstepN rfl (geqK h1 rfl rfl) (by dsimp only [putV, List.set]) ?_ | refine wstepN rfl (leqK h2 rfl rfl) (by dsimp only [putV, List.set]) ?_ | refine wstepN rfl rfl (by dsimp only [putV, List.set]) ?_)
    refine wnil ?_
    exact Ok.ret ⟨fun _ h => (by cases h), _, rfl, rfl⟩
theorem dig53 (b : Int) : FnOk Try.prog 53 [.val (.int .i32 b)] [] (fun r bs' => fr bs' r = .val (.bool (isDg b))) := by
  refine FnOk.fast (Q := fun r => r = .val (.bool (isDg b))) layOk Try.func53 rfl ?_
  refine Ok.seq (go 10 rfl ?_)
  unfold thn
  dsimp only
  refine Ok.seq (Ok.regionW (G := fun _ => false) (C := fun _ _ _ => none) mixed layOk noCalls (fun _ _ h => by cases h) (.inl rfl) ?_)
  unfold isDg
  generalize h1 : decide (b ≥ 48) = c1
  generalize h2 : decide (b ≤ 57) = c2
  cases c1
  all_goals
    repeat (first | refine wskipN rfl (by dsimp only [putV, List.set]) ?_ | refine wstepN rfl (geqK h1 rfl rfl) (by dsimp only [putV, List.set]) ?_ | refine wstepN rfl (leqK h2 rfl rfl) (by dsimp only [putV, List.set]) ?_ | refine wstepN rfl rfl (by dsimp only [putV, List.set]) ?_)
    refine wnil ?_
    exact Ok.ret ⟨fun _ h => (by cases h), _, rfl, rfl⟩

theorem digT (b : Int) : ∀ e ∈ [((52 : FuncId), [V.val (.int .u8 b)], V.val (.bool (isDg b))), (53, [V.val (.int .i32 b)], V.val (.bool (isDg b)))], (∀ bs, FnOk Try.prog e.1 e.2.1 bs (fun r b => r = e.2.2 ∧ b = bs)) ∧ Enters Try.prog e.1 := by
  intro e he
  simp only [List.mem_cons, List.not_mem_nil, or_false] at he
  rcases he with rfl | rfl
  · exact fact (dig52 b) rfl rfl Try.call52
  · exact fact (dig53 b) rfl rfl Try.call53

def digV (s : ByteArray) : V := .tup [.val (i64 (digR s).1), .val (.bool (digR s).2)]

/-- A text that is bad at first sight, or fit to be read digit by digit. -/
theorem bad_sight (s : ByteArray) (e g o : Bool) (h1 : decide (s = ⟨#[]⟩) = e) (h2 : decide ((s.size : Int) > 10) = g) (h3 : decide ((s.size : Int) > 1) = o) : badS s = (e || g || (o && ((bt s 0 : Int) == 48))) := by
  unfold badS
  rw [h1, h2, h3]
theorem size_ne {s : ByteArray} (h : decide (s = ⟨#[]⟩) = false) : 0 < s.size := by
  rcases Nat.eq_zero_or_pos s.size with h0 | h0
  · have : s = ⟨#[]⟩ := by
      apply ByteArray.ext
      exact Array.eq_empty_of_size_eq_zero h0
    simp [this] at h
  · exact h0

theorem digits49 (s : ByteArray) : FnOk Try.prog 49 [.val (.string s)] [] (fun r bs' => fr bs' r = digV s) := by
  refine FnOk.fast (Q := fun r => r = digV s) layOk Try.func49 rfl ?_
  refine Ok.seq (go 10 rfl ?_)
  unfold thn
  dsimp only
  refine Ok.seq (Ok.mono (Q := fun e ts bs => if badS s then e = .ret ∧ bs = [] ∧ ts = ((List.replicate 45 V.gone).set 2 (.val (i64 0))).set 3 (.val (.bool false)) else e = .normal ∧ bs = [] ∧ ts = (List.replicate 45 V.gone).set 0 (.val (.string s))) ?_ ?_)
  · refine Ok.after (Ok.seq (Ok.regionW (G := fun _ => false) (C := fun _ _ _ => none) mixed layOk noCalls (fun _ _ h => by cases h) (.inl rfl) ?_))
    generalize h1 : decide (s = ⟨#[]⟩) = e
    generalize h2 : decide ((s.size : Int) > 10) = g
    generalize h3 : decide ((s.size : Int) > 1) = o
    have hbad := bad_sight s e g o h1 h2 h3
    cases e
    · have hpos := size_ne h1
      obtain ⟨c0, hc0, hb0⟩ := bt_at hpos
      rw [hb0] at hbad
      generalize h4 : ((c0.toNat : Int) == 48) = q at hbad
      cases g
      · cases q
        · have hf : badS s = false := by rw [hbad]; cases o <;> rfl
          rw [hf]
          repeat (first | refine wskipN rfl (by dsimp only [putV, List.set]) ?_ | refine wstepN rfl (eqlS h1 rfl rfl) (by dsimp only [putV, List.set]) ?_ | refine wstepN rfl (gtrK h2 rfl rfl) (by dsimp only [putV, List.set]) ?_ | refine wstepN rfl (gtrK h3 rfl rfl) (by dsimp only [putV, List.set]) ?_ | refine wstepN rfl (idxK (z := 0) rfl rfl rfl hc0) (by dsimp only [putV, List.set]) ?_ | refine wstepN rfl (eqlK h4 rfl rfl) (by dsimp only [putV, List.set]) ?_ | refine wstepN rfl rfl (by dsimp only [putV, List.set]) ?_)
          refine wnil (Ok.cond (b := false) rfl (fun h => by cases h) (fun _ => Ok.skip ?_))
          exact ⟨[], [0], _, rfl, by decide, floor_ok rfl, rfl, rfl, rfl⟩
        · rw [hbad]
          cases o
          · repeat (first | refine wskipN rfl (by dsimp only [putV, List.set]) ?_ | refine wstepN rfl (eqlS h1 rfl rfl) (by dsimp only [putV, List.set]) ?_ | refine wstepN rfl (gtrK h2 rfl rfl) (by dsimp only [putV, List.set]) ?_ | refine wstepN rfl (gtrK h3 rfl rfl) (by dsimp only [putV, List.set]) ?_ | refine wstepN rfl (idxK (z := 0) rfl rfl rfl hc0) (by dsimp only [putV, List.set]) ?_ | refine wstepN rfl (eqlK h4 rfl rfl) (by dsimp only [putV, List.set]) ?_ | refine wstepN rfl rfl (by dsimp only [putV, List.set]) ?_)
            refine wnil (Ok.cond (b := false) rfl (fun h => by cases h) (fun _ => Ok.skip ?_))
            exact ⟨[], [0], _, rfl, by decide, floor_ok rfl, rfl, rfl, rfl⟩
          · repeat (first | refine wskipN rfl (by dsimp only [putV, List.set]) ?_ | refine wstepN rfl (eqlS h1 rfl rfl) (by dsimp only [putV, List.set]) ?_ | refine wstepN rfl (gtrK h2 rfl rfl) (by dsimp only [putV, List.set]) ?_ | refine wstepN rfl (gtrK h3 rfl rfl) (by dsimp only [putV, List.set]) ?_ | refine wstepN rfl (idxK (z := 0) rfl rfl rfl hc0) (by dsimp only [putV, List.set]) ?_ | refine wstepN rfl (eqlK h4 rfl rfl) (by dsimp only [putV, List.set]) ?_ | refine wstepN rfl rfl (by dsimp only [putV, List.set]) ?_)
            refine wnil (Ok.cond (b := true) rfl (fun _ => ?_) (fun h => by cases h))
            refine go 10 rfl ?_
            exact ⟨[], [2, 3], _, rfl, by decide, floor_ok rfl, rfl, rfl, rfl⟩
      · rw [hbad]
        repeat (first | refine wskipN rfl (by dsimp only [putV, List.set]) ?_ | refine wstepN rfl (eqlS h1 rfl rfl) (by dsimp only [putV, List.set]) ?_ | refine wstepN rfl (gtrK h2 rfl rfl) (by dsimp only [putV, List.set]) ?_ | refine wstepN rfl rfl (by dsimp only [putV, List.set]) ?_)
        refine wnil (Ok.cond (b := true) rfl (fun _ => ?_) (fun h => by cases h))
        refine go 10 rfl ?_
        exact ⟨[], [2, 3], _, rfl, by decide, floor_ok rfl, rfl, rfl, rfl⟩
    · rw [hbad]
      repeat (first | refine wskipN rfl (by dsimp only [putV, List.set]) ?_ | refine wstepN rfl (eqlS h1 rfl rfl) (by dsimp only [putV, List.set]) ?_ | refine wstepN rfl rfl (by dsimp only [putV, List.set]) ?_)
      refine wnil (Ok.cond (b := true) rfl (fun _ => ?_) (fun h => by cases h))
      refine go 10 rfl ?_
      exact ⟨[], [2, 3], _, rfl, by decide, floor_ok rfl, rfl, rfl, rfl⟩
  intro e ts bs he
  unfold digV digR
  cases hbad : badS s with
  | true =>
    rw [hbad] at he
    obtain ⟨rfl, rfl, rfl⟩ := he
    exact ⟨fun _ h => (by cases h), _, rfl, rfl⟩
  | false =>
    rw [hbad] at he
    obtain ⟨rfl, rfl, rfl⟩ := he
    have hsz : s.size ≤ 10 := by
      unfold badS at hbad
      simp only [Bool.or_eq_false_iff, decide_eq_false_iff_not] at hbad
      omega
    unfold thn
    dsimp only
    refine Ok.seq (go 10 rfl ?_)
    unfold thn
    dsimp only
    refine Ok.seq (Ok.mono (Q := fun e ts bs => bs = [] ∧ if allD s s.size then e = .normal ∧ ts = (List.replicate 45 V.gone).set 4 (.val (i64 (dv s s.size))) else e = .ret ∧ ts = ((List.replicate 45 V.gone).set 2 (.val (i64 0))).set 3 (.val (.bool false))) ?_ ?_)
    · refine Ok.after (Ok.seq (go 10 rfl ?_))
      refine Ok.gc [] [0, 4, 5] rfl (by decide) (floor_ok rfl) ?_
      refine Ok.count s.size (fun k ts bs => k ≤ s.size ∧ allD s k = true ∧ bs = [] ∧ ts = (((List.replicate 45 V.gone).set 0 (.val (.string s))).set 4 (.val (i64 (dv s k)))).set 5 (.val (i64 k))) ⟨Nat.zero_le _, rfl, rfl, by kernel_rfl⟩ ?_
      rintro k _ _ ⟨hk, hall, rfl, rfl⟩
      simp only [List.replicate, List.set]
      refine Ok.after (Ok.seq (Ok.seq (Ok.regionW (G := fun _ => false) (C := fun _ _ _ => none) mixed layOk noCalls (fun _ _ h => by cases h) (.inl rfl) ?_)))
      generalize h1 : decide ((k : Int) < s.size) = c1
      repeat (first | refine wstepN rfl (lssK h1 rfl rfl) (by dsimp only [putV, List.set]) ?_ | refine wstepN rfl rfl (by dsimp only [putV, List.set]) ?_)
      refine wnil (Ok.cond (b := c1) rfl (fun h => Ok.skip ?_) (fun h => Ok.exit ?_))
      · subst h
        have hlt : k < s.size := by simpa using h1
        obtain ⟨c, hc, hbt⟩ := bt_at hlt
        have hsm := dv_small hall (by omega)
        unfold thn
        dsimp only
        refine Ok.seq (Ok.block (Ok.seq (Ok.seq (Ok.regionW (G := fun _ => true) (C := Tab _) mixed layOk (Tab_good (digT c.toNat)) Tab_calm (.inl rfl) ?_))))
        refine wstepN rfl rfl (by dsimp only [putV, List.set]) ?_
        refine wstepN rfl rfl (by dsimp only [putV, List.set]) ?_
        refine wstepN rfl (idxK (z := k) rfl rfl rfl hc) (by dsimp only [putV, List.set]) ?_
        refine wstepN rfl Tab_hit (by dsimp only [putV, List.set]) ?_
        generalize hd : isDg (c.toNat : Int) = d
        refine wstepN rfl rfl (by dsimp only [putV, List.set]) ?_
        refine wnil (Ok.cond (b := !d) rfl (fun h => ?_) (fun h => Ok.skip ?_))
        · obtain rfl : d = false := by simpa using h
          have hno : allD s s.size = false := allD_not hlt (by rw [hbt]; exact hd)
          rw [hno]
          refine go 10 rfl ?_
          refine ⟨[], [2, 3], _, rfl, by decide, floor_ok rfl, ?_⟩
          exact ⟨[], [2, 3], _, rfl, by decide, floor_ok rfl, rfl, rfl, rfl⟩
        · obtain rfl : d = true := by simpa using h
          have hdg := isDg_lt hd
          unfold thn
          dsimp only
          refine Ok.regionW (G := fun _ => false) (C := fun _ _ _ => none) mixed layOk noCalls (fun _ _ h => by cases h) (.inl rfl) ?_
          refine wstepN rfl rfl (by dsimp only [putV, List.set]) ?_
          refine wstepN rfl (mulK (n := 10 * (dv s k : Int)) (wrap64 (by omega) (by omega)) rfl rfl) (by dsimp only [putV, List.set]) ?_
          refine wstepN rfl rfl (by dsimp only [putV, List.set]) ?_
          refine wstepN rfl rfl (by dsimp only [putV, List.set]) ?_
          refine wstepN rfl (idxK (z := k) rfl rfl rfl hc) (by dsimp only [putV, List.set]) ?_
          refine wstepN rfl (subK (n := ((c.toNat - 48 : Nat) : Int)) (by rw [wrap8 (by omega) (by omega)]; omega) rfl rfl) (by dsimp only [putV, List.set]) ?_
          refine wstepN rfl (convK (n := ((c.toNat - 48 : Nat) : Int)) rfl rfl (wrap64 (by omega) (by omega)) rfl) (by dsimp only [putV, List.set]) ?_
          refine wstepN rfl (addK (n := ((dv s (k + 1) : Nat) : Int)) (by rw [wrap64 (by omega) (by omega)]; simp only [dv, hbt]; omega) rfl rfl) (by dsimp only [putV, List.set]) ?_
          refine wstepN rfl rfl (by dsimp only [putV, List.set]) ?_
          refine wnil ?_
          unfold blk
          dsimp only
          refine Ok.regionW (G := fun _ => false) (C := fun _ _ _ => none) mixed layOk noCalls (fun _ _ h => by cases h) (.inl rfl) ?_
          refine wstepN rfl rfl (by dsimp only [putV, List.set]) ?_
          refine wstepN rfl (addK (n := ((k + 1 : Nat) : Int)) (by rw [wrap64 (by omega) (by omega)]; omega) rfl rfl) (by dsimp only [putV, List.set]) ?_
          refine wstepN rfl rfl (by dsimp only [putV, List.set]) ?_
          refine wnil ?_
          refine ⟨[], [0, 4, 5], _, rfl, by decide, floor_ok rfl, hlt, hlt, ?_, rfl, by kernel_rfl⟩
          rw [allD_succ, hall, hbt, hd]
          rfl
      · subst h
        obtain rfl : k = s.size := by
          have : ¬ k < s.size := by simpa using h1
          omega
        rw [hall]
        refine ⟨[], [4], _, rfl, by decide, floor_ok rfl, ?_⟩
        exact ⟨[], [4], _, rfl, by decide, floor_ok rfl, rfl, rfl, by kernel_rfl⟩
    intro e ts bs he
    obtain ⟨rfl, he⟩ := he
    cases hall : allD s s.size with
    | false =>
      rw [hall] at he
      obtain ⟨rfl, rfl⟩ := he
      exact ⟨fun _ h => (by cases h), _, rfl, rfl⟩
    | true =>
      rw [hall] at he
      obtain ⟨rfl, rfl⟩ := he
      have hsm := dv_small hall hsz
      unfold thn
      dsimp only
      refine Ok.seq (Ok.seq (Ok.regionW (G := fun _ => false) (C := fun _ _ _ => none) mixed layOk noCalls (fun _ _ h => by cases h) (.inl rfl) ?_))
      simp only [List.replicate, List.set]
      generalize h1 : decide ((dv s s.size : Int) > 2147483647) = c1
      refine wstepN rfl rfl (by dsimp only [putV, List.set]) ?_
      refine wstepN rfl (gtrK h1 rfl rfl) (by dsimp only [putV, List.set]) ?_
      refine wnil (Ok.cond (b := c1) rfl (fun h => ?_) (fun h => Ok.skip ?_))
      · subst h
        exact go 10 rfl ⟨fun _ h => (by cases h), _, rfl, rfl⟩
      · subst h
        exact go 10 rfl ⟨fun _ h => (by cases h), _, rfl, rfl⟩

theorem digits51 (s : ByteArray) : FnOk Try.prog 51 [.val (.string s)] [] (fun r bs' => fr bs' r = digV s) := by
  refine FnOk.fast (Q := fun r => r = digV s) layOk Try.func51 rfl ?_
  refine Ok.seq (go 10 rfl ?_)
  unfold thn
  dsimp only
  refine Ok.seq (Ok.mono (Q := fun e ts bs => if badS s then e = .ret ∧ bs = [] ∧ ts = ((List.replicate 41 V.gone).set 2 (.val (i64 0))).set 3 (.val (.bool false)) else e = .normal ∧ bs = [] ∧ ts = (List.replicate 41 V.gone).set 0 (.val (.string s))) ?_ ?_)
  · refine Ok.after (Ok.seq (Ok.regionW (G := fun _ => false) (C := fun _ _ _ => none) mixed layOk noCalls (fun _ _ h => by cases h) (.inl rfl) ?_))
    generalize h1 : decide (s = ⟨#[]⟩) = e
    generalize h2 : decide ((s.size : Int) > 10) = g
    generalize h3 : decide ((s.size : Int) > 1) = o
    have hbad := bad_sight s e g o h1 h2 h3
    cases e
    · have hpos := size_ne h1
      obtain ⟨c0, hc0, hb0⟩ := bt_at hpos
      rw [hb0] at hbad
      generalize h4 : ((c0.toNat : Int) == 48) = q at hbad
      cases g
      · cases q
        · have hf : badS s = false := by rw [hbad]; cases o <;> rfl
          rw [hf]
          cases o
          all_goals
            repeat (first | refine wskipN rfl (by dsimp only [putV, List.set]) ?_ | refine wstepN rfl (eqlS h1 rfl rfl) (by dsimp only [putV, List.set]) ?_ | refine wstepN rfl (gtrK h2 rfl rfl) (by dsimp only [putV, List.set]) ?_ | refine wstepN rfl (gtrK h3 rfl rfl) (by dsimp only [putV, List.set]) ?_ | refine wstepN rfl (idxK (z := 0) rfl rfl rfl hc0) (by dsimp only [putV, List.set]) ?_ | refine wstepN rfl (eqlK h4 rfl rfl) (by dsimp only [putV, List.set]) ?_ | refine wstepN rfl rfl (by dsimp only [putV, List.set]) ?_)
            refine wnil (Ok.cond (b := false) rfl (fun h => by cases h) (fun _ => Ok.skip ?_))
            exact ⟨[], [0], _, rfl, by decide, floor_ok rfl, rfl, rfl, rfl⟩
        · rw [hbad]
          cases o
          · repeat (first | refine wskipN rfl (by dsimp only [putV, List.set]) ?_ | refine wstepN rfl (eqlS h1 rfl rfl) (by dsimp only [putV, List.set]) ?_ | refine wstepN rfl (gtrK h2 rfl rfl) (by dsimp only [putV, List.set]) ?_ | refine wstepN rfl (gtrK h3 rfl rfl) (by dsimp only [putV, List.set]) ?_ | refine wstepN rfl (idxK (z := 0) rfl rfl rfl hc0) (by dsimp only [putV, List.set]) ?_ | refine wstepN rfl (eqlK h4 rfl rfl) (by dsimp only [putV, List.set]) ?_ | refine wstepN rfl rfl (by dsimp only [putV, List.set]) ?_)
            refine wnil (Ok.cond (b := false) rfl (fun h => by cases h) (fun _ => Ok.skip ?_))
            exact ⟨[], [0], _, rfl, by decide, floor_ok rfl, rfl, rfl, rfl⟩
          · repeat (first | refine wskipN rfl (by dsimp only [putV, List.set]) ?_ | refine wstepN rfl (eqlS h1 rfl rfl) (by dsimp only [putV, List.set]) ?_ | refine wstepN rfl (gtrK h2 rfl rfl) (by dsimp only [putV, List.set]) ?_ | refine wstepN rfl (gtrK h3 rfl rfl) (by dsimp only [putV, List.set]) ?_ | refine wstepN rfl (idxK (z := 0) rfl rfl rfl hc0) (by dsimp only [putV, List.set]) ?_ | refine wstepN rfl (eqlK h4 rfl rfl) (by dsimp only [putV, List.set]) ?_ | refine wstepN rfl rfl (by dsimp only [putV, List.set]) ?_)
            refine wnil (Ok.cond (b := true) rfl (fun _ => ?_) (fun h => by cases h))
            refine go 10 rfl ?_
            exact ⟨[], [2, 3], _, rfl, by decide, floor_ok rfl, rfl, rfl, rfl⟩
      · rw [hbad]
        repeat (first | refine wskipN rfl (by dsimp only [putV, List.set]) ?_ | refine wstepN rfl (eqlS h1 rfl rfl) (by dsimp only [putV, List.set]) ?_ | refine wstepN rfl (gtrK h2 rfl rfl) (by dsimp only [putV, List.set]) ?_ | refine wstepN rfl rfl (by dsimp only [putV, List.set]) ?_)
        refine wnil (Ok.cond (b := true) rfl (fun _ => ?_) (fun h => by cases h))
        refine go 10 rfl ?_
        exact ⟨[], [2, 3], _, rfl, by decide, floor_ok rfl, rfl, rfl, rfl⟩
    · rw [hbad]
      repeat (first | refine wskipN rfl (by dsimp only [putV, List.set]) ?_ | refine wstepN rfl (eqlS h1 rfl rfl) (by dsimp only [putV, List.set]) ?_ | refine wstepN rfl rfl (by dsimp only [putV, List.set]) ?_)
      refine wnil (Ok.cond (b := true) rfl (fun _ => ?_) (fun h => by cases h))
      refine go 10 rfl ?_
      exact ⟨[], [2, 3], _, rfl, by decide, floor_ok rfl, rfl, rfl, rfl⟩
  intro e ts bs he
  unfold digV digR
  cases hbad : badS s with
  | true =>
    rw [hbad] at he
    obtain ⟨rfl, rfl, rfl⟩ := he
    exact ⟨fun _ h => (by cases h), _, rfl, rfl⟩
  | false =>
    rw [hbad] at he
    obtain ⟨rfl, rfl, rfl⟩ := he
    have hsz : s.size ≤ 10 := by
      unfold badS at hbad
      simp only [Bool.or_eq_false_iff, decide_eq_false_iff_not] at hbad
      omega
    unfold thn
    dsimp only
    refine Ok.seq (go 10 rfl ?_)
    unfold thn
    dsimp only
    refine Ok.seq (Ok.mono (Q := fun e ts bs => bs = [] ∧ if allD s s.size then e = .normal ∧ ts = (List.replicate 41 V.gone).set 4 (.val (i64 (dv s s.size))) else e = .ret ∧ ts = ((List.replicate 41 V.gone).set 2 (.val (i64 0))).set 3 (.val (.bool false))) ?_ ?_)
    · refine Ok.after (Ok.seq (go 10 rfl ?_))
      refine Ok.gc [0] [4, 25] rfl (by decide) (floor_ok rfl) ?_
      refine Ok.count s.size (fun k ts bs => k ≤ s.size ∧ allD s k = true ∧ bs = [.iter s k] ∧ ts = ((List.replicate 41 V.gone).set 4 (.val (i64 (dv s k)))).set 25 (.ptr 0 0)) ⟨Nat.zero_le _, rfl, rfl, by kernel_rfl⟩ ?_
      rintro k _ _ ⟨hk, hall, rfl, rfl⟩
      simp only [List.replicate, List.set]
      refine Ok.after (Ok.seq (Ok.regionW (G := fun _ => false) (C := fun _ _ _ => none) mixed layOk noCalls (fun _ _ h => by cases h) (.inl rfl) ?_))
      by_cases hlt : k < s.size
      · obtain ⟨hd1, hd2⟩ := dec_dig hlt
        refine wstepN rfl (next_in hlt rfl rfl) (by dsimp only [putV, List.set]) ?_
        generalize Utf8.decode s k = dc at hd1 hd2
        obtain ⟨c, w⟩ := dc
        refine wstepN rfl rfl (by dsimp only [putV, List.set]) ?_
        refine wnil ?_
        refine Ok.seq (Ok.cond (b := true) rfl (fun _ => Ok.skip ?_) (fun h => by cases h))
        refine Ok.block (Ok.seq (go 10 rfl ?_))
        unfold thn
        dsimp only
        refine Ok.seq (Ok.seq (Ok.regionW (G := fun _ => true) (C := Tab _) mixed layOk (Tab_good (fun e he => digT (c : Int) e (List.mem_cons_of_mem _ he))) Tab_calm (.inl rfl) ?_))
        have hsm := dv_small hall (by omega)
        refine wstepN rfl rfl (by dsimp only [putV, List.set]) ?_
        refine wstepN rfl Tab_hit (by dsimp only [putV, List.set]) ?_
        simp only at hd1
        generalize hd : isDg (c : Int) = d at hd1
        refine wstepN rfl rfl (by dsimp only [putV, List.set]) ?_
        refine wnil (Ok.cond (b := !d) rfl (fun h => ?_) (fun h => Ok.skip ?_))
        · obtain rfl : d = false := by simpa using h
          have hno : allD s s.size = false := allD_not hlt hd1.symm
          rw [hno]
          refine go 10 rfl ?_
          refine ⟨[], [2, 3], _, rfl, by decide, floor_ok rfl, ?_⟩
          exact ⟨[], [2, 3], _, rfl, by decide, floor_ok rfl, rfl, rfl, rfl⟩
        · obtain rfl : d = true := by simpa using h
          have hdg := isDg_lt hd
          have heq := hd2 hd1.symm
          simp only [Prod.mk.injEq] at heq
          obtain ⟨rfl, rfl⟩ := heq
          unfold thn
          dsimp only
          refine Ok.regionW (G := fun _ => false) (C := fun _ _ _ => none) mixed layOk noCalls (fun _ _ h => by cases h) (.inl rfl) ?_
          refine wstepN rfl rfl (by dsimp only [putV, List.set]) ?_
          refine wstepN rfl (mulK (n := 10 * (dv s k : Int)) (wrap64 (by omega) (by omega)) rfl rfl) (by dsimp only [putV, List.set]) ?_
          refine wstepN rfl rfl (by dsimp only [putV, List.set]) ?_
          refine wstepN rfl (subK (n := ((bt s k - 48 : Nat) : Int)) (by rw [wrap32 (by omega) (by omega)]; omega) rfl rfl) (by dsimp only [putV, List.set]) ?_
          refine wstepN rfl (convK (n := ((bt s k - 48 : Nat) : Int)) rfl rfl (wrap64 (by omega) (by omega)) rfl) (by dsimp only [putV, List.set]) ?_
          refine wstepN rfl (addK (n := ((dv s (k + 1) : Nat) : Int)) (by rw [wrap64 (by omega) (by omega)]; simp only [dv]; omega) rfl rfl) (by dsimp only [putV, List.set]) ?_
          refine wstepN rfl rfl (by dsimp only [putV, List.set]) ?_
          refine wnil ?_
          refine ⟨[0], [4, 25], _, rfl, by decide, floor_ok rfl, hlt, hlt, ?_, rfl, by kernel_rfl⟩
          rw [allD_succ, hall, hd]
          rfl
      · obtain rfl : k = s.size := by omega
        refine wstepN rfl (next_out hlt rfl rfl) (by dsimp only [putV, List.set]) ?_
        refine wstepN rfl rfl (by dsimp only [putV, List.set]) ?_
        refine wnil ?_
        refine Ok.seq (Ok.cond (b := false) rfl (fun h => by cases h) (fun _ => Ok.exit ?_))
        rw [hall]
        refine ⟨[], [4], _, rfl, by decide, floor_ok rfl, ?_⟩
        exact ⟨[], [4], _, rfl, by decide, floor_ok rfl, rfl, rfl, by kernel_rfl⟩
    intro e ts bs he
    obtain ⟨rfl, he⟩ := he
    cases hall : allD s s.size with
    | false =>
      rw [hall] at he
      obtain ⟨rfl, rfl⟩ := he
      exact ⟨fun _ h => (by cases h), _, rfl, rfl⟩
    | true =>
      rw [hall] at he
      obtain ⟨rfl, rfl⟩ := he
      have hsm := dv_small hall hsz
      unfold thn
      dsimp only
      refine Ok.seq (Ok.seq (Ok.regionW (G := fun _ => false) (C := fun _ _ _ => none) mixed layOk noCalls (fun _ _ h => by cases h) (.inl rfl) ?_))
      simp only [List.replicate, List.set]
      generalize h1 : decide ((dv s s.size : Int) > 2147483647) = c1
      refine wstepN rfl rfl (by dsimp only [putV, List.set]) ?_
      refine wstepN rfl (gtrK h1 rfl rfl) (by dsimp only [putV, List.set]) ?_
      refine wnil (Ok.cond (b := c1) rfl (fun h => ?_) (fun h => Ok.skip ?_))
      · subst h
        exact go 10 rfl ⟨fun _ h => (by cases h), _, rfl, rfl⟩
      · subst h
        exact go 10 rfl ⟨fun _ h => (by cases h), _, rfl, rfl⟩


end Go.Proofs.YtbkjiglbkckhmaaV
