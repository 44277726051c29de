/- Whether a string holds a slash or a null. -/
import Derived.Test.YtiefcnghjcafbaaDoorRune
namespace Go.Proofs.YtiefcnghjcafbaaDoorV
open Go Go.RowKit Go.Proofs.YtiefcnghjcafbaaDoor
set_option maxRecDepth 20000
set_option maxHeartbeats 4000000

def bad (c : UInt8) : Bool := c == 47 || c == 0
def asc : List V := ((List.replicate 256 (bV false)).set 47 (bV true)).set 0 (bV true)
theorem asc_at (c : UInt8) : asc[c.toNat]? = some (bV (bad c)) := by
  have hc : c.toNat < 256 := c.toNat_lt
  unfold asc bad
  rw [List.getElem?_set, List.getElem?_set, List.getElem?_replicate]
  by_cases h0 : c = 0
  · subst h0
    rfl
  · have : ¬ 0 = c.toNat := fun e => h0 (UInt8.toNat_inj.1 e.symm)
    rw [if_neg this]
    by_cases h1 : c = 47
    · subst h1
      rfl
    · have : ¬ 47 = c.toNat := fun e => h1 (UInt8.toNat_inj.1 e.symm)
      rw [if_neg this, if_pos hc]
      simp [h0, h1]

theorem set98 : FnOk Tryd.prog 98 [T nul] [] (fun r bs' => fr bs' r = .tup [.agg asc, bV true]) :=
  FnOk.fast (Q := fun r => r = .tup [.agg asc, bV true]) layOk Tryd.func98 rfl (goOut 100 (r := .tup [.agg asc, bV true]) (by kernel_rfl) rfl)
theorem use97 (n : Nat) : FnOk Tryd.prog 97 [iV n] [] (fun r bs' => fr bs' r = bV (decide ((n : Int) > 8))) :=
  FnOk.fast (Q := fun r => r = bV (decide ((n : Int) > 8))) layOk Tryd.func97 rfl (goOut 100 (r := bV (decide ((n : Int) > 8))) (by kernel_rfl) rfl)

theorem ldC {L : Lay} {C : CallT} {ts : List V} {bs : List Bx} {t : TypeId} {x : Operand} {k off : Nat} {cs : List V} {v : V} (ha : evO ts x = some (.ptr k off)) (hc : L.cel t = some (1, false)) (hb : bs[k]? = some (.cells cs)) (hv : cs[off]? = some v) : evX L C (.load t x) ts bs = some (v, bs) := by
  have h1 : off < cs.length := (List.getElem?_eq_some_iff.1 hv).1
  have h2 : ((cs.drop off).take 1)[0]? = some v := by
    rw [List.getElem?_take, if_pos (by omega), List.getElem?_drop]
    exact hv
  simp only [evX, ev, ha, hc, rd, hb, if_pos (show off + 1 ≤ cs.length by omega), h2, Option.map_some, Bool.false_eq_true, if_false]
theorem ixC {L : Lay} {C : CallT} {ts : List V} {bs : List Bx} {t : TypeId} {x y : Operand} {q off n e z : Nat} {k : IntKind} (hx : evO ts x = some (.ptr q off)) (hy : evO ts y = some (.val (.int k (z : Int)))) (hl : L.sl t = none) (ha : L.arr t = some (n, e)) (hz : z < n) : evX L C (.indexAddr t x y) ts bs = some (.ptr q (off + z * e), bs) := by
  simp only [evX, ev, hx, hy, hl, ha, Int.natCast_nonneg, Int.toNat_natCast, Int.ofNat_lt, hz, and_self, if_true]

theorem has99 (c : UInt8) : FnOk Tryd.prog 99 [.ptr 0 0, .val (.int .u8 c.toNat)] [.cells asc] (fun r bs' => r = bV (bad c) ∧ bs' = [.cells asc]) := by
  refine FnOk.of layOk Tryd.func99 rfl ?_
  refine Ok.seq (go 10 rfl ?_)
  refine Ok.seq (Ok.regionW (G := fun _ => true) (C := TabP _) mixed layOk noT TabP_calm (.inl rfl) ?_)
  refine wstepN rfl rfl (by dsimp only [putV, List.set]) ?_
  refine wstepN rfl rfl (by dsimp only [putV, List.set]) ?_
  refine wstepN rfl rfl (by dsimp only [putV, List.set]) ?_
  refine wstepN rfl (ixC rfl rfl rfl rfl c.toNat_lt) (by dsimp only [putV, List.set]) ?_
  refine wstepN rfl (ldC rfl rfl rfl (by rw [Nat.zero_add, Nat.mul_one]; exact asc_at c)) (by dsimp only [putV, List.set]) ?_
  refine wstepN rfl rfl (by dsimp only [putV, List.set]) ?_
  refine wnil (Ok.ret ⟨fun _ h => (by cases h), _, rfl, rfl, rfl⟩)

inductive T99 : FuncId → List V → List Bx → V → List Bx → Prop
  | k (c : UInt8) (n : Nat) (h : c.toNat = n) : T99 99 [.ptr 0 0, .val (.int .u8 n)] [.cells asc] (bV (bad c)) [.cells asc]
theorem T99_good : Good Tryd.prog (TabB T99) := TabB_good fun f vs bs v bs' h => by
  cases h with
  | k c n h => subst h; exact ⟨has99 c, Tryd.call99⟩
theorem T99_calm {G : FuncId → Bool} (h : G 99 = false) : Calm G (TabB T99) := by
  intro f vs hg
  refine .inl fun bs => ?_
  unfold TabB
  rw [dif_neg]
  rintro ⟨p, hp⟩
  generalize p.1 = a at hp
  generalize p.2 = b at hp
  cases hp with
  | k c n h0 => rw [h] at hg; cases hg

def anyIdx (s : List UInt8) : Int := match s.findIdx? bad with
  | some i => (i : Int)
  | none => -1
theorem anyIdx_at {s : List UInt8} {k : Nat} {c : UInt8} (h : (s.take k).any bad = false) (hk : s[k]? = some c) (hc : bad c = true) : anyIdx s = (k : Int) := by
  have hlt : k < s.length := (List.getElem?_eq_some_iff.1 hk).1
  have : s.findIdx? bad = some k := by
    rw [List.findIdx?_eq_some_iff_getElem]
    refine ⟨hlt, ?_, fun j hj => ?_⟩
    · rw [List.getElem?_eq_getElem hlt] at hk
      obtain rfl := Option.some.inj hk
      exact hc
    · have h1 := List.any_eq_false.1 h s[j] (List.mem_iff_getElem.2 ⟨j, by simp; omega, by simp⟩)
      simpa using h1
  unfold anyIdx
  rw [this]
theorem anyIdx_none {s : List UInt8} (h : s.any bad = false) : anyIdx s = -1 := by
  have : s.findIdx? bad = none := by
    rw [List.findIdx?_eq_none_iff]
    intro x hx
    have := List.any_eq_false.1 h x hx
    simpa using this
  unfold anyIdx
  rw [this]
theorem take_any {s : List UInt8} {k : Nat} {c : UInt8} (h : (s.take k).any bad = false) (hk : s[k]? = some c) (hc : bad c = false) : (s.take (k + 1)).any bad = false := by
  rw [List.take_add_one, List.any_append, h, hk]
  simp [hc]
theorem anyIdx_pos (s : List UInt8) : decide (anyIdx s ≥ 0) = s.any bad := by
  unfold anyIdx
  cases h : s.findIdx? bad with
  | none =>
    have h1 := List.findIdx?_eq_none_iff.1 h
    have : s.any bad = false := List.any_eq_false.2 fun x hx => by simp [h1 x hx]
    rw [this]
    rfl
  | some i =>
    obtain ⟨h1, h2, _⟩ := List.findIdx?_eq_some_iff_getElem.1 h
    have : s.any bad = true := List.any_eq_true.2 ⟨_, List.getElem_mem h1, h2⟩
    rw [this]
    simp

theorem dec_cont {l : List UInt8} {p k : Nat} (h : (decide (p + k < (B l).size) && ((B l).get! (p + k)).toNat / 64 == 2) = true) : ∃ d, l[p + k]? = some d ∧ 128 ≤ d.toNat := by
  simp only [Bool.and_eq_true, decide_eq_true_eq, beq_iff_eq] at h
  obtain ⟨h1, h2⟩ := h
  rw [B_size] at h1
  refine ⟨l[p + k], List.getElem?_eq_getElem h1, ?_⟩
  have : (B l).get! (p + k) = l[p + k] := by
    simp [ByteArray.get!, B, h1]
  rw [this] at h2
  omega
theorem dec_hi {l : List UInt8} {p : Nat} {c : UInt8} (hp : l[p]? = some c) (hc : 128 ≤ c.toNat) : ∀ j, p < j → j < p + (Utf8.decode (B l) p).2 → ∃ d, l[j]? = some d ∧ 128 ≤ d.toNat := by
  intro j hj
  obtain ⟨k, rfl⟩ : ∃ k, j = p + k := ⟨j - p, by omega⟩
  unfold Utf8.decode
  simp only
  split
  · intro h; omega
  split
  · rename_i h1
    rw [Bool.and_eq_true] at h1
    split
    · intro h
      obtain rfl : k = 1 := by omega
      exact dec_cont h1.2
    · intro h; omega
  split
  · rename_i h1
    rw [Bool.and_eq_true, Bool.and_eq_true] at h1
    split
    · intro h
      rcases (show k = 1 ∨ k = 2 by omega) with rfl | rfl
      · exact dec_cont h1.1.2
      · exact dec_cont h1.2
    · intro h; omega
  split
  · rename_i h1
    rw [Bool.and_eq_true, Bool.and_eq_true, Bool.and_eq_true] at h1
    split
    · intro h
      rcases (show k = 1 ∨ k = 2 ∨ k = 3 by omega) with rfl | rfl | rfl
      · exact dec_cont h1.1.1.2
      · exact dec_cont h1.1.2
      · exact dec_cont h1.2
    · intro h; omega
  · intro h; omega
theorem B_at {l : List UInt8} {p : Nat} {c : UInt8} (hp : l[p]? = some c) : ∃ h : p < (B l).size, (B l)[p]'h = c := by
  have h1 : p < l.length := (List.getElem?_eq_some_iff.1 hp).1
  have h2 : p < (B l).size := by rw [B_size]; exact h1
  refine ⟨h2, ?_⟩
  have h3 := B_get l p
  rw [getElem?_pos (B l) p h2, hp] at h3
  exact Option.some.inj h3
theorem bad_lo {c : UInt8} (h : 128 ≤ c.toNat) : bad c = false := by
  unfold bad
  have h1 : c ≠ 47 := fun e => by subst e; simp at h
  have h2 : c ≠ 0 := fun e => by subst e; simp at h
  simp [h1, h2]
theorem dec_is {l : List UInt8} {p : Nat} {c : UInt8} (hp : l[p]? = some c) : 1 ≤ (Utf8.decode (B l) p).2 ∧ (Utf8.decode (B l) p).1 ≤ 2147483647 ∧ ∀ j, p < j → j < p + (Utf8.decode (B l) p).2 → ∃ d, l[j]? = some d ∧ bad d = false := by
  obtain ⟨h2, h3⟩ := B_at hp
  refine ⟨?_, decode_le _ _, ?_⟩
  · rcases Nat.lt_or_ge c.toNat 128 with h | h
    · rw [decode_ascii (B l) p h2 (by rw [h3]; exact h)]
      exact Nat.le_refl _
    · exact (decode_high (B l) p h2 (by rw [h3]; exact h)).2
  · intro j hj hlt
    rcases Nat.lt_or_ge c.toNat 128 with h | h
    · rw [decode_ascii (B l) p h2 (by rw [h3]; exact h)] at hlt
      omega
    · obtain ⟨d, hd, hd2⟩ := dec_hi hp h j hj hlt
      exact ⟨d, hd, bad_lo hd2⟩
theorem idx_bad {l : List UInt8} {p : Nat} {c : UInt8} (hp : l[p]? = some c) : decide (runeIdx (Utf8.decode (B l) p).1 ≥ 0) = bad c ∧ True := by
  obtain ⟨h2, h3⟩ := B_at hp
  refine ⟨?_, trivial⟩
  rcases Nat.lt_or_ge c.toNat 128 with h | h
  · rw [decode_ascii (B l) p h2 (by rw [h3]; exact h), h3]
    unfold runeIdx bad
    by_cases h47 : c = 47
    · subst h47; rfl
    · have : ¬ c.toNat = 47 := fun e => h47 (UInt8.toNat_inj.1 e)
      rw [if_neg this]
      by_cases h0 : c = 0
      · subst h0; rfl
      · have : ¬ c.toNat = 0 := fun e => h0 (UInt8.toNat_inj.1 e)
        rw [if_neg this]
        simp [h47, h0]
  · have h5 := (decode_high (B l) p h2 (by rw [h3]; exact h)).1
    rw [bad_lo h]
    unfold runeIdx
    rw [if_neg (by omega), if_neg (by omega)]
    rfl
theorem take_anys {s : List UInt8} {k w : Nat} {c : UInt8} (h : (s.take k).any bad = false) (hk : s[k]? = some c) (hc : bad c = false) (hw : ∀ j, k < j → j < k + w → ∃ d, s[j]? = some d ∧ bad d = false) : (s.take (k + w)).any bad = false := by
  refine List.any_eq_false.2 fun x hx => ?_
  obtain ⟨j, hj⟩ := List.mem_iff_getElem?.1 hx
  rw [List.getElem?_take] at hj
  split at hj
  · rename_i hlt
    rcases Nat.lt_trichotomy j k with h1 | rfl | h1
    · exact List.any_eq_false.1 h x (List.mem_iff_getElem?.2 ⟨j, by rw [List.getElem?_take, if_pos h1]; exact hj⟩)
    · obtain rfl := Option.some.inj (hj.symm.trans hk)
      simp [hc]
    · obtain ⟨d, hd, hd2⟩ := hw j h1 hlt
      obtain rfl := Option.some.inj (hj.symm.trans hd)
      simp [hd2]
  · cases hj

inductive T77 (n : Nat) : FuncId → List V → V → Prop
  | k97 : T77 n 97 [iV n] (bV (decide ((n : Int) > 8)))
  | k98 : T77 n 98 [T nul] (.tup [.agg asc, bV true])
  | k96 (c : Nat) (hc : c ≤ 2147483647) : T77 n 96 [T nul, .val (.int .i32 c)] (iV (runeIdx c))
theorem T77_good (n : Nat) : Good Tryd.prog (TabP (T77 n)) := TabP_good fun f vs v h => by
  cases h with
  | k97 => exact ⟨use97 n, rfl, rfl, Tryd.call97⟩
  | k98 => exact ⟨set98, rfl, rfl, Tryd.call98⟩
  | k96 c hc => exact ⟨rune96 c hc, rfl, rfl, Tryd.call96⟩

theorem any77 (s : List UInt8) (hs : s.length ≤ 1000) : FnOk Tryd.prog 77 [T s, T nul] [] (fun r bs' => fr bs' r = iV (anyIdx s)) := by
  refine FnOk.fast (Q := fun r => r = iV (anyIdx s)) layOk Tryd.func77 rfl ?_
  have hT := T77_good s.length
  have hq1 : decide (nul = []) = false := rfl
  have hq2 : (((nul.length : Nat) : Int) == 1) = false := rfl
  refine Ok.seq (go 10 rfl ?_)
  refine Ok.seq ?_
  refine Ok.seq (Ok.regionW (G := fun _ => true) (C := TabP _) mixed layOk noT TabP_calm (.inl rfl) ?_)
  refine wstepN rfl rfl (by dsimp only [putV, List.set]) ?_
  first
    | refine wstepN rfl (eqT (by assumption) rfl rfl) (by dsimp only [putV, List.set]) ?_
    | refine wstepN rfl rfl (by dsimp only [putV, List.set]) ?_
  refine wnil (Ok.cond (b := false) rfl (fun h => by cases h) (fun _ => ?_))
  refine Ok.skip ?_
  refine Ok.seq ?_
  refine Ok.seq (Ok.regionW (G := fun _ => true) (C := TabP _) mixed layOk noT TabP_calm (.inl rfl) ?_)
  refine wstepN rfl rfl (by dsimp only [putV, List.set]) ?_
  first
    | refine wstepN rfl (lenT rfl rfl) (by dsimp only [putV, List.set]) ?_
    | refine wstepN rfl rfl (by dsimp only [putV, List.set]) ?_
  first
    | refine wstepN rfl (eqlK (by assumption) rfl rfl) (by dsimp only [putV, List.set]) ?_
    | refine wstepN rfl rfl (by dsimp only [putV, List.set]) ?_
  refine wnil (Ok.cond (b := false) rfl (fun h => by cases h) (fun _ => ?_))
  refine Ok.skip ?_
  refine Ok.seq ?_
  refine Ok.seq (Ok.regionW (G := fun _ => true) (C := TabP _) mixed layOk hT TabP_calm (.inl rfl) ?_)
  refine wstepN rfl rfl (by dsimp only [putV, List.set]) ?_
  first
    | refine wstepN rfl (lenT rfl rfl) (by dsimp only [putV, List.set]) ?_
    | refine wstepN rfl rfl (by dsimp only [putV, List.set]) ?_
  first
    | refine wstepN rfl (TabP_hit (fun v' h => by cases h; rfl) (by constructor)) (by dsimp only [putV, List.set]) ?_
    | refine wstepN rfl (TabP_hit (fun v' h => by cases h; rfl) (by assumption)) (by dsimp only [putV, List.set]) ?_
    | refine wstepN rfl rfl (by dsimp only [putV, List.set]) ?_
  refine wnil (Ok.cond (b := decide ((s.length : Int) > 8)) rfl (fun he => ?_) (fun he => ?_))
  · refine Ok.seq (Ok.regionW (G := fun _ => true) (C := TabP _) mixed layOk hT TabP_calm (.inl rfl) ?_)
    refine wstepN rfl rfl (by dsimp only [putV, List.set]) ?_
    first
      | refine wstepN rfl (TabP_hit (fun v' h => by cases h; rfl) (by constructor)) (by dsimp only [putV, List.set]) ?_
      | refine wstepN rfl (TabP_hit (fun v' h => by cases h; rfl) (by assumption)) (by dsimp only [putV, List.set]) ?_
      | refine wstepN rfl rfl (by dsimp only [putV, List.set]) ?_
    refine wstepN rfl rfl (by dsimp only [putV, List.set]) ?_
    refine wstepN rfl rfl (by dsimp only [putV, List.set]) ?_
    refine wstepN rfl rfl (by dsimp only [putV, List.set]) ?_
    refine wstepN rfl rfl (by dsimp only [putV, List.set]) ?_
    refine wstepN rfl rfl (by dsimp only [putV, List.set]) ?_
    refine wstepN rfl rfl (by dsimp only [putV, List.set]) ?_
    refine wnil ?_
    refine Ok.gc (bs2 := [.cells asc]) [0] [0, 4, 6, 7] (by kernel_rfl) (by decide) (floor_ok rfl) ?_
    refine Ok.seq (Ok.regionW (G := fun _ => true) (C := TabP _) mixed layOk noT TabP_calm (.inl rfl) ?_)
    refine wstepN rfl rfl (by dsimp only [putV, List.set]) ?_
    refine wnil (Ok.cond (b := true) rfl (fun _ => ?_) (fun h => by cases h))
    refine Ok.seq (Ok.seq ?_)
    refine go 10 rfl ?_
    refine Ok.gc (bs2 := [.cells asc]) [0] [0, 4, 6, 8] (by kernel_rfl) (by decide) (floor_ok rfl) ?_
    refine Ok.count s.length (fun k ts bs => (s.take k).any bad = false ∧ k ≤ s.length ∧ bs = [.cells asc] ∧ ts = ((((List.replicate 55 V.gone).set 0 (T s)).set 4 (iV 0)).set 6 (.ptr 0 0)).set 8 (iV (k : Int))) ?_ ?_
    · exact ⟨by simp, Nat.zero_le _, rfl, rfl⟩
    rintro k _ _ ⟨hno, hk, rfl, rfl⟩
    simp only [List.replicate, List.set]
    refine Ok.seq (Ok.seq ?_)
    cases hlt : decide (k < s.length)
    · refine Ok.regionW (G := fun _ => true) (C := TabP _) mixed layOk noT TabP_calm (.inl rfl) ?_
      refine wstepN rfl rfl (by dsimp only [putV, List.set]) ?_
      refine wstepN rfl rfl (by dsimp only [putV, List.set]) ?_
      first
        | refine wstepN rfl (lenT rfl rfl) (by dsimp only [putV, List.set]) ?_
        | refine wstepN rfl rfl (by dsimp only [putV, List.set]) ?_
      first
        | refine wstepN rfl (ltT (by assumption) rfl rfl) (by dsimp only [putV, List.set]) ?_
        | refine wstepN rfl (lssK (by assumption) rfl rfl) (by dsimp only [putV, List.set]) ?_
        | refine wstepN rfl rfl (by dsimp only [putV, List.set]) ?_
      refine wnil (Ok.cond (b := false) rfl (fun h => by cases h) (fun _ => ?_))
      refine Ok.exit ?_
      have hk2 : k = s.length := by
        have : ¬ k < s.length := by simpa using hlt
        omega
      subst hk2
      rw [List.take_of_length_le (Nat.le_refl _)] at hno
      rw [anyIdx_none hno]
      exact go 10 rfl ⟨fun _ h => (by cases h), _, rfl, rfl⟩
    · have hlt' : k < s.length := by simpa using hlt
      obtain ⟨c, hc⟩ : ∃ c, s[k]? = some c := ⟨_, List.getElem?_eq_getElem hlt'⟩
      refine Ok.regionW (G := fun _ => true) (C := TabP _) mixed layOk noT TabP_calm (.inl rfl) ?_
      refine wstepN rfl rfl (by dsimp only [putV, List.set]) ?_
      refine wstepN rfl rfl (by dsimp only [putV, List.set]) ?_
      first
        | refine wstepN rfl (lenT rfl rfl) (by dsimp only [putV, List.set]) ?_
        | refine wstepN rfl rfl (by dsimp only [putV, List.set]) ?_
      first
        | refine wstepN rfl (ltT (by assumption) rfl rfl) (by dsimp only [putV, List.set]) ?_
        | refine wstepN rfl (lssK (by assumption) rfl rfl) (by dsimp only [putV, List.set]) ?_
        | refine wstepN rfl rfl (by dsimp only [putV, List.set]) ?_
      refine wnil (Ok.cond (b := true) rfl (fun _ => ?_) (fun h => by cases h))
      refine Ok.skip ?_
      refine Ok.after (Ok.seq (Ok.block (Ok.seq ?_)))
      refine Ok.regionW (G := fun _ => false) (C := TabB T99) mixed layOk T99_good (T99_calm rfl) (.inl rfl) ?_
      refine wstepN rfl rfl (by dsimp only [putV, List.set]) ?_
      refine wstepN rfl rfl (by dsimp only [putV, List.set]) ?_
      first
        | refine wstepN rfl (idxT rfl rfl rfl (by assumption)) (by dsimp only [putV, List.set]) ?_
        | refine wstepN rfl rfl (by dsimp only [putV, List.set]) ?_
      refine wstepN rfl (TabB_hit (fun v' b' h => by cases h with | k c' n h => exact ⟨by rw [UInt8.toNat_inj.1 h], rfl⟩) (.k c _ rfl)) (by dsimp only [putV, List.set]) ?_
      cases hb : bad c
      · refine wnil (Ok.cond (b := false) rfl (fun h => by cases h) (fun _ => ?_))
        refine Ok.skip ?_
        refine Ok.regionW (G := fun _ => true) (C := TabP _) mixed layOk noT TabP_calm (.inl rfl) ?_
        refine wstepN rfl rfl (by dsimp only [putV, List.set]) ?_
        first
          | refine wstepN rfl (incT (by omega) rfl rfl) (by dsimp only [putV, List.set]) ?_
          | refine wstepN rfl (addK (by assumption) rfl rfl) (by dsimp only [putV, List.set]) ?_
          | refine wstepN rfl rfl (by dsimp only [putV, List.set]) ?_
        refine wstepN rfl rfl (by dsimp only [putV, List.set]) ?_
        refine wnil ?_
        exact ⟨[0], [0, 4, 6, 8], [.cells asc], by kernel_rfl, by decide, floor_ok rfl, hlt', take_any hno hc hb, hlt', rfl, rfl⟩
      · refine wnil (Ok.cond (b := true) rfl (fun _ => ?_) (fun h => by cases h))
        rw [anyIdx_at hno hc hb]
        refine Ok.seq (Ok.regionW (G := fun _ => true) (C := TabP _) mixed layOk noT TabP_calm (.inl rfl) ?_)
        refine wstepN rfl rfl (by dsimp only [putV, List.set]) ?_
        refine wstepN rfl rfl (by dsimp only [putV, List.set]) ?_
        refine wnil (Ok.ret ?_)
        exact ⟨[0], [0, 4, 6, 8], [.cells asc], by kernel_rfl, by decide, floor_ok rfl, fun _ h => (by cases h), _, rfl, rfl⟩
  · refine Ok.skip ?_
    refine Ok.seq (Ok.seq ?_)
    refine go 10 rfl ?_
    refine Ok.gc (bs2 := [.iter (B s) 0]) [0] [0, 1, 4, 45] (by kernel_rfl) (by decide) (floor_ok rfl) ?_
    refine Ok.block (Ok.loop (fun n ts bs => ∃ p, n = s.length - p ∧ (s.take p).any bad = false ∧ bs = [.iter (B s) p] ∧ ts = ((((List.replicate 55 V.gone).set 0 (T s)).set 1 (T nul)).set 4 (iV 0)).set 45 (.ptr 0 0)) s.length ?_ ?_)
    · exact ⟨0, by omega, by simp, rfl, rfl⟩
    rintro n _ _ ⟨p, rfl, hno, rfl, rfl⟩
    simp only [List.replicate, List.set]
    refine Ok.seq ?_
    cases hlt : decide (p < s.length)
    · have hge : ¬ p < s.length := by simpa using hlt
      refine Ok.regionW (G := fun _ => true) (C := TabP _) mixed layOk noT TabP_calm (.inl rfl) ?_
      refine wstepN rfl (next_out (p := p) (by rw [B_size]; exact hge) rfl rfl) (by dsimp only [putV, List.set]) ?_
      refine wstepN rfl rfl (by dsimp only [putV, List.set]) ?_
      refine wnil (Ok.seq (Ok.cond (b := false) rfl (fun h => by cases h) (fun _ => Ok.exit ?_)))
      rw [List.take_of_length_le (by omega)] at hno
      rw [anyIdx_none hno]
      exact go 10 rfl ⟨fun _ h => (by cases h), _, rfl, rfl⟩
    · have hlt' : p < s.length := by simpa using hlt
      obtain ⟨c, hc⟩ : ∃ c, s[p]? = some c := ⟨_, List.getElem?_eq_getElem hlt'⟩
      obtain ⟨hw, hr, hskip⟩ := dec_is hc
      obtain ⟨hb1, hb2⟩ := idx_bad hc
      refine Ok.regionW (G := fun _ => true) (C := TabP _) mixed layOk noT TabP_calm (.inl rfl) ?_
      refine wstepN rfl (next_in (p := p) (by rw [B_size]; exact hlt') rfl rfl) (by dsimp only [putV, List.set]) ?_
      refine wstepN rfl rfl (by dsimp only [putV, List.set]) ?_
      refine wnil (Ok.seq (Ok.cond (b := true) rfl (fun _ => Ok.skip ?_) (fun h => by cases h)))
      refine Ok.after (Ok.block (Ok.seq ?_))
      refine Ok.regionW (G := fun _ => true) (C := TabP _) mixed layOk noT TabP_calm (.inl rfl) ?_
      refine wstepN rfl rfl (by dsimp only [putV, List.set]) ?_
      refine wstepN rfl rfl (by dsimp only [putV, List.set]) ?_
      refine wstepN rfl rfl (by dsimp only [putV, List.set]) ?_
      refine wstepN rfl rfl (by dsimp only [putV, List.set]) ?_
      refine wnil ?_
      refine Ok.seq ?_
      refine Ok.regionW (G := fun _ => true) (C := TabP _) mixed layOk hT TabP_calm (.inl rfl) ?_
      refine wstepN rfl rfl (by dsimp only [putV, List.set]) ?_
      refine wstepN rfl rfl (by dsimp only [putV, List.set]) ?_
      refine wstepN rfl (TabP_hit (fun v' h => by cases h; rfl) (.k96 _ hr)) (by dsimp only [putV, List.set]) ?_
      cases hb : bad c
      · refine wstepN rfl (geqK (v := false) (by rw [hb1]; exact hb) rfl rfl) (by dsimp only [putV, List.set]) ?_
        refine wnil (Ok.cond (b := false) rfl (fun h => by cases h) (fun _ => ?_))
        refine Ok.skip ?_
        exact ⟨[0], [0, 1, 4, 45], [.iter (B s) (p + (Utf8.decode (B s) p).2)], by kernel_rfl, by decide, floor_ok rfl, s.length - (p + (Utf8.decode (B s) p).2), by omega, p + (Utf8.decode (B s) p).2, rfl, take_anys hno hc hb hskip, rfl, rfl⟩
      · refine wstepN rfl (geqK (v := true) (by rw [hb1]; exact hb) rfl rfl) (by dsimp only [putV, List.set]) ?_
        refine wnil (Ok.cond (b := true) rfl (fun _ => ?_) (fun h => by cases h))
        rw [anyIdx_at hno hc hb]
        refine Ok.seq (Ok.regionW (G := fun _ => true) (C := TabP _) mixed layOk noT TabP_calm (.inl rfl) ?_)
        refine wstepN rfl rfl (by dsimp only [putV, List.set]) ?_
        refine wstepN rfl rfl (by dsimp only [putV, List.set]) ?_
        refine wnil (Ok.ret ?_)
        exact ⟨[0], [0, 1, 4, 45], [.iter (B s) (p + (Utf8.decode (B s) p).2)], by kernel_rfl, by decide, floor_ok rfl, fun _ h => (by cases h), _, rfl, rfl⟩

theorem has61 (s : List UInt8) (hs : s.length ≤ 1000) : FnOk Tryd.prog 61 [T s, T nul] [] (fun r bs' => fr bs' r = bV (s.any bad)) := by
  refine FnOk.fast (Q := fun r => r = bV (s.any bad)) layOk Tryd.func61 rfl ?_
  have hT : Good Tryd.prog (Tab [((77 : FuncId), [T s, T nul], iV (anyIdx s))]) := Tab_good fun e he => by
    obtain rfl := List.mem_singleton.1 he
    exact fact (any77 s hs) rfl rfl Tryd.call77
  refine Ok.seq (go 10 rfl ?_)
  refine Ok.seq (Ok.regionW (G := fun _ => true) (C := Tab _) mixed layOk hT Tab_calm (.inl rfl) ?_)
  refine wstepN rfl rfl (by dsimp only [putV, List.set]) ?_
  refine wstepN rfl rfl (by dsimp only [putV, List.set]) ?_
  refine wstepN rfl Tab_hit (by dsimp only [putV, List.set]) ?_
  refine wstepN rfl (geqK (anyIdx_pos s) rfl rfl) (by dsimp only [putV, List.set]) ?_
  refine wstepN rfl rfl (by dsimp only [putV, List.set]) ?_
  refine wnil (Ok.ret ⟨fun _ h => (by cases h), _, rfl, rfl⟩)

end Go.Proofs.YtiefcnghjcafbaaDoorV
