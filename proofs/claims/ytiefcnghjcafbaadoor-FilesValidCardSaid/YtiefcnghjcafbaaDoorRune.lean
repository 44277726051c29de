/- Where a byte or a rune lies in a short string. -/
import Derived.Test.YtiefcnghjcafbaaDoorTab
import Derived.Test.YtiefcnghjcafbaaDoorV27
namespace Go.Proofs.YtiefcnghjcafbaaDoorV
open Go Go.RowKit Go.Proofs.YtiefcnghjcafbaaDoor
set_option maxRecDepth 20000
set_option maxHeartbeats 4000000

inductive NoT : FuncId → List V → V → Prop
theorem noT : Good Tryd.prog (TabP NoT) := TabP_good fun f vs v h => nomatch h

theorem byte112 (l : List UInt8) (c : Int) : FnOk Tryd.prog 112 [T l, .val (.int .u8 c)] [] (fun r bs' => fr bs' r = iV (firstIdx (B l) c.toNat.toUInt8)) :=
  FnOk.fast (Q := fun r => r = iV (firstIdx (B l) c.toNat.toUInt8)) layOk Tryd.func112 rfl (goOut 100 (r := iV (firstIdx (B l) c.toNat.toUInt8)) (by kernel_rfl) rfl)

theorem valid_is {c : Int} {b1 b2 b3 b4 : Bool} (h1 : decide (0 ≤ c) = b1) (h2 : decide (c < 55296) = b2) (h3 : decide (57343 < c) = b3) (h4 : decide (c ≤ 1114111) = b4) : ((b1 && b2) || (b3 && b4)) = Utf8.valid c := by
  unfold Utf8.valid
  rw [← h1, ← h2, ← h3, ← h4]
  have : decide (57343 < c) = decide (57344 ≤ c) := decide_eq_decide.2 (by omega)
  rw [this]

theorem valid113 (c : Int) : FnOk Tryd.prog 113 [.val (.int .i32 c)] [] (fun r bs' => fr bs' r = bV (Utf8.valid c)) := by
  refine FnOk.fast (Q := fun r => r = bV (Utf8.valid c)) layOk Tryd.func113 rfl ?_
  cases h1 : decide (0 ≤ c) <;> cases h2 : decide (c < 55296) <;> cases h3 : decide (57343 < c) <;> cases h4 : decide (c ≤ 1114111) <;> (
    rw [← valid_is h1 h2 h3 h4]
    refine Ok.seq (go 10 rfl ?_)
    refine Ok.seq (Ok.block ?_)
    refine Ok.seq (Ok.regionW (G := fun _ => true) (C := TabP _) mixed layOk noT TabP_calm (.inl rfl) ?_)
    refine wstepN rfl rfl (by dsimp only [putV, List.set]) ?_
    first
      | refine wstepN rfl (leqK (by assumption) rfl rfl) (by dsimp only [putV, List.set]) ?_
      | refine wstepN rfl rfl (by dsimp only [putV, List.set]) ?_
    refine wstepN rfl rfl (by dsimp only [putV, List.set]) ?_
    first
      | refine wskipN rfl (by dsimp only [putV, List.set]) ?_
      | refine wstepN rfl rfl (by dsimp only [putV, List.set]) ?_
    first
      | refine wskipN rfl (by dsimp only [putV, List.set]) ?_
      | refine wstepN rfl (ltT (by assumption) rfl rfl) (by dsimp only [putV, List.set]) ?_
      | refine wstepN rfl (lssK (by assumption) rfl rfl) (by dsimp only [putV, List.set]) ?_
      | refine wstepN rfl rfl (by dsimp only [putV, List.set]) ?_
    refine wstepN rfl rfl (by dsimp only [putV, List.set]) ?_
    refine wstepN rfl rfl (by dsimp only [putV, List.set]) ?_
    refine wnil (Ok.cond (b := _) rfl (fun h => ?_) (fun h => ?_))
    · first
        | (cases h; done)
        | exact go 10 rfl ⟨fun _ h => (by cases h), _, rfl, rfl⟩
    · first
        | (cases h; done)
        | (refine Ok.seq (Ok.regionW (G := fun _ => true) (C := TabP _) mixed layOk noT TabP_calm (.inl rfl) ?_)
           refine wstepN rfl rfl (by dsimp only [putV, List.set]) ?_
           first
             | refine wstepN rfl (ltT (by assumption) rfl rfl) (by dsimp only [putV, List.set]) ?_
             | refine wstepN rfl (lssK (by assumption) rfl rfl) (by dsimp only [putV, List.set]) ?_
             | refine wstepN rfl rfl (by dsimp only [putV, List.set]) ?_
           refine wstepN rfl rfl (by dsimp only [putV, List.set]) ?_
           first
             | refine wskipN rfl (by dsimp only [putV, List.set]) ?_
             | refine wstepN rfl rfl (by dsimp only [putV, List.set]) ?_
           first
             | refine wskipN rfl (by dsimp only [putV, List.set]) ?_
             | refine wstepN rfl (leqK (by assumption) rfl rfl) (by dsimp only [putV, List.set]) ?_
             | refine wstepN rfl rfl (by dsimp only [putV, List.set]) ?_
           refine wstepN rfl rfl (by dsimp only [putV, List.set]) ?_
           refine wstepN rfl rfl (by dsimp only [putV, List.set]) ?_
           refine wnil (Ok.cond (b := _) rfl (fun h => ?_) (fun h => ?_))
           · first
               | (cases h; done)
               | exact go 10 rfl ⟨fun _ h => (by cases h), _, rfl, rfl⟩
           · first
               | (cases h; done)
               | (refine Ok.skip ?_
                  exact go 10 rfl ⟨fun _ h => (by cases h), _, rfl, rfl⟩)))

inductive TR (c : Int) : FuncId → List V → V → Prop
  | k112 (l : List UInt8) (z : Int) : TR c 112 [T l, .val (.int .u8 z)] (iV (firstIdx (B l) z.toNat.toUInt8))
  | k113 : TR c 113 [.val (.int .i32 c)] (bV (Utf8.valid c))
theorem TR_good (c : Int) : Good Tryd.prog (TabP (TR c)) := TabP_good fun f vs v h => by
  cases h with
  | k112 l z => exact ⟨byte112 l z, rfl, rfl, Tryd.call112⟩
  | k113 => exact ⟨valid113 c, rfl, rfl, Tryd.call113⟩

abbrev nul : List UInt8 := [47, 0]
def runeIdx (c : Nat) : Int := if c = 47 then 0 else if c = 0 then 1 else -1
theorem first_nul : ∀ c : Nat, c < 128 → firstIdx (B nul) (Int.toNat (c : Int)).toUInt8 = runeIdx c := by
  have h : (List.range 128).all (fun c => firstIdx (B nul) (Int.toNat (c : Int)).toUInt8 == runeIdx c) = true := by kernel_rfl
  intro c hc
  simpa using List.all_eq_true.1 h c (List.mem_range.2 hc)

theorem enc_is {c : Nat} (h : 128 ≤ c) (hv : Utf8.valid c = true) : ∃ l, Utf8.encode c = B l ∧ 2 ≤ l.length ∧ l.length ≤ 4 ∧ (∀ {N}, l.length = N + 1 → N = 1 → ∃ b, l[1]? = some b ∧ b ≠ 0) := by
  unfold Utf8.encode
  rw [if_pos hv]
  simp only [Int.toNat_natCast]
  rw [if_neg (by omega)]
  split
  · refine ⟨[_, _], rfl, by simp, by simp, fun _ _ => ⟨_, rfl, fun e => ?_⟩⟩
    have := congrArg UInt8.toNat e
    simp at this
    omega
  · split
    · exact ⟨[_, _, _], rfl, by simp, by simp, fun h1 h2 => by simp at h1; omega⟩
    · exact ⟨[_, _, _, _], rfl, by simp, by simp, fun h1 h2 => by simp at h1; omega⟩

theorem rune96 (c : Nat) (hc : c ≤ 2147483647) : FnOk Tryd.prog 96 [T nul, .val (.int .i32 c)] [] (fun r bs' => fr bs' r = iV (runeIdx c)) := by
  refine FnOk.fast (Q := fun r => r = iV (runeIdx c)) layOk Tryd.func96 rfl ?_
  have hT := TR_good (c : Int)
  refine Ok.seq (go 10 rfl ?_)
  refine Ok.block ?_
  have h1 : decide ((0 : Int) ≤ (c : Int)) = true := by simp
  cases h2 : decide ((c : Int) < 128)
  · have hn : runeIdx c = -1 := by
      have : ¬ ((c : Int) < 128) := by simpa using h2
      unfold runeIdx
      rw [if_neg (by omega), if_neg (by omega)]
    rw [hn]
    refine Ok.seq (Ok.regionW (G := fun _ => true) (C := TabP _) mixed layOk hT TabP_calm (.inl rfl) ?_)
    refine wstepN rfl rfl (by dsimp only [putV, List.set]) ?_
    first
      | refine wstepN rfl (leqK (by assumption) rfl rfl) (by dsimp only [putV, List.set]) ?_
      | refine wstepN rfl rfl (by dsimp only [putV, List.set]) ?_
    refine wstepN rfl rfl (by dsimp only [putV, List.set]) ?_
    first
      | refine wskipN rfl (by dsimp only [putV, List.set]) ?_
      | refine wstepN rfl rfl (by dsimp only [putV, List.set]) ?_
    first
      | refine wskipN rfl (by dsimp only [putV, List.set]) ?_
      | refine wstepN rfl (ltT (by assumption) rfl rfl) (by dsimp only [putV, List.set]) ?_
      | refine wstepN rfl (lssK (by assumption) rfl rfl) (by dsimp only [putV, List.set]) ?_
      | refine wstepN rfl rfl (by dsimp only [putV, List.set]) ?_
    refine wstepN rfl rfl (by dsimp only [putV, List.set]) ?_
    refine wstepN rfl rfl (by dsimp only [putV, List.set]) ?_
    refine wnil (Ok.cond (b := false) rfl (fun h => by cases h) (fun _ => ?_))
    refine Ok.seq (Ok.regionW (G := fun _ => true) (C := TabP _) mixed layOk hT TabP_calm (.inl rfl) ?_)
    cases h3 : ((c : Int) == 65533)
    · skip
      refine wstepN rfl rfl (by dsimp only [putV, List.set]) ?_
      first
        | refine wstepN rfl (eqlK (by assumption) rfl rfl) (by dsimp only [putV, List.set]) ?_
        | refine wstepN rfl rfl (by dsimp only [putV, List.set]) ?_
      refine wstepN rfl rfl (by dsimp only [putV, List.set]) ?_
      refine wnil (Ok.cond (b := false) rfl (fun h => by cases h) (fun _ => ?_))
      refine Ok.seq (Ok.regionW (G := fun _ => true) (C := TabP _) mixed layOk hT TabP_calm (.inl rfl) ?_)
      cases h4 : Utf8.valid c
      · have hv : bV (Utf8.valid c) = bV false := by rw [h4]
        refine wstepN rfl rfl (by dsimp only [putV, List.set]) ?_
        refine wstepN rfl ((TabP_hit (fun v' h => by cases h; rfl) (by constructor)).trans (by rw [hv])) (by dsimp only [putV, List.set]) ?_
        refine wstepN rfl rfl (by dsimp only [putV, List.set]) ?_
        refine wstepN rfl rfl (by dsimp only [putV, List.set]) ?_
        refine wnil (Ok.cond (b := true) rfl (fun _ => ?_) (fun h => by cases h))
        exact go 10 rfl ⟨fun _ h => (by cases h), _, rfl, rfl⟩
      · have hv : bV (Utf8.valid c) = bV true := by rw [h4]
        refine wstepN rfl rfl (by dsimp only [putV, List.set]) ?_
        refine wstepN rfl ((TabP_hit (fun v' h => by cases h; rfl) (by constructor)).trans (by rw [hv])) (by dsimp only [putV, List.set]) ?_
        refine wstepN rfl rfl (by dsimp only [putV, List.set]) ?_
        refine wstepN rfl rfl (by dsimp only [putV, List.set]) ?_
        refine wnil (Ok.cond (b := false) rfl (fun h => by cases h) (fun _ => ?_))
        refine Ok.scope ?_
        have hge : 128 ≤ c := by
          have : ¬ ((c : Int) < 128) := by simpa using h2
          omega
        obtain ⟨l, henc, hl2, hl4, hb⟩ := enc_is hge h4
        refine Ok.seq (Ok.regionW (G := fun _ => true) (C := TabP _) mixed layOk noT TabP_calm (.inl rfl) ?_)
        refine wstepN rfl rfl (by dsimp only [putV, List.set]) ?_
        refine wstepN rfl (convT henc rfl rfl rfl rfl) (by dsimp only [putV, List.set]) ?_
        refine wstepN rfl rfl (by dsimp only [putV, List.set]) ?_
        refine wnil ?_
        obtain ⟨N, hN⟩ : ∃ N, l.length = N + 1 := ⟨l.length - 1, by omega⟩
        have hsub : IntKind.i64.wrap ((l.length : Int) - 1) = (N : Int) := by
          rw [hN, wrap64 (by omega) (by omega)]
          omega
        refine Ok.seq (Ok.regionW (G := fun _ => true) (C := TabP _) mixed layOk noT TabP_calm (.inl rfl) ?_)
        refine wstepN rfl rfl (by dsimp only [putV, List.set]) ?_
        first
          | refine wstepN rfl (lenT rfl rfl) (by dsimp only [putV, List.set]) ?_
          | refine wstepN rfl rfl (by dsimp only [putV, List.set]) ?_
        first
          | refine wstepN rfl (subK (by assumption) rfl rfl) (by dsimp only [putV, List.set]) ?_
          | refine wstepN rfl rfl (by dsimp only [putV, List.set]) ?_
        refine wstepN rfl rfl (by dsimp only [putV, List.set]) ?_
        refine wnil ?_
        refine Ok.seq (go 10 rfl ?_)
        refine Ok.seq (go 10 rfl ?_)
        refine Ok.seq ?_
        refine Ok.block (Ok.loop (fun n ts bs => ts = _ ∧ bs = _) 0 ⟨rfl, rfl⟩ ?_)
        rintro _ _ _ ⟨rfl, rfl⟩
        refine Ok.seq ?_
        cases h5 : decide (N < 2)
        · refine Ok.seq (Ok.regionW (G := fun _ => true) (C := TabP _) mixed layOk noT TabP_calm (.inl rfl) ?_)
          refine wstepN rfl rfl (by dsimp only [putV, List.set]) ?_
          refine wstepN rfl rfl (by dsimp only [putV, List.set]) ?_
          first
            | refine wstepN rfl (lenT rfl rfl) (by dsimp only [putV, List.set]) ?_
            | refine wstepN rfl rfl (by dsimp only [putV, List.set]) ?_
          refine wstepN rfl (ltT (b := 2) h5 rfl rfl) (by dsimp only [putV, List.set]) ?_
          refine wnil (Ok.cond (b := false) rfl (fun h => by cases h) (fun _ => ?_))
          refine Ok.exit ?_
          exact go 10 rfl ⟨fun _ h => (by cases h), _, rfl, rfl⟩
        · have h5' : N < 2 := by simpa using h5
          obtain rfl : N = 1 := by omega
          obtain ⟨b, hb1, hb2⟩ := hb hN rfl
          refine Ok.seq (Ok.regionW (G := fun _ => true) (C := TabP _) mixed layOk noT TabP_calm (.inl rfl) ?_)
          refine wstepN rfl rfl (by dsimp only [putV, List.set]) ?_
          refine wstepN rfl rfl (by dsimp only [putV, List.set]) ?_
          first
            | refine wstepN rfl (lenT rfl rfl) (by dsimp only [putV, List.set]) ?_
            | refine wstepN rfl rfl (by dsimp only [putV, List.set]) ?_
          refine wstepN rfl (ltT (b := 2) h5 rfl rfl) (by dsimp only [putV, List.set]) ?_
          refine wnil (Ok.cond (b := true) rfl (fun _ => ?_) (fun h => by cases h))
          refine Ok.skip ?_
          refine Ok.block (Ok.scope ?_)
          refine Ok.seq ?_
          have h0 : nul[1]? = some (0 : UInt8) := rfl
          have hne : ((0 : Int) != (b.toNat : Int)) = true := by
            have : b.toNat ≠ (0 : UInt8).toNat := fun e => hb2 (UInt8.toNat_inj.1 e)
            simp at this ⊢
            omega
          refine Ok.seq (Ok.regionW (G := fun _ => true) (C := TabP _) mixed layOk noT TabP_calm (.inr ⟨by kernel_rfl, by kernel_rfl⟩) ?_)
          refine wstepN rfl rfl (by dsimp only [putV, List.set]) ?_
          refine wstepN rfl rfl (by dsimp only [putV, List.set]) ?_
          refine wstepN rfl (idxT (z := 1) rfl rfl rfl h0) (by dsimp only [putV, List.set]) ?_
          refine wstepN rfl rfl (by dsimp only [putV, List.set]) ?_
          refine wstepN rfl rfl (by dsimp only [putV, List.set]) ?_
          refine wstepN rfl (idxT (z := 1) rfl rfl rfl hb1) (by dsimp only [putV, List.set]) ?_
          refine wstepN rfl (neqK hne rfl rfl) (by dsimp only [putV, List.set]) ?_
          refine wnil (Ok.cond (b := true) rfl (fun _ => ?_) (fun h => by cases h))
          refine Ok.seq ?_
          refine Ok.regionW (G := fun _ => true) (C := TabP _) mixed layOk hT TabP_calm (.inr ⟨by kernel_rfl, by kernel_rfl⟩) ?_
          have hw : IntKind.i64.wrap ((1 : Nat) + 1 : Int) = ((2 : Nat) : Int) := by kernel_rfl
          refine wstepN rfl rfl (by dsimp only [putV, List.set]) ?_
          refine wstepN rfl rfl (by dsimp only [putV, List.set]) ?_
          refine wstepN rfl (addK hw rfl rfl) (by dsimp only [putV, List.set]) ?_
          refine wstepN rfl (cutFromT (a := 2) rfl rfl rfl (by decide)) (by dsimp only [putV, List.set]) ?_
          refine wstepN rfl rfl (by dsimp only [putV, List.set]) ?_
          refine wstepN rfl rfl (by dsimp only [putV, List.set]) ?_
          refine wstepN rfl (idxT (z := 1) rfl rfl rfl hb1) (by dsimp only [putV, List.set]) ?_
          refine wstepN rfl (TabP_hit (fun v' h => by cases h; rfl) (by constructor)) (by dsimp only [putV, List.set]) ?_
          refine wstepN rfl rfl (by dsimp only [putV, List.set]) ?_
          refine wnil ?_
          exact go 20 rfl ⟨fun _ h => (by cases h), _, rfl, rfl⟩
    · have h3 : (c : Int) = 65533 := by simpa using h3
      refine wstepN rfl rfl (by dsimp only [putV, List.set]) ?_
      first
        | refine wstepN rfl (eqlK (by assumption) rfl rfl) (by dsimp only [putV, List.set]) ?_
        | refine wstepN rfl rfl (by dsimp only [putV, List.set]) ?_
      refine wstepN rfl rfl (by dsimp only [putV, List.set]) ?_
      refine wnil (Ok.cond (b := true) rfl (fun _ => ?_) (fun h => by cases h))
      rw [h3]
      refine go 1000 rfl ?_
      exact ⟨fun _ h => (by cases h), _, rfl, rfl⟩
  · have hlt : c < 128 := by
      have : (c : Int) < 128 := by simpa using h2
      omega
    refine Ok.seq (Ok.regionW (G := fun _ => true) (C := TabP _) mixed layOk hT TabP_calm (.inl rfl) ?_)
    refine wstepN rfl rfl (by dsimp only [putV, List.set]) ?_
    first
      | refine wstepN rfl (leqK (by assumption) rfl rfl) (by dsimp only [putV, List.set]) ?_
      | refine wstepN rfl rfl (by dsimp only [putV, List.set]) ?_
    refine wstepN rfl rfl (by dsimp only [putV, List.set]) ?_
    first
      | refine wskipN rfl (by dsimp only [putV, List.set]) ?_
      | refine wstepN rfl rfl (by dsimp only [putV, List.set]) ?_
    first
      | refine wskipN rfl (by dsimp only [putV, List.set]) ?_
      | refine wstepN rfl (ltT (by assumption) rfl rfl) (by dsimp only [putV, List.set]) ?_
      | refine wstepN rfl (lssK (by assumption) rfl rfl) (by dsimp only [putV, List.set]) ?_
      | refine wstepN rfl rfl (by dsimp only [putV, List.set]) ?_
    refine wstepN rfl rfl (by dsimp only [putV, List.set]) ?_
    refine wstepN rfl rfl (by dsimp only [putV, List.set]) ?_
    refine wnil (Ok.cond (b := true) rfl (fun _ => ?_) (fun h => by cases h))
    refine Ok.seq (Ok.regionW (G := fun _ => true) (C := TabP _) mixed layOk hT TabP_calm (.inl rfl) ?_)
    have hw : IntKind.u8.wrap (c : Int) = (c : Int) := wrap8 (by omega) (by omega)
    refine wstepN rfl rfl (by dsimp only [putV, List.set]) ?_
    refine wstepN rfl rfl (by dsimp only [putV, List.set]) ?_
    refine wstepN rfl (convK rfl rfl hw rfl) (by dsimp only [putV, List.set]) ?_
    first
      | refine wstepN rfl (TabP_hit (fun v' h => by cases h; rfl) (by constructor)) (by dsimp only [putV, List.set]) ?_
      | refine wstepN rfl (TabP_hit (fun v' h => by cases h; rfl) (by assumption)) (by dsimp only [putV, List.set]) ?_
      | refine wstepN rfl rfl (by dsimp only [putV, List.set]) ?_
    refine wstepN rfl rfl (by dsimp only [putV, List.set]) ?_
    refine wnil (Ok.ret ⟨fun _ h => (by cases h), _, rfl, ?_⟩)
    show V.val (.int .i64 (firstIdx (B nul) (Int.toNat (c : Int)).toUInt8)) = _
    rw [first_nul c hlt]

end Go.Proofs.YtiefcnghjcafbaaDoorV
