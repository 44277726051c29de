/- The move of a redirection, of the program and of the reference. -/
import Derived.Test.YtbkjiglbkckhmaaDig
namespace Go.Proofs.YtbkjiglbkckhmaaV
open Go Go.RowKit Go.Proofs.Ytbkjiglbkckhmaa
set_option maxRecDepth 20000
set_option maxHeartbeats 1000000

/-- A move. -/
abbrev mvV (k a b c : Int) (p t : ByteArray) : V := .agg [.val (i64 k), .val (i64 a), .val (i64 b), .val (i64 c), .val (.string p), .val (.string t)]
def okMv (k a b c : Int) (p t : ByteArray) : V := .tup [mvV k a b c p t, .val (i64 0)]
def noMv (e : Int) : V := .tup [mvV 0 0 0 0 ⟨#[]⟩ ⟨#[]⟩, .val (i64 e)]
def andI (o : Int) : Int := IntKind.i64.wrap ((BitVec.ofInt 64 o &&& BitVec.ofInt 64 128).toNat : Int)
/-- Whether the option noclobber is set. -/
def nbO (o : Int) : Bool := andI o != 0
def flR (op : Int) (nb : Bool) : Int := if op == 1 then 1 else if op == 3 then 14 else if op == 6 then 11 else if op == 2 && nb then 42 else 26
def dupR (fd : Int) (s : ByteArray) : V := if decide (s = ⟨#[45]⟩) then okMv 3 fd 0 0 ⟨#[]⟩ ⟨#[]⟩ else if (digR s).2 && decide ((digR s).1 ≤ 9) then okMv 2 fd (digR s).1 0 ⟨#[]⟩ ⟨#[]⟩ else noMv 26
def mvR (fd op : Int) (s : ByteArray) (nb : Bool) : V :=
  if decide (fd < 0) || decide (fd > 9) then noMv 2
  else if decide (op < 1) || decide (op > 8) then noMv 1
  else if op == 4 || op == 5 then dupR fd s
  else if op == 8 then okMv 4 fd 0 0 ⟨#[]⟩ s
  else if decide (s = ⟨#[]⟩) then noMv 8
  else okMv 1 fd 0 (flR op nb) s ⟨#[]⟩

theorem flags48 (op o : Int) : FnOk Try.prog 48 [.val (i64 op), .val (i64 o)] [] (fun r bs' => fr bs' r = .val (i64 (flR op (nbO o)))) := by
  refine FnOk.fast (Q := fun r => r = .val (i64 (flR op (nbO o)))) layOk Try.func48 rfl ?_
  unfold nbO
  generalize h : (andI o != 0) = nb
  rcases op with (_ | _ | _ | _ | _ | _ | _ | k) | k
  case ofNat.succ.succ.zero =>
    refine Ok.seq (go 10 rfl ?_)
    refine Ok.seq (Ok.seq (go 10 rfl ?_))
    refine Ok.block (Ok.seq (go 10 rfl ?_))
    refine Ok.cond (b := false) rfl (fun h => by cases h) (fun _ => Ok.seq (go 10 rfl ?_))
    refine Ok.cond (b := false) rfl (fun h => by cases h) (fun _ => Ok.seq (go 10 rfl ?_))
    refine Ok.cond (b := false) rfl (fun h => by cases h) (fun _ => Ok.seq (go 10 rfl ?_))
    refine Ok.cond (b := true) rfl (fun _ => ?_) (fun h => by cases h)
    refine Ok.seq (Ok.regionW (G := fun _ => false) (C := fun _ _ _ => none) mixed layOk noCalls (fun _ _ h => by cases h) (.inl rfl) ?_)
    refine wstepN rfl rfl (by dsimp only [putV, List.set]) ?_
    refine wstepN rfl rfl (by dsimp only [putV, List.set]) ?_
    refine wstepN rfl (neqK (k := .i64) (a := andI o) (b := 0) h rfl rfl) (by dsimp only [putV, List.set]) ?_
    refine wnil ?_
    refine Ok.cond (b := nb) rfl (fun h => ?_) (fun h => ?_)
    · subst h
      exact go 10 rfl ⟨fun _ h => (by cases h), _, rfl, rfl⟩
    · subst h
      exact go 10 rfl (goOut 10 (r := .val (i64 26)) (by kernel_rfl) rfl)
  all_goals exact goOut 100 (by kernel_rfl) rfl

theorem dup47 (fd : Int) (s : ByteArray) : FnOk Try.prog 47 [.val (i64 fd), .val (.string s)] [] (fun r bs' => fr bs' r = dupR fd s) := by
  refine FnOk.fast (Q := fun r => r = dupR fd s) layOk Try.func47 rfl ?_
  have hT : ∀ e ∈ [((51 : FuncId), [V.val (.string s)], digV s)], (∀ bs, FnOk Try.prog e.1 e.2.1 bs (fun r b => r = e.2.2 ∧ b = bs)) ∧ Enters Try.prog e.1 := by
    intro e he
    obtain rfl := List.mem_singleton.1 he
    exact fact (digits51 s) rfl rfl Try.call51
  unfold dupR
  unfold digV at hT
  generalize (digR s).1 = z at hT ⊢
  generalize (digR s).2 = u at hT ⊢
  generalize h1 : decide (s = ⟨#[45]⟩) = e
  generalize h2 : decide (z ≤ 9) = q
  refine Ok.seq (go 10 rfl ?_)
  unfold thn
  dsimp only
  refine Ok.seq (Ok.seq (Ok.regionW (G := fun _ => false) (C := fun _ _ _ => none) mixed layOk noCalls (fun _ _ h => by cases h) (.inl rfl) ?_))
  refine wstepN rfl rfl (by dsimp only [putV, List.set]) ?_
  refine wstepN rfl (eqlS h1 rfl rfl) (by dsimp only [putV, List.set]) ?_
  refine wnil (Ok.cond (b := e) rfl (fun h => ?_) (fun h => Ok.skip ?_))
  · subst h
    exact go 10 rfl ⟨fun _ h => (by cases h), _, rfl, rfl⟩
  · subst h
    unfold thn
    dsimp only
    refine Ok.seq (Ok.seq (Ok.regionW (G := fun _ => true) (C := Tab _) mixed layOk (Tab_good hT) Tab_calm (.inl rfl) ?_))
    refine wstepN rfl rfl (by dsimp only [putV, List.set]) ?_
    refine wstepN rfl Tab_hit (by dsimp only [putV, List.set]) ?_
    repeat refine wstepN rfl rfl (by dsimp only [putV, List.set]) ?_
    refine wnil ?_
    refine Ok.seq (Ok.regionW (G := fun _ => false) (C := fun _ _ _ => none) mixed layOk noCalls (fun _ _ h => by cases h) (.inl rfl) ?_)
    cases u
    · repeat (first | refine wskipN rfl (by dsimp only [putV, List.set]) ?_ | refine wstepN rfl rfl (by dsimp only [putV, List.set]) ?_)
      refine wnil (Ok.cond (b := false) rfl (fun h => by cases h) (fun _ => Ok.skip ?_))
      exact go 10 rfl ⟨fun _ h => (by cases h), _, rfl, rfl⟩
    · repeat (first | refine wstepN rfl (leqK h2 rfl rfl) (by dsimp only [putV, List.set]) ?_ | refine wstepN rfl rfl (by dsimp only [putV, List.set]) ?_)
      refine wnil (Ok.cond (b := q) rfl (fun h => ?_) (fun h => Ok.skip ?_))
      · subst h
        exact go 10 rfl ⟨fun _ h => (by cases h), _, rfl, rfl⟩
      · subst h
        exact go 10 rfl ⟨fun _ h => (by cases h), _, rfl, rfl⟩

/-- A redirection. -/
abbrev rdV (pos fd op wp : Int) (w : Value) : V := .agg [.val (i64 pos), .val (i64 fd), .val (i64 op), .val (i64 wp), .val w]
def bs39 (pos fd op wp : Int) (w : Value) : List Bx := [.cells [.val (i64 pos), .val (i64 fd), .val (i64 op), .val (i64 wp), .val w], .cells [.val (i64 0), .val (i64 0), .val (i64 0), .val (i64 0), .val emp, .val emp]]
def base39 (s : ByteArray) (o : Int) : List V := (((((List.replicate 63 V.gone).set 1 (.val (.string s))).set 2 (.val (i64 o))).set 3 (.ptr 0 0)).set 6 (.ptr 1 0)).set 7 (.val (i64 0))
def base40 (s : ByteArray) (nb : Bool) : List V := (((((List.replicate 76 V.gone).set 1 (.val (.string s))).set 2 (.val (.bool nb))).set 3 (.ptr 0 0)).set 6 (.ptr 1 0)).set 7 (.val (i64 0))
theorem dup_clean (fd : Int) (s : ByteArray) : clean (dupR fd s) = true := by
  simp only [dupR]
  repeat' split
  all_goals rfl
theorem dup_is (fd : Int) (s : ByteArray) : ∃ k a b c p t e, dupR fd s = .tup [mvV k a b c p t, .val (i64 e)] := by
  simp only [dupR]
  repeat' split
  all_goals exact ⟨_, _, _, _, _, _, _, rfl⟩

theorem mv39 (pos fd op wp : Int) (w : Value) (s : ByteArray) (o : Int) : FnOk Try.prog 39 [rdV pos fd op wp w, .val (.string s), .val (i64 o)] [] (fun r bs' => fr bs' r = mvR fd op s (nbO o)) := by
  refine FnOk.fast (Q := fun r => r = mvR fd op s (nbO o)) layOk Try.func39 rfl ?_
  have hT : ∀ e ∈ [((47 : FuncId), [V.val (i64 fd), V.val (.string s)], dupR fd s), (48, [V.val (i64 op), V.val (i64 o)], V.val (i64 (flR op (nbO o))))], (∀ bs, FnOk Try.prog e.1 e.2.1 bs (fun r b => r = e.2.2 ∧ b = bs)) ∧ Enters Try.prog e.1 := by
    intro e he
    simp only [List.mem_cons, List.not_mem_nil, or_false] at he
    rcases he with rfl | rfl
    · exact fact (dup47 fd s) rfl (dup_clean fd s) Try.call47
    · exact fact (flags48 op o) rfl rfl Try.call48
  refine Ok.seq (go 10 rfl ?_)
  unfold thn
  dsimp only
  unfold mvR
  generalize h1 : decide (fd < 0) = a1
  generalize h2 : decide (fd > 9) = a2
  generalize h3 : decide (op < 1) = b1
  generalize h4 : decide (op > 8) = b2
  generalize h5 : (op == 4) = c1
  generalize h6 : (op == 5) = c2
  generalize h7 : (op == 8) = d1
  generalize h8 : decide (s = ⟨#[]⟩) = e1
  generalize flR op (nbO o) = fl at hT ⊢
  refine Ok.seq (Ok.block (Ok.seq (Ok.mono (Q := fun e ts bs => e = .normal ∧ bs = bs39 pos fd op wp w ∧ ts = (base39 s o).set 8 (.val (.bool (a1 || a2)))) (Ok.after (Ok.regionW (G := fun _ => false) (C := fun _ _ _ => none) mixed layOk noCalls (fun _ _ h => by cases h) (.inl rfl) ?_)) ?_)))
  · cases a1
    · repeat (first | refine wskipN rfl (by dsimp only [putV, List.set]) ?_ | refine wstepN rfl (lssK h1 rfl rfl) (by dsimp only [putV, List.set]) ?_ | refine wstepN rfl (gtrK h2 rfl rfl) (by dsimp only [putV, List.set]) ?_ | refine wstepN rfl rfl (by dsimp only [putV, List.set]) ?_)
      refine wnil ?_
      exact ⟨[0, 1], [1, 2, 3, 6, 7, 8], _, rfl, by decide, floor_ok rfl, rfl, rfl, by kernel_rfl⟩
    · repeat (first | refine wskipN rfl (by dsimp only [putV, List.set]) ?_ | refine wstepN rfl (lssK h1 rfl rfl) (by dsimp only [putV, List.set]) ?_ | refine wstepN rfl rfl (by dsimp only [putV, List.set]) ?_)
      refine wnil ?_
      exact ⟨[0, 1], [1, 2, 3, 6, 7, 8], _, rfl, by decide, floor_ok rfl, rfl, rfl, by kernel_rfl⟩
  rintro _ _ _ ⟨rfl, rfl, rfl⟩
  simp only [List.replicate, List.set, base39, bs39]
  refine Ok.cond (b := a1 || a2) rfl (fun h => ?_) (fun h => ?_)
  · rw [h]
    exact go 10 rfl ⟨fun _ h => (by cases h), _, rfl, rfl⟩
  rw [h]
  refine Ok.seq (Ok.mono (Q := fun e ts bs => e = .normal ∧ bs = bs39 pos fd op wp w ∧ ts = (base39 s o).set 18 (.val (.bool (b1 || b2)))) (Ok.after (Ok.regionW (G := fun _ => false) (C := fun _ _ _ => none) mixed layOk noCalls (fun _ _ h => by cases h) (.inl rfl) ?_)) ?_)
  · cases b1
    · repeat (first | refine wskipN rfl (by dsimp only [putV, List.set]) ?_ | refine wstepN rfl (lssK h3 rfl rfl) (by dsimp only [putV, List.set]) ?_ | refine wstepN rfl (gtrK h4 rfl rfl) (by dsimp only [putV, List.set]) ?_ | refine wstepN rfl rfl (by dsimp only [putV, List.set]) ?_)
      refine wnil ?_
      exact ⟨[0, 1], [1, 2, 3, 6, 7, 18], _, rfl, by decide, floor_ok rfl, rfl, rfl, by kernel_rfl⟩
    · repeat (first | refine wskipN rfl (by dsimp only [putV, List.set]) ?_ | refine wstepN rfl (lssK h3 rfl rfl) (by dsimp only [putV, List.set]) ?_ | refine wstepN rfl rfl (by dsimp only [putV, List.set]) ?_)
      refine wnil ?_
      exact ⟨[0, 1], [1, 2, 3, 6, 7, 18], _, rfl, by decide, floor_ok rfl, rfl, rfl, by kernel_rfl⟩
  rintro _ _ _ ⟨rfl, rfl, rfl⟩
  simp only [List.replicate, List.set, base39, bs39]
  refine Ok.cond (b := b1 || b2) rfl (fun h => ?_) (fun h => ?_)
  · rw [h]
    exact go 10 rfl ⟨fun _ h => (by cases h), _, rfl, rfl⟩
  rw [h]
  refine Ok.seq (Ok.mono (Q := fun e ts bs => e = .normal ∧ bs = bs39 pos fd op wp w ∧ ts = (base39 s o).set 28 (.val (.bool (c1 || c2)))) (Ok.after (Ok.regionW (G := fun _ => false) (C := fun _ _ _ => none) mixed layOk noCalls (fun _ _ h => by cases h) (.inl rfl) ?_)) ?_)
  · cases c1
    · repeat (first | refine wskipN rfl (by dsimp only [putV, List.set]) ?_ | refine wstepN rfl (eqlK h5 rfl rfl) (by dsimp only [putV, List.set]) ?_ | refine wstepN rfl (eqlK h6 rfl rfl) (by dsimp only [putV, List.set]) ?_ | refine wstepN rfl rfl (by dsimp only [putV, List.set]) ?_)
      refine wnil ?_
      exact ⟨[0, 1], [1, 2, 3, 6, 7, 28], _, rfl, by decide, floor_ok rfl, rfl, rfl, by kernel_rfl⟩
    · repeat (first | refine wskipN rfl (by dsimp only [putV, List.set]) ?_ | refine wstepN rfl (eqlK h5 rfl rfl) (by dsimp only [putV, List.set]) ?_ | refine wstepN rfl rfl (by dsimp only [putV, List.set]) ?_)
      refine wnil ?_
      exact ⟨[0, 1], [1, 2, 3, 6, 7, 28], _, rfl, by decide, floor_ok rfl, rfl, rfl, by kernel_rfl⟩
  rintro _ _ _ ⟨rfl, rfl, rfl⟩
  simp only [List.replicate, List.set, base39, bs39]
  refine Ok.cond (b := c1 || c2) rfl (fun h => ?_) (fun h => ?_)
  · rw [h]
    obtain ⟨k, a, b, c, p, t, e, hd⟩ := dup_is fd s
    rw [hd] at hT ⊢
    refine Ok.seq (Ok.regionW (G := fun _ => true) (C := Tab _) mixed layOk (Tab_good hT) Tab_calm (.inl rfl) ?_)
    refine wstepN rfl rfl (by dsimp only [putV, List.set]) ?_
    refine wstepN rfl rfl (by dsimp only [putV, List.set]) ?_
    refine wstepN rfl rfl (by dsimp only [putV, List.set]) ?_
    refine wstepN rfl Tab_hit (by dsimp only [putV, List.set]) ?_
    repeat refine wstepN rfl rfl (by dsimp only [putV, List.set]) ?_
    refine wnil ?_
    exact Ok.ret ⟨fun _ h => (by cases h), _, rfl, rfl⟩
  rw [h]
  refine Ok.seq (Ok.regionW (G := fun _ => false) (C := fun _ _ _ => none) mixed layOk noCalls (fun _ _ h => by cases h) (.inl rfl) ?_)
  refine wstepN rfl rfl (by dsimp only [putV, List.set]) ?_
  refine wstepN rfl rfl (by dsimp only [putV, List.set]) ?_
  refine wstepN rfl (eqlK h7 rfl rfl) (by dsimp only [putV, List.set]) ?_
  refine wstepN rfl rfl (by dsimp only [putV, List.set]) ?_
  refine wnil (Ok.cond (b := d1) rfl (fun h => ?_) (fun h => ?_))
  · subst h
    exact go 10 rfl ⟨fun _ h => (by cases h), _, rfl, rfl⟩
  subst h
  refine Ok.seq (Ok.regionW (G := fun _ => false) (C := fun _ _ _ => none) mixed layOk noCalls (fun _ _ h => by cases h) (.inl rfl) ?_)
  refine wstepN rfl rfl (by dsimp only [putV, List.set]) ?_
  refine wstepN rfl (eqlS h8 rfl rfl) (by dsimp only [putV, List.set]) ?_
  refine wstepN rfl rfl (by dsimp only [putV, List.set]) ?_
  refine wnil (Ok.cond (b := e1) rfl (fun h => ?_) (fun h => Ok.skip ?_))
  · subst h
    exact go 10 rfl ⟨fun _ h => (by cases h), _, rfl, rfl⟩
  subst h
  unfold blk thn
  dsimp only
  refine Ok.seq (Ok.regionW (G := fun _ => true) (C := Tab _) mixed layOk (Tab_good hT) Tab_calm (.inr ⟨by kernel_rfl, by kernel_rfl⟩) ?_)
  refine wstepN rfl rfl (by dsimp only [putV, List.set]) ?_
  refine wstepN rfl rfl (by dsimp only [putV, List.set]) ?_
  refine wstepN rfl rfl (by dsimp only [putV, List.set]) ?_
  refine wstepN rfl rfl (by dsimp only [putV, List.set]) ?_
  refine wstepN rfl rfl (by dsimp only [putV, List.set]) ?_
  refine wstepN rfl rfl (by dsimp only [putV, List.set]) ?_
  refine wstepN rfl ((Tab_skip (by decide)).trans Tab_hit) (by dsimp only [putV, List.set]) ?_
  repeat refine wstepN rfl rfl (by dsimp only [putV, List.set]) ?_
  refine wnil ?_
  exact Ok.ret ⟨fun _ h => (by cases h), _, rfl, rfl⟩

theorem mv40 (pos fd op wp : Int) (w : Value) (s : ByteArray) (nb : Bool) : FnOk Try.prog 40 [rdV pos fd op wp w, .val (.string s), .val (.bool nb)] [] (fun r bs' => fr bs' r = mvR fd op s nb) := by
  refine FnOk.fast (Q := fun r => r = mvR fd op s nb) layOk Try.func40 rfl ?_
  have hT : ∀ e ∈ [((49 : FuncId), [V.val (.string s)], digV s)], (∀ bs, FnOk Try.prog e.1 e.2.1 bs (fun r b => r = e.2.2 ∧ b = bs)) ∧ Enters Try.prog e.1 := by
    intro e he
    obtain rfl := List.mem_singleton.1 he
    exact fact (digits49 s) rfl rfl Try.call49
  refine Ok.seq (go 10 rfl ?_)
  unfold thn
  dsimp only
  unfold mvR
  generalize h1 : decide (fd < 0) = a1
  generalize h2 : decide (fd > 9) = a2
  generalize h8 : decide (s = ⟨#[]⟩) = e1
  refine Ok.seq (Ok.seq (Ok.mono (Q := fun e ts bs => e = .normal ∧ bs = bs39 pos fd op wp w ∧ ts = (base40 s nb).set 18 (.val (.bool (a1 || a2)))) (Ok.after (Ok.regionW (G := fun _ => false) (C := fun _ _ _ => none) mixed layOk noCalls (fun _ _ h => by cases h) (.inl rfl) ?_)) ?_))
  · cases a1
    · repeat (first | refine wskipN rfl (by dsimp only [putV, List.set]) ?_ | refine wstepN rfl (lssK h1 rfl rfl) (by dsimp only [putV, List.set]) ?_ | refine wstepN rfl (gtrK h2 rfl rfl) (by dsimp only [putV, List.set]) ?_ | refine wstepN rfl rfl (by dsimp only [putV, List.set]) ?_)
      refine wnil ?_
      exact ⟨[0, 1], [1, 2, 3, 6, 7, 18], _, rfl, by decide, floor_ok rfl, rfl, rfl, by kernel_rfl⟩
    · repeat (first | refine wskipN rfl (by dsimp only [putV, List.set]) ?_ | refine wstepN rfl (lssK h1 rfl rfl) (by dsimp only [putV, List.set]) ?_ | refine wstepN rfl rfl (by dsimp only [putV, List.set]) ?_)
      refine wnil ?_
      exact ⟨[0, 1], [1, 2, 3, 6, 7, 18], _, rfl, by decide, floor_ok rfl, rfl, rfl, by kernel_rfl⟩
  rintro _ _ _ ⟨rfl, rfl, rfl⟩
  simp only [List.replicate, List.set, base40, bs39]
  refine Ok.cond (b := a1 || a2) rfl (fun h => ?_) (fun h => Ok.skip ?_)
  · rw [h]
    exact go 10 rfl ⟨fun _ h => (by cases h), _, rfl, rfl⟩
  rw [h]
  unfold thn
  dsimp only
  by_cases hout : op < 1 ∨ op > 8
  · have ho : (decide (op < 1) || decide (op > 8)) = true := by simpa using hout
    rw [ho]
    rcases op with (_ | _ | _ | _ | _ | _ | _ | _ | _ | k) | k
    case ofNat.zero => exact goOut 60 (r := noMv 1) (by kernel_rfl) rfl
    case ofNat.succ.succ.succ.succ.succ.succ.succ.succ.succ => exact goOut 60 (r := noMv 1) (by kernel_rfl) rfl
    case negSucc => exact goOut 60 (r := noMv 1) (by kernel_rfl) rfl
    all_goals exact absurd hout (by decide)
  · have hin : op = 1 ∨ op = 2 ∨ op = 3 ∨ op = 4 ∨ op = 5 ∨ op = 6 ∨ op = 7 ∨ op = 8 := by omega
    have ho : (decide (op < 1) || decide (op > 8)) = false := by simpa using hout
    rw [ho]
    rcases hin with rfl | rfl | rfl | rfl | rfl | rfl | rfl | rfl
    case inr.inr.inr.inr.inr.inr.inr => exact goOut 60 (r := okMv 4 fd 0 0 ⟨#[]⟩ s) (by kernel_rfl) rfl
    case inr.inr.inr.inl | inr.inr.inr.inr.inl =>
      show Ok _ _ _ (Ret lay _ fun r => r = dupR fd s) _ _
      unfold dupR
      unfold digV at hT
      generalize (digR s).1 = z at hT ⊢
      generalize (digR s).2 = u at hT ⊢
      generalize h9 : decide (s = ⟨#[45]⟩) = e2
      generalize h10 : decide (z > 9) = q
      have h11 : decide (z ≤ 9) = !q := by
        rw [← h10]
        by_cases hz : z ≤ 9 <;> simp [hz] <;> omega
      rw [h11]
      refine Ok.seq (go 10 rfl ?_)
      refine Ok.seq (Ok.seq (go 10 rfl ?_))
      refine Ok.block (Ok.seq (go 10 rfl ?_))
      refine Ok.cond (b := false) rfl (fun h => by cases h) (fun _ => Ok.seq (go 20 rfl ?_))
      refine Ok.cond (b := false) rfl (fun h => by cases h) (fun _ => Ok.seq (go 20 rfl ?_))
      refine Ok.cond (b := false) rfl (fun h => by cases h) (fun _ => Ok.seq (go 20 rfl ?_))
      refine Ok.cond (b := false) rfl (fun h => by cases h) (fun _ => Ok.seq (go 20 rfl ?_))
      refine Ok.cond (b := false) rfl (fun h => by cases h) (fun _ => Ok.seq (go 20 rfl ?_))
      refine Ok.cond (b := true) rfl (fun _ => ?_) (fun h => by cases h)
      refine Ok.seq (Ok.seq (Ok.regionW (G := fun _ => false) (C := fun _ _ _ => none) mixed layOk noCalls (fun _ _ h => by cases h) (.inl rfl) ?_))
      refine wstepN rfl rfl (by dsimp only [putV, List.set]) ?_
      refine wstepN rfl (eqlS h9 rfl rfl) (by dsimp only [putV, List.set]) ?_
      refine wnil (Ok.cond (b := e2) rfl (fun h => ?_) (fun h => Ok.skip ?_))
      · subst h
        exact go 10 rfl ⟨fun _ h => (by cases h), _, rfl, rfl⟩
      · subst h
        unfold thn
        dsimp only
        refine Ok.seq (Ok.regionW (G := fun _ => true) (C := Tab _) mixed layOk (Tab_good hT) Tab_calm (.inl rfl) ?_)
        refine wstepN rfl rfl (by dsimp only [putV, List.set]) ?_
        refine wstepN rfl Tab_hit (by dsimp only [putV, List.set]) ?_
        repeat refine wstepN rfl rfl (by dsimp only [putV, List.set]) ?_
        refine wnil ?_
        refine Ok.seq (Ok.seq (Ok.regionW (G := fun _ => false) (C := fun _ _ _ => none) mixed layOk noCalls (fun _ _ h => by cases h) (.inl rfl) ?_))
        cases u
        · repeat (first | refine wskipN rfl (by dsimp only [putV, List.set]) ?_ | refine wstepN rfl rfl (by dsimp only [putV, List.set]) ?_)
          refine wnil (Ok.cond (b := true) rfl (fun _ => ?_) (fun h => by cases h))
          exact go 10 rfl ⟨fun _ h => (by cases h), _, rfl, rfl⟩
        · repeat (first | refine wstepN rfl (gtrK h10 rfl rfl) (by dsimp only [putV, List.set]) ?_ | refine wstepN rfl rfl (by dsimp only [putV, List.set]) ?_)
          refine wnil (Ok.cond (b := q) rfl (fun h => ?_) (fun h => Ok.skip ?_))
          · subst h
            exact go 10 rfl ⟨fun _ h => (by cases h), _, rfl, rfl⟩
          · subst h
            exact go 10 rfl ⟨fun _ h => (by cases h), _, rfl, rfl⟩
    all_goals
      cases nb
      all_goals
        refine Ok.seq (go 10 rfl ?_)
        refine Ok.seq (go 60 rfl ?_)
        unfold thn
        dsimp only
        refine Ok.seq (Ok.seq (Ok.regionW (G := fun _ => false) (C := fun _ _ _ => none) mixed layOk noCalls (fun _ _ h => by cases h) (.inl rfl) ?_))
        refine wstepN rfl rfl (by dsimp only [putV, List.set]) ?_
        refine wstepN rfl (eqlS h8 rfl rfl) (by dsimp only [putV, List.set]) ?_
        refine wnil (Ok.cond (b := e1) rfl (fun h => ?_) (fun h => Ok.skip ?_))
        · subst h
          exact go 10 rfl ⟨fun _ h => (by cases h), _, rfl, rfl⟩
        · subst h
          exact go 10 rfl ⟨fun _ h => (by cases h), _, rfl, rfl⟩


end Go.Proofs.YtbkjiglbkckhmaaV
