/- The law RedirectAsks over plain values. -/
import Derived.Test.YtbkjiglbkckhmaaSame
import Derived.Test.YtbkjiglbkckhmaaEx35
namespace Go.Proofs.YtbkjiglbkckhmaaV
open Go Go.RowKit Go.Proofs.Ytbkjiglbkckhmaa
set_option maxRecDepth 20000
set_option maxHeartbeats 1000000

/-- A move. -/
abbrev movV (k a b c : Int) (p t : ByteArray) : V := .agg [.val (i64 k), .val (i64 a), .val (i64 b), .val (i64 c), .val (.string p), .val (.string t)]
/-- A request with lists made fast. -/
abbrev reqF (a0 a1 a2 a3 a4 a5 a6 a7 : Value) (p t : ByteArray) : V := .agg [.val a0, .val a1, .val a2, .val a3, .val a4, .val a5, .val a6, .val a7, .val (.string p), .val (.string t), .sl [], .sl []]
def ors (c : Int) : Value := bitsV .i64 (· ||| ·) c 64
/-- The request of a move, and whether there is one. -/
def askR (k a b c : Int) (p t : ByteArray) : V :=
  if k == 1 then .tup [reqF (i64 3) (i64 0) (i64 0) (i64 0) (i64 0) (i64 0) (i64 a) (ors c) p ⟨#[]⟩, .val (.bool true)]
  else if k == 4 then .tup [reqF (i64 24) (i64 0) (i64 0) (i64 0) (i64 0) (i64 0) (i64 a) (i64 64) ⟨#[]⟩ t, .val (.bool true)]
  else if k == 2 then .tup [reqF (i64 5) (i64 b) (i64 a) (i64 0) (i64 0) (i64 0) (i64 0) (i64 0) ⟨#[]⟩ ⟨#[]⟩, .val (.bool true)]
  else if k == 3 then .tup [reqF (i64 4) (i64 a) (i64 0) (i64 0) (i64 0) (i64 0) (i64 0) (i64 0) ⟨#[]⟩ ⟨#[]⟩, .val (.bool true)]
  else if k == 5 then .tup [reqF (i64 5) (i64 a) (i64 (-1)) (i64 0) (i64 0) (i64 0) (i64 b) (i64 0) ⟨#[]⟩ ⟨#[]⟩, .val (.bool true)]
  else if k == 6 then (if decide (b < 0) then .tup [reqF (i64 4) (i64 a) (i64 0) (i64 0) (i64 0) (i64 0) (i64 0) (i64 0) ⟨#[]⟩ ⟨#[]⟩, .val (.bool true)] else .tup [reqF (i64 25) (i64 b) (i64 a) (i64 0) (i64 0) (i64 0) (i64 0) (i64 0) ⟨#[]⟩ ⟨#[]⟩, .val (.bool true)])
  else .tup [reqF (i64 0) (i64 0) (i64 0) (i64 0) (i64 0) (i64 0) (i64 0) (i64 0) ⟨#[]⟩ ⟨#[]⟩, .val (.bool false)]

theorem ask30 (k a b c : Int) (p t : ByteArray) : FnOk Try.prog 30 [movV k a b c p t] [] (fun r bs' => fr bs' r = askR k a b c p t) := by
  refine FnOk.fast (Q := fun r => r = askR k a b c p t) layOk Try.func30 rfl (goOut 100 (r := askR k a b c p t) ?_ rfl)
  rcases k with (_ | _ | _ | _ | _ | _ | _ | k) | k
  case ofNat.succ.succ.succ.succ.succ.succ.zero => rcases b with n | (_ | n) <;> kernel_rfl
  all_goals kernel_rfl
theorem ask31 (k a b c : Int) (p t : ByteArray) : FnOk Try.prog 31 [movV k a b c p t] [] (fun r bs' => fr bs' r = askR k a b c p t) := by
  refine FnOk.fast (Q := fun r => r = askR k a b c p t) layOk Try.func31 rfl (goOut 100 (r := askR k a b c p t) ?_ rfl)
  rcases k with (_ | _ | _ | _ | _ | _ | _ | k) | k
  case ofNat.succ.succ.succ.succ.succ.succ.zero => rcases b with n | (_ | n) <;> kernel_rfl
  all_goals kernel_rfl

/-- What is asked is a request and a bool. -/
theorem ask_is (k a b c : Int) (p t : ByteArray) : ∃ (b0 b1 b2 b3 b4 b5 b6 b7 : Int) (s8 s9 : ByteArray) (u : Bool), askR k a b c p t = .tup [.agg [.val (i64 b0), .val (i64 b1), .val (i64 b2), .val (i64 b3), .val (i64 b4), .val (i64 b5), .val (i64 b6), .val (i64 b7), .val (.string s8), .val (.string s9), .sl [], .sl []], .val (.bool u)] := by
  unfold askR
  repeat' split
  all_goals exact ⟨_, _, _, _, _, _, _, _, _, _, _, rfl⟩

inductive T8 (k a b c : Int) (p t : ByteArray) (r : V) : FuncId → List V → V → Prop
  | a30 : T8 k a b c p t r 30 [movV k a b c p t] r
  | a31 : T8 k a b c p t r 31 [movV k a b c p t] r
  | same (b0 b1 b2 b3 b4 b5 b6 b7 : Int) (s8 s9 : ByteArray) : T8 k a b c p t r 32 [.agg [.val (i64 b0), .val (i64 b1), .val (i64 b2), .val (i64 b3), .val (i64 b4), .val (i64 b5), .val (i64 b6), .val (i64 b7), .val (.string s8), .val (.string s9), .sl [], .sl []], .agg [.val (i64 b0), .val (i64 b1), .val (i64 b2), .val (i64 b3), .val (i64 b4), .val (i64 b5), .val (i64 b6), .val (i64 b7), .val (.string s8), .val (.string s9), .sl [], .sl []]] (.val (.bool true))
  | ex : T8 k a b c p t r 24 [] (.val (.bool true))
theorem T8_good (k a b c : Int) (p t : ByteArray) (r : V) (hr : askR k a b c p t = r) : Good Try.prog (TabP (T8 k a b c p t r)) := by
  have hc : clean r = true := by
    rw [← hr]
    obtain ⟨b0, b1, b2, b3, b4, b5, b6, b7, s8, s9, u, h⟩ := ask_is k a b c p t
    rw [h]
    rfl
  refine TabP_good fun f vs v h => ?_
  cases h with
  | a30 => exact ⟨hr ▸ ask30 k a b c p t, rfl, hc, Try.call30⟩
  | a31 => exact ⟨hr ▸ ask31 k a b c p t, rfl, hc, Try.call31⟩
  | same => exact ⟨same32 _ _ _ _ _ _ _ _ _ _, rfl, rfl, Try.call32⟩
  | ex => exact ⟨ex24, rfl, rfl, Try.call24⟩

theorem law8 (k a b c : Int) (p t : ByteArray) : FnOk Try.prog 8 [movV k a b c p t] [] (fun r _ => r = .val (.bool true)) := by
  refine FnOk.of layOk Try.func8 rfl ?_
  obtain ⟨b0, b1, b2, b3, b4, b5, b6, b7, s8, s9, u, hr⟩ := ask_is k a b c p t
  have hT := T8_good k a b c p t _ hr
  refine Ok.seq (go 10 rfl ?_)
  unfold thn
  dsimp only
  refine Ok.seq (Ok.regionW (G := fun _ => true) (C := TabP _) mixed layOk hT TabP_calm (.inl rfl) ?_)
  refine wstepN rfl rfl (by dsimp only [putV, List.set]) ?_
  refine wstepN rfl (TabP_hit (fun v' h => by cases h; rfl) .a30) (by dsimp only [putV, List.set]) ?_
  repeat refine wstepN rfl rfl (by dsimp only [putV, List.set]) ?_
  refine wnil ?_
  refine Ok.seq (Ok.regionW (G := fun _ => true) (C := TabP _) mixed layOk hT TabP_calm (.inl rfl) ?_)
  refine wstepN rfl rfl (by dsimp only [putV, List.set]) ?_
  refine wstepN rfl (TabP_hit (fun v' h => by cases h; rfl) .a31) (by dsimp only [putV, List.set]) ?_
  repeat refine wstepN rfl rfl (by dsimp only [putV, List.set]) ?_
  refine wnil ?_
  refine Ok.seq (Ok.regionW (G := fun _ => true) (C := TabP _) mixed layOk hT TabP_calm (.inl rfl) ?_)
  refine wstepN rfl rfl (by dsimp only [putV, List.set]) ?_
  refine wstepN rfl rfl (by dsimp only [putV, List.set]) ?_
  refine wstepN rfl (TabP_hit (fun v' h => by cases h; rfl) (.same b0 b1 b2 b3 b4 b5 b6 b7 s8 s9)) (by dsimp only [putV, List.set]) ?_
  cases u
  all_goals
    repeat (first | refine wstepN rfl (TabP_hit (fun v' h => by cases h; rfl) .ex) (by dsimp only [putV, List.set]) ?_ | refine wstepN rfl rfl (by dsimp only [putV, List.set]) ?_)
    refine wnil ?_
    exact Ok.ret ⟨fun _ h => (by cases h), _, rfl, rfl⟩


end Go.Proofs.YtbkjiglbkckhmaaV
