/- The table of this claim's functions, for the calculus of values. -/
import Derived.Test.YtbkjiglbkckhmaaV23
import Derived.Test.YtbkjiglbkckhmaaLay
import Derived.Test.YtbkjiglbkckhmaaRows
namespace Go.Proofs.YtbkjiglbkckhmaaV
open Go Go.RowKit Go.Proofs.Ytbkjiglbkckhmaa

noncomputable def tab : FuncId → Option Func := fun f => match f with
  | 3 => some Try.f3
  | 4 => some Try.f4
  | 5 => some Try.f5
  | 6 => some Try.f6
  | 7 => some Try.f7
  | 8 => some Try.f8
  | 9 => some Try.f9
  | 10 => some Try.f10
  | 11 => some Try.f11
  | 12 => some Try.f12
  | 13 => some Try.f13
  | 14 => some Try.f14
  | 15 => some Try.f15
  | 16 => some Try.f16
  | 17 => some Try.f17
  | 18 => some Try.f18
  | 19 => some Try.f19
  | 20 => some Try.f20
  | 21 => some Try.f21
  | 22 => some Try.f22
  | 23 => some Try.f23
  | 24 => some Try.f24
  | 25 => some Try.f25
  | 26 => some Try.f26
  | 27 => some Try.f27
  | 28 => some Try.f28
  | 29 => some Try.f29
  | 30 => some Try.f30
  | 31 => some Try.f31
  | 32 => some Try.f32
  | 33 => some Try.f33
  | 34 => some Try.f34
  | 35 => some Try.f35
  | 36 => some Try.f36
  | 37 => some Try.f37
  | 38 => some Try.f38
  | 39 => some Try.f39
  | 40 => some Try.f40
  | 41 => some Try.f41
  | 42 => some Try.f42
  | 43 => some Try.f43
  | 44 => some Try.f44
  | 45 => some Try.f45
  | 46 => some Try.f46
  | 47 => some Try.f47
  | 48 => some Try.f48
  | 49 => some Try.f49
  | 50 => some Try.f50
  | 51 => some Try.f51
  | 52 => some Try.f52
  | 53 => some Try.f53
  | _ => none

theorem known : Known Try.prog tab := by
  intro f fn h
  unfold tab at h
  split at h
  · cases h; exact ⟨Try.func3, Try.call3⟩
  · cases h; exact ⟨Try.func4, Try.call4⟩
  · cases h; exact ⟨Try.func5, Try.call5⟩
  · cases h; exact ⟨Try.func6, Try.call6⟩
  · cases h; exact ⟨Try.func7, Try.call7⟩
  · cases h; exact ⟨Try.func8, Try.call8⟩
  · cases h; exact ⟨Try.func9, Try.call9⟩
  · cases h; exact ⟨Try.func10, Try.call10⟩
  · cases h; exact ⟨Try.func11, Try.call11⟩
  · cases h; exact ⟨Try.func12, Try.call12⟩
  · cases h; exact ⟨Try.func13, Try.call13⟩
  · cases h; exact ⟨Try.func14, Try.call14⟩
  · cases h; exact ⟨Try.func15, Try.call15⟩
  · cases h; exact ⟨Try.func16, Try.call16⟩
  · cases h; exact ⟨Try.func17, Try.call17⟩
  · cases h; exact ⟨Try.func18, Try.call18⟩
  · cases h; exact ⟨Try.func19, Try.call19⟩
  · cases h; exact ⟨Try.func20, Try.call20⟩
  · cases h; exact ⟨Try.func21, Try.call21⟩
  · cases h; exact ⟨Try.func22, Try.call22⟩
  · cases h; exact ⟨Try.func23, Try.call23⟩
  · cases h; exact ⟨Try.func24, Try.call24⟩
  · cases h; exact ⟨Try.func25, Try.call25⟩
  · cases h; exact ⟨Try.func26, Try.call26⟩
  · cases h; exact ⟨Try.func27, Try.call27⟩
  · cases h; exact ⟨Try.func28, Try.call28⟩
  · cases h; exact ⟨Try.func29, Try.call29⟩
  · cases h; exact ⟨Try.func30, Try.call30⟩
  · cases h; exact ⟨Try.func31, Try.call31⟩
  · cases h; exact ⟨Try.func32, Try.call32⟩
  · cases h; exact ⟨Try.func33, Try.call33⟩
  · cases h; exact ⟨Try.func34, Try.call34⟩
  · cases h; exact ⟨Try.func35, Try.call35⟩
  · cases h; exact ⟨Try.func36, Try.call36⟩
  · cases h; exact ⟨Try.func37, Try.call37⟩
  · cases h; exact ⟨Try.func38, Try.call38⟩
  · cases h; exact ⟨Try.func39, Try.call39⟩
  · cases h; exact ⟨Try.func40, Try.call40⟩
  · cases h; exact ⟨Try.func41, Try.call41⟩
  · cases h; exact ⟨Try.func42, Try.call42⟩
  · cases h; exact ⟨Try.func43, Try.call43⟩
  · cases h; exact ⟨Try.func44, Try.call44⟩
  · cases h; exact ⟨Try.func45, Try.call45⟩
  · cases h; exact ⟨Try.func46, Try.call46⟩
  · cases h; exact ⟨Try.func47, Try.call47⟩
  · cases h; exact ⟨Try.func48, Try.call48⟩
  · cases h; exact ⟨Try.func49, Try.call49⟩
  · cases h; exact ⟨Try.func50, Try.call50⟩
  · cases h; exact ⟨Try.func51, Try.call51⟩
  · cases h; exact ⟨Try.func52, Try.call52⟩
  · cases h; exact ⟨Try.func53, Try.call53⟩
  · cases h

theorem mixed : Try.prog.follows .mixedOrders = true := by kernel_rfl

theorem noCalls : Good Try.prog fun _ _ _ => none := fun _ _ _ _ _ h => by cases h

/-- The functions whose results are made fast at once. -/
def pureF : FuncId → Bool := fun f => [10, 11, 12, 13, 16, 17, 18, 19, 33, 34, 35, 37, 38, 39, 40, 46, 47, 48, 49, 51, 52, 53].contains f

theorem noCalm : Calm pureF (fun _ _ _ => none) := fun _ _ _ => .inl fun _ => rfl

theorem go {m : Nat} {Q : Ex → List V → List Bx → Prop} (n : Nat) {c : Code} {ts : List V} {bs : List Bx} {e : Ex} {ts' : List V} {bs' : List Bx} (h : exec lay pureF tab (fun _ _ _ => none) n c ts bs = some (e, ts', bs')) (hQ : Q e ts' bs') : Ok Try.prog m c Q ts bs :=
  exec_at mixed layOk known noCalls noCalm n h hQ

theorem goOut {m : Nat} {Q : V → Prop} (n : Nat) {fn : Func} {c : Code} {ts : List V} {bs : List Bx} {r : V} (h : outR lay fn (exec lay pureF tab (fun _ _ _ => none) n c ts bs) = some r) (hQ : Q r) : Ok Try.prog m c (Ret lay fn Q) ts bs :=
  exec_out mixed layOk known noCalls noCalm n h hQ

end Go.Proofs.YtbkjiglbkckhmaaV
