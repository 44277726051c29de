/- The table of this claim's functions, for the calculus of values. -/
import Derived.Test.YtiefcnghjcafbaaDoorV23
import Derived.Test.YtiefcnghjcafbaaDoorLay
import Derived.Test.YtiefcnghjcafbaaDoorRows
namespace Go.Proofs.YtiefcnghjcafbaaDoorV
open Go Go.RowKit Go.Proofs.YtiefcnghjcafbaaDoor

noncomputable def tab : FuncId → Option Func := fun f => match f with
  | 3 => some Tryd.f3
  | 4 => some Tryd.f4
  | 5 => some Tryd.f5
  | 6 => some Tryd.f6
  | 7 => some Tryd.f7
  | 8 => some Tryd.f8
  | 9 => some Tryd.f9
  | 10 => some Tryd.f10
  | 11 => some Tryd.f11
  | 12 => some Tryd.f12
  | 13 => some Tryd.f13
  | 14 => some Tryd.f14
  | 15 => some Tryd.f15
  | 16 => some Tryd.f16
  | 17 => some Tryd.f17
  | 18 => some Tryd.f18
  | 19 => some Tryd.f19
  | 20 => some Tryd.f20
  | 21 => some Tryd.f21
  | 22 => some Tryd.f22
  | 23 => some Tryd.f23
  | 24 => some Tryd.f24
  | 25 => some Tryd.f25
  | 26 => some Tryd.f26
  | 27 => some Tryd.f27
  | 28 => some Tryd.f28
  | 29 => some Tryd.f29
  | 30 => some Tryd.f30
  | 31 => some Tryd.f31
  | 32 => some Tryd.f32
  | 33 => some Tryd.f33
  | 34 => some Tryd.f34
  | 35 => some Tryd.f35
  | 36 => some Tryd.f36
  | 37 => some Tryd.f37
  | 38 => some Tryd.f38
  | 39 => some Tryd.f39
  | 40 => some Tryd.f40
  | 41 => some Tryd.f41
  | 42 => some Tryd.f42
  | 43 => some Tryd.f43
  | 44 => some Tryd.f44
  | 45 => some Tryd.f45
  | 46 => some Tryd.f46
  | 47 => some Tryd.f47
  | 48 => some Tryd.f48
  | 49 => some Tryd.f49
  | 50 => some Tryd.f50
  | 51 => some Tryd.f51
  | 52 => some Tryd.f52
  | 53 => some Tryd.f53
  | 54 => some Tryd.f54
  | 55 => some Tryd.f55
  | 56 => some Tryd.f56
  | 57 => some Tryd.f57
  | 58 => some Tryd.f58
  | 59 => some Tryd.f59
  | 60 => some Tryd.f60
  | 61 => some Tryd.f61
  | 62 => some Tryd.f62
  | 63 => some Tryd.f63
  | 64 => some Tryd.f64
  | 65 => some Tryd.f65
  | 66 => some Tryd.f66
  | 67 => some Tryd.f67
  | 68 => some Tryd.f68
  | 69 => some Tryd.f69
  | 70 => some Tryd.f70
  | 71 => some Tryd.f71
  | 72 => some Tryd.f72
  | 73 => some Tryd.f73
  | 74 => some Tryd.f74
  | 75 => some Tryd.f75
  | 76 => some Tryd.f76
  | 77 => some Tryd.f77
  | 78 => some Tryd.f78
  | 80 => some Tryd.f80
  | 81 => some Tryd.f81
  | 82 => some Tryd.f82
  | 83 => some Tryd.f83
  | 84 => some Tryd.f84
  | 85 => some Tryd.f85
  | 86 => some Tryd.f86
  | 87 => some Tryd.f87
  | 88 => some Tryd.f88
  | 89 => some Tryd.f89
  | 90 => some Tryd.f90
  | 91 => some Tryd.f91
  | 92 => some Tryd.f92
  | 93 => some Tryd.f93
  | 95 => some Tryd.f95
  | 96 => some Tryd.f96
  | 97 => some Tryd.f97
  | 98 => some Tryd.f98
  | 99 => some Tryd.f99
  | 100 => some Tryd.f100
  | 101 => some Tryd.f101
  | 102 => some Tryd.f102
  | 103 => some Tryd.f103
  | 104 => some Tryd.f104
  | 105 => some Tryd.f105
  | 106 => some Tryd.f106
  | 107 => some Tryd.f107
  | 108 => some Tryd.f108
  | 110 => some Tryd.f110
  | 111 => some Tryd.f111
  | 112 => some Tryd.f112
  | 113 => some Tryd.f113
  | 114 => some Tryd.f114
  | 115 => some Tryd.f115
  | 117 => some Tryd.f117
  | _ => none

theorem known : Known Tryd.prog tab := by
  intro f fn h
  unfold tab at h
  split at h
  · cases h; exact ⟨Tryd.func3, Tryd.call3⟩
  · cases h; exact ⟨Tryd.func4, Tryd.call4⟩
  · cases h; exact ⟨Tryd.func5, Tryd.call5⟩
  · cases h; exact ⟨Tryd.func6, Tryd.call6⟩
  · cases h; exact ⟨Tryd.func7, Tryd.call7⟩
  · cases h; exact ⟨Tryd.func8, Tryd.call8⟩
  · cases h; exact ⟨Tryd.func9, Tryd.call9⟩
  · cases h; exact ⟨Tryd.func10, Tryd.call10⟩
  · cases h; exact ⟨Tryd.func11, Tryd.call11⟩
  · cases h; exact ⟨Tryd.func12, Tryd.call12⟩
  · cases h; exact ⟨Tryd.func13, Tryd.call13⟩
  · cases h; exact ⟨Tryd.func14, Tryd.call14⟩
  · cases h; exact ⟨Tryd.func15, Tryd.call15⟩
  · cases h; exact ⟨Tryd.func16, Tryd.call16⟩
  · cases h; exact ⟨Tryd.func17, Tryd.call17⟩
  · cases h; exact ⟨Tryd.func18, Tryd.call18⟩
  · cases h; exact ⟨Tryd.func19, Tryd.call19⟩
  · cases h; exact ⟨Tryd.func20, Tryd.call20⟩
  · cases h; exact ⟨Tryd.func21, Tryd.call21⟩
  · cases h; exact ⟨Tryd.func22, Tryd.call22⟩
  · cases h; exact ⟨Tryd.func23, Tryd.call23⟩
  · cases h; exact ⟨Tryd.func24, Tryd.call24⟩
  · cases h; exact ⟨Tryd.func25, Tryd.call25⟩
  · cases h; exact ⟨Tryd.func26, Tryd.call26⟩
  · cases h; exact ⟨Tryd.func27, Tryd.call27⟩
  · cases h; exact ⟨Tryd.func28, Tryd.call28⟩
  · cases h; exact ⟨Tryd.func29, Tryd.call29⟩
  · cases h; exact ⟨Tryd.func30, Tryd.call30⟩
  · cases h; exact ⟨Tryd.func31, Tryd.call31⟩
  · cases h; exact ⟨Tryd.func32, Tryd.call32⟩
  · cases h; exact ⟨Tryd.func33, Tryd.call33⟩
  · cases h; exact ⟨Tryd.func34, Tryd.call34⟩
  · cases h; exact ⟨Tryd.func35, Tryd.call35⟩
  · cases h; exact ⟨Tryd.func36, Tryd.call36⟩
  · cases h; exact ⟨Tryd.func37, Tryd.call37⟩
  · cases h; exact ⟨Tryd.func38, Tryd.call38⟩
  · cases h; exact ⟨Tryd.func39, Tryd.call39⟩
  · cases h; exact ⟨Tryd.func40, Tryd.call40⟩
  · cases h; exact ⟨Tryd.func41, Tryd.call41⟩
  · cases h; exact ⟨Tryd.func42, Tryd.call42⟩
  · cases h; exact ⟨Tryd.func43, Tryd.call43⟩
  · cases h; exact ⟨Tryd.func44, Tryd.call44⟩
  · cases h; exact ⟨Tryd.func45, Tryd.call45⟩
  · cases h; exact ⟨Tryd.func46, Tryd.call46⟩
  · cases h; exact ⟨Tryd.func47, Tryd.call47⟩
  · cases h; exact ⟨Tryd.func48, Tryd.call48⟩
  · cases h; exact ⟨Tryd.func49, Tryd.call49⟩
  · cases h; exact ⟨Tryd.func50, Tryd.call50⟩
  · cases h; exact ⟨Tryd.func51, Tryd.call51⟩
  · cases h; exact ⟨Tryd.func52, Tryd.call52⟩
  · cases h; exact ⟨Tryd.func53, Tryd.call53⟩
  · cases h; exact ⟨Tryd.func54, Tryd.call54⟩
  · cases h; exact ⟨Tryd.func55, Tryd.call55⟩
  · cases h; exact ⟨Tryd.func56, Tryd.call56⟩
  · cases h; exact ⟨Tryd.func57, Tryd.call57⟩
  · cases h; exact ⟨Tryd.func58, Tryd.call58⟩
  · cases h; exact ⟨Tryd.func59, Tryd.call59⟩
  · cases h; exact ⟨Tryd.func60, Tryd.call60⟩
  · cases h; exact ⟨Tryd.func61, Tryd.call61⟩
  · cases h; exact ⟨Tryd.func62, Tryd.call62⟩
  · cases h; exact ⟨Tryd.func63, Tryd.call63⟩
  · cases h; exact ⟨Tryd.func64, Tryd.call64⟩
  · cases h; exact ⟨Tryd.func65, Tryd.call65⟩
  · cases h; exact ⟨Tryd.func66, Tryd.call66⟩
  · cases h; exact ⟨Tryd.func67, Tryd.call67⟩
  · cases h; exact ⟨Tryd.func68, Tryd.call68⟩
  · cases h; exact ⟨Tryd.func69, Tryd.call69⟩
  · cases h; exact ⟨Tryd.func70, Tryd.call70⟩
  · cases h; exact ⟨Tryd.func71, Tryd.call71⟩
  · cases h; exact ⟨Tryd.func72, Tryd.call72⟩
  · cases h; exact ⟨Tryd.func73, Tryd.call73⟩
  · cases h; exact ⟨Tryd.func74, Tryd.call74⟩
  · cases h; exact ⟨Tryd.func75, Tryd.call75⟩
  · cases h; exact ⟨Tryd.func76, Tryd.call76⟩
  · cases h; exact ⟨Tryd.func77, Tryd.call77⟩
  · cases h; exact ⟨Tryd.func78, Tryd.call78⟩
  · cases h; exact ⟨Tryd.func80, Tryd.call80⟩
  · cases h; exact ⟨Tryd.func81, Tryd.call81⟩
  · cases h; exact ⟨Tryd.func82, Tryd.call82⟩
  · cases h; exact ⟨Tryd.func83, Tryd.call83⟩
  · cases h; exact ⟨Tryd.func84, Tryd.call84⟩
  · cases h; exact ⟨Tryd.func85, Tryd.call85⟩
  · cases h; exact ⟨Tryd.func86, Tryd.call86⟩
  · cases h; exact ⟨Tryd.func87, Tryd.call87⟩
  · cases h; exact ⟨Tryd.func88, Tryd.call88⟩
  · cases h; exact ⟨Tryd.func89, Tryd.call89⟩
  · cases h; exact ⟨Tryd.func90, Tryd.call90⟩
  · cases h; exact ⟨Tryd.func91, Tryd.call91⟩
  · cases h; exact ⟨Tryd.func92, Tryd.call92⟩
  · cases h; exact ⟨Tryd.func93, Tryd.call93⟩
  · cases h; exact ⟨Tryd.func95, Tryd.call95⟩
  · cases h; exact ⟨Tryd.func96, Tryd.call96⟩
  · cases h; exact ⟨Tryd.func97, Tryd.call97⟩
  · cases h; exact ⟨Tryd.func98, Tryd.call98⟩
  · cases h; exact ⟨Tryd.func99, Tryd.call99⟩
  · cases h; exact ⟨Tryd.func100, Tryd.call100⟩
  · cases h; exact ⟨Tryd.func101, Tryd.call101⟩
  · cases h; exact ⟨Tryd.func102, Tryd.call102⟩
  · cases h; exact ⟨Tryd.func103, Tryd.call103⟩
  · cases h; exact ⟨Tryd.func104, Tryd.call104⟩
  · cases h; exact ⟨Tryd.func105, Tryd.call105⟩
  · cases h; exact ⟨Tryd.func106, Tryd.call106⟩
  · cases h; exact ⟨Tryd.func107, Tryd.call107⟩
  · cases h; exact ⟨Tryd.func108, Tryd.call108⟩
  · cases h; exact ⟨Tryd.func110, Tryd.call110⟩
  · cases h; exact ⟨Tryd.func111, Tryd.call111⟩
  · cases h; exact ⟨Tryd.func112, Tryd.call112⟩
  · cases h; exact ⟨Tryd.func113, Tryd.call113⟩
  · cases h; exact ⟨Tryd.func114, Tryd.call114⟩
  · cases h; exact ⟨Tryd.func115, Tryd.call115⟩
  · cases h; exact ⟨Tryd.func117, Tryd.call117⟩
  · cases h

def extT : FuncId → Option Ext2 := fun f => match f with
  | 94 => some .cnt
  | 116 => some .idx
  | _ => none

theorem extOk : Good Tryd.prog (extC extT) := by
  refine extC_good fun f k h => ?_
  unfold extT at h
  split at h
  · cases h; exact fun args w => run_callFunc_extern Tryd.func94 (by kernel_rfl) (by kernel_rfl) (by kernel_rfl) (e := Extern.BytealgCount.count) (by kernel_rfl) args w
  · cases h; exact fun args w => run_callFunc_extern Tryd.func116 (by kernel_rfl) (by kernel_rfl) (by kernel_rfl) (e := Extern.BytealgIndexByte.indexByte) (by kernel_rfl) args w
  · cases h

theorem mixed : Tryd.prog.follows .mixedOrders = true := by kernel_rfl

theorem noCalls : Good Tryd.prog fun _ _ _ => none := fun _ _ _ _ _ h => by cases h

/-- The functions whose results are made fast at once. -/
def pureF : FuncId → Bool := fun f => [8, 9, 10, 11, 12, 13, 14, 15, 16, 17, 18, 19, 20, 21, 22, 23, 24, 25, 26, 27, 28, 29, 30, 31, 32, 33, 34, 35, 36, 37, 38, 39, 40, 41, 42, 43, 45, 46, 47, 48, 49, 51, 52, 54, 57, 58, 59, 60, 61, 62, 63, 67, 70, 72, 73, 74, 75, 76, 77, 78, 87, 90, 91, 92, 93, 95, 96, 97, 98, 106, 107, 108, 111, 112, 113, 117].contains f

/-- The functions that hand over a new array. -/
def growF : FuncId → Bool := fun f => [44].contains f

theorem go {m : Nat} {Q : Ex → List V → List Bx → Prop} (n : Nat) {c : Code} {ts : List V} {bs : List Bx} {e : Ex} {ts' : List V} {bs' : List Bx} (h : exec lay pureF growF tab (extC extT) n c ts bs = some (e, ts', bs')) (hQ : Q e ts' bs') : Ok Tryd.prog m c Q ts bs :=
  exec_at mixed layOk known extOk extC_calm extC_grows n h hQ

theorem goOut {m : Nat} {Q : V → Prop} (n : Nat) {fn : Func} {c : Code} {ts : List V} {bs : List Bx} {r : V} (h : outR lay fn (exec lay pureF growF tab (extC extT) n c ts bs) = some r) (hQ : Q r) : Ok Tryd.prog m c (Ret lay fn Q) ts bs :=
  exec_out mixed layOk known extOk extC_calm extC_grows n h hQ

end Go.Proofs.YtiefcnghjcafbaaDoorV
