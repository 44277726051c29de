/- Words for requests. -/
import Derived.Test.YtbkjiglbkckhmaaTab
namespace Go.Proofs.YtbkjiglbkckhmaaV
open Go Go.RowKit Go.Proofs.Ytbkjiglbkckhmaa
set_option maxRecDepth 20000
set_option maxHeartbeats 1000000

abbrev reqV (a0 a1 a2 a3 a4 a5 a6 a7 a8 a9 : Value) : V := .agg [.val a0, .val a1, .val a2, .val a3, .val a4, .val a5, .val a6, .val a7, .val a8, .val a9, .nils, .nils]
abbrev reqS (a0 a1 a2 a3 a4 a5 a6 a7 a8 a9 : Value) : List S := [.val a0, .val a1, .val a2, .val a3, .val a4, .val a5, .val a6, .val a7, .val a8, .val a9, .sl [], .sl []]
abbrev i64 (n : Int) : Value := .int .i64 n
def num (n : Int) : List S := [.val (.int .i64 n)]
abbrev emp : Value := .string ⟨#[]⟩
def qGroup (pid group : Int) : List S := reqS (i64 12) (i64 0) (i64 0) (i64 pid) (i64 group) (i64 0) (i64 0) (i64 0) emp emp
def qFront (pid : Int) : List S := reqS (i64 13) (i64 0) (i64 0) (i64 pid) (i64 0) (i64 0) (i64 0) (i64 0) emp emp
def qNull : List S := reqS (i64 3) (i64 0) (i64 0) (i64 0) (i64 0) (i64 0) (i64 0) (i64 65) (.string ⟨#[47, 100, 101, 118, 47, 110, 117, 108, 108]⟩) emp
def qSig (s n : Int) : List S := reqS (i64 14) (i64 0) (i64 0) (i64 0) (i64 0) (i64 s) (i64 n) (i64 0) emp emp

def IsReq (x : List S) : Prop := ∃ (b0 b1 b2 b3 b4 b5 b6 b7 : Int) (s8 s9 : ByteArray), x = [.val (i64 b0), .val (i64 b1), .val (i64 b2), .val (i64 b3), .val (i64 b4), .val (i64 b5), .val (i64 b6), .val (i64 b7), .val (.string s8), .val (.string s9), .sl [], .sl []]
def childS (g f n : Bool) (is rs : List Int) (group : Int) : List (List S) := (if g then [qGroup 0 group] else []) ++ (if f && group == 0 then [qFront 0] else []) ++ (if n then [qNull] else []) ++ is.map (fun s => qSig s 1) ++ rs.map fun s => qSig s 0
theorem isReq_group (p q : Int) : IsReq (qGroup p q) := ⟨_, _, _, _, _, _, _, _, _, _, rfl⟩
theorem isReq_front (p : Int) : IsReq (qFront p) := ⟨_, _, _, _, _, _, _, _, _, _, rfl⟩
theorem isReq_null : IsReq qNull := ⟨_, _, _, _, _, _, _, _, _, _, rfl⟩
theorem isReq_sig (p q : Int) : IsReq (qSig p q) := ⟨_, _, _, _, _, _, _, _, _, _, rfl⟩
def parS (g f : Bool) (group pid : Int) : List (List S) := (if g then [qGroup pid (if group == 0 then pid else group)] else []) ++ (if f && group == 0 then [qFront pid] else [])

end Go.Proofs.YtbkjiglbkckhmaaV
