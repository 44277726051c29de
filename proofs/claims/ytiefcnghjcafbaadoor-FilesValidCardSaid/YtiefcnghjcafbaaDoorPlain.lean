/- Paths in plain terms: parts, parents, and what cleaning makes of them. -/
import Derived.Test.YtiefcnghjcafbaaDoorSplit
namespace Go.Proofs.YtiefcnghjcafbaaDoorV
open Go Go.RowKit Go.Proofs.YtiefcnghjcafbaaDoor
set_option maxRecDepth 20000

theorem splitB_ne : ∀ s, splitB s ≠ []
  | [] => by simp [splitB]
  | c :: r => by
    unfold splitB
    split
    · simp
    · split <;> simp
theorem splitB_app : ∀ {p r : List UInt8}, 47 ∉ p → splitB (p ++ 47 :: r) = p :: splitB r
  | [], r, _ => by simp [splitB]
  | c :: p, r, h => by
    have hc : ¬ c = 47 := fun e => h (by simp [e])
    have ih := splitB_app (p := p) (r := r) fun e => h (List.mem_cons_of_mem _ e)
    rw [List.cons_append, splitB, if_neg hc, ih]
theorem splitB_one : ∀ {p : List UInt8}, 47 ∉ p → splitB p = [p]
  | [], _ => rfl
  | c :: p, h => by
    have hc : ¬ c = 47 := fun e => h (by simp [e])
    have ih := splitB_one (p := p) fun e => h (List.mem_cons_of_mem _ e)
    rw [splitB, if_neg hc, ih]
theorem splitB_len : ∀ s, (splitB s).length ≤ s.length + 1
  | [] => by simp [splitB]
  | c :: r => by
    have := splitB_len r
    unfold splitB
    split
    · simp; omega
    · split
      · rename_i h; rw [h] at this; simp at this ⊢; omega
      · simp
theorem splitB_mem : ∀ {s p : List UInt8}, p ∈ splitB s → p.length ≤ s.length
  | [], p, h => by simp [splitB] at h; simp [h]
  | c :: r, p, h => by
    unfold splitB at h
    split at h
    · rcases List.mem_cons.1 h with rfl | h
      · simp
      · have := splitB_mem h; simp; omega
    · split at h
      · rename_i q l e
        rcases List.mem_cons.1 h with rfl | h
        · have := splitB_mem (s := r) (p := q) (by rw [e]; simp)
          simp; omega
        · have := splitB_mem (s := r) (p := p) (by rw [e]; exact List.mem_cons_of_mem _ h)
          simp; omega
      · rename_i e; exact absurd e (splitB_ne r)

/-- The parts, each behind a slash. -/
def tailB : List (List UInt8) → List UInt8
  | [] => []
  | c :: r => 47 :: (c ++ tailB r)
theorem tailB_app : ∀ a b, tailB (a ++ b) = tailB a ++ tailB b
  | [], b => rfl
  | c :: a, b => by simp [tailB, tailB_app a b]
theorem tail_split : ∀ t, tailB (splitB t) = 47 :: t
  | [] => rfl
  | c :: r => by
    have ih := tail_split r
    unfold splitB
    split
    · rename_i h; subst h; simp [tailB, ih]
    · split
      · rename_i e; rw [e] at ih; simp [tailB] at ih ⊢; exact ih
      · rename_i e; exact absurd e (splitB_ne r)
theorem split_tail : ∀ {cs : List (List UInt8)} {c : List UInt8}, 47 ∉ c → (∀ d ∈ cs, (47 : UInt8) ∉ d) → splitB (c ++ tailB cs) = c :: cs
  | [], c, hc, _ => by simp [tailB, splitB_one hc]
  | d :: cs, c, hc, h => by
    rw [tailB, splitB_app hc, split_tail (h d (by simp)) fun x hx => h x (List.mem_cons_of_mem _ hx)]

def nameB (c : List UInt8) : Bool := decide (1 ≤ c.length) && decide (c.length ≤ 32) && !c.any bad && !decide (c = [46]) && !decide (c = [46, 46])
theorem name_is {c : List UInt8} (h : nameB c = true) : c ≠ [] ∧ c.length ≤ 32 ∧ 47 ∉ c ∧ c ≠ [46] ∧ c ≠ [46, 46] := by
  simp only [nameB, Bool.and_eq_true, decide_eq_true_eq, Bool.not_eq_true', decide_eq_false_iff_not] at h
  obtain ⟨⟨⟨⟨h1, h2⟩, h3⟩, h4⟩, h5⟩ := h
  refine ⟨fun e => by subst e; simp at h1, h2, fun e => ?_, h4, h5⟩
  have := List.any_eq_false.1 h3 47 e
  simp [bad] at this
def lastSlash : List UInt8 → Option Nat
  | [] => none
  | c :: r => match lastSlash r with
    | some i => some (i + 1)
    | none => if c = 47 then some 0 else none
theorem last_app : ∀ (l : List UInt8) (c : UInt8), lastSlash (l ++ [c]) = if c = 47 then some l.length else lastSlash l
  | [], c => by simp [lastSlash]
  | d :: l, c => by
    rw [List.cons_append, lastSlash, last_app l c]
    by_cases h : c = 47
    · simp [h]
    · simp [h, lastSlash]
theorem last_take {s : List UInt8} {k : Nat} {c : UInt8} (h : s[k]? = some c) : lastSlash (s.take (k + 1)) = if c = 47 then some k else lastSlash (s.take k) := by
  have hlt : k < s.length := (List.getElem?_eq_some_iff.1 h).1
  rw [List.take_add_one, h, Option.toList_some, last_app, List.length_take, Nat.min_eq_left (by omega)]
theorem last_none : ∀ {c : List UInt8}, 47 ∉ c → lastSlash c = none
  | [], _ => rfl
  | d :: c, h => by
    have hd : ¬ d = 47 := fun e => h (by simp [e])
    rw [lastSlash, last_none fun e => h (List.mem_cons_of_mem _ e), if_neg hd]
theorem last_mid : ∀ (x c : List UInt8), 47 ∉ c → lastSlash (x ++ 47 :: c) = some x.length
  | [], c, h => by simp [lastSlash, last_none h]
  | d :: x, c, h => by rw [List.cons_append, lastSlash, last_mid x c h]; rfl
theorem last_lt : ∀ {s : List UInt8} {i : Nat}, lastSlash s = some i → s[i]? = some 47
  | c :: r, i, h => by
    unfold lastSlash at h
    split at h
    · rename_i j e
      cases h
      simpa using last_lt e
    · split at h
      · rename_i hc; cases h; simp [hc]
      · cases h
/-- A path's parent. -/
def parentB (s : List UInt8) : List UInt8 := match lastSlash s with
  | some (i + 1) => s.take (i + 1)
  | _ => [47]
def pathB (s : List UInt8) : Bool := decide (s = [47]) || (decide (s.length ≤ 128) && decide (s.head? = some 47) && (splitB s.tail).all nameB)
/-- The path of these parts. -/
def render : List (List UInt8) → List UInt8
  | [] => [47]
  | c :: r => tailB (c :: r)
theorem render_snoc (cs : List (List UInt8)) (c : List UInt8) : render (cs ++ [c]) = tailB cs ++ 47 :: c := by
  cases cs with
  | nil => simp [render, tailB]
  | cons d cs => simp [render, tailB, tailB_app]
abbrev Names (cs : List (List UInt8)) : Prop := ∀ c ∈ cs, nameB c = true
theorem Names.slash {cs : List (List UInt8)} (h : Names cs) : ∀ c ∈ cs, (47 : UInt8) ∉ c := fun c hc => (name_is (h c hc)).2.2.1
theorem path_render {s : List UInt8} (h : pathB s = true) : ∃ cs, Names cs ∧ s = render cs := by
  simp only [pathB, Bool.or_eq_true, Bool.and_eq_true, decide_eq_true_eq, List.all_eq_true] at h
  rcases h with rfl | ⟨⟨_, h2⟩, h3⟩
  · exact ⟨[], fun _ h => (by cases h), rfl⟩
  · cases s with
    | nil => cases h2
    | cons c t =>
      simp only [List.head?_cons, Option.some.injEq] at h2
      subst h2
      refine ⟨splitB t, h3, ?_⟩
      have := tail_split t
      cases e : splitB t with
      | nil => exact absurd e (splitB_ne t)
      | cons p q => rw [e] at this; exact this.symm
theorem split_render {cs : List (List UInt8)} (h : Names cs) : splitB (render cs) = if cs = [] then [[], []] else [] :: cs := by
  cases cs with
  | nil => rfl
  | cons c r =>
    have := split_tail (h.slash c (by simp)) fun d hd => h.slash d (List.mem_cons_of_mem _ hd)
    simp [render, tailB, splitB, this]
theorem render_path {cs : List (List UInt8)} (h : Names cs) (hl : (render cs).length ≤ 128) : pathB (render cs) = true := by
  cases cs with
  | nil => rfl
  | cons c r =>
    have h2 := split_tail (h.slash c (by simp)) fun d hd => h.slash d (List.mem_cons_of_mem _ hd)
    simp only [pathB, Bool.or_eq_true, Bool.and_eq_true, decide_eq_true_eq, List.all_eq_true]
    refine .inr ⟨⟨hl, by simp [render, tailB]⟩, ?_⟩
    simp only [render, tailB, List.tail_cons, h2]
    exact h
theorem parent_nil : parentB (render []) = render [] := rfl
theorem parent_snoc {cs : List (List UInt8)} {c : List UInt8} (h : 47 ∉ c) : parentB (render (cs ++ [c])) = render cs := by
  rw [render_snoc, parentB, last_mid _ _ h]
  cases cs with
  | nil => rfl
  | cons d cs =>
    show (tailB (d :: cs) ++ 47 :: c).take (tailB (d :: cs)).length = tailB (d :: cs)
    exact List.take_left
theorem parent_render {cs : List (List UInt8)} (h : Names cs) : parentB (render cs) = render cs.dropLast := by
  rcases List.eq_nil_or_concat cs with rfl | ⟨a, b, rfl⟩
  · rfl
  · rw [List.concat_eq_append] at h ⊢
    rw [parent_snoc (h.slash b (by simp)), List.dropLast_concat]
def trimP (s : List UInt8) : List UInt8 := if s.getLast? = some 47 then s.dropLast else s
def trimR (s : List UInt8) : List UInt8 := if s = [47] then [] else s
theorem last_tail {c : List UInt8} (h : nameB c = true) (x : List UInt8) : (x ++ 47 :: c).getLast? ≠ some 47 := by
  obtain ⟨h1, _, h3, _⟩ := name_is h
  rcases List.eq_nil_or_concat c with rfl | ⟨a, b, rfl⟩
  · exact absurd rfl h1
  · rw [List.concat_eq_append] at h3 ⊢
    rw [← List.cons_append, ← List.append_assoc, List.getLast?_concat]
    intro e
    cases e
    exact h3 (by simp)
theorem trimP_render {cs : List (List UInt8)} (h : Names cs) : trimP (render cs) = tailB cs := by
  rcases List.eq_nil_or_concat cs with rfl | ⟨a, b, rfl⟩
  · rfl
  · rw [List.concat_eq_append] at h ⊢
    have := last_tail (h b (by simp)) (tailB a)
    rw [render_snoc, trimP, if_neg this, tailB_app]
    simp [tailB]
theorem trimR_render {cs : List (List UInt8)} (h : Names cs) : trimR (render cs) = tailB cs := by
  rcases List.eq_nil_or_concat cs with rfl | ⟨a, b, rfl⟩
  · rfl
  · rw [List.concat_eq_append] at h ⊢
    have h1 := (name_is (h b (by simp))).1
    rw [render_snoc, trimR, if_neg, tailB_app]
    · simp [tailB]
    · intro e
      have := congrArg List.length e
      simp at this
      exact h1 (List.eq_nil_of_length_eq_zero (by omega))
/-- What one part does to a path. -/
def stepB (tr : List UInt8 → List UInt8) (at0 c : List UInt8) : Option (List UInt8) :=
  if c = [] ∨ c = [46] then some at0
  else if c = [46, 46] then some (parentB at0)
  else if nameB c then some (tr at0 ++ 47 :: c) else none
def runB (tr : List UInt8 → List UInt8) : List (List UInt8) → List UInt8 → Option (List UInt8)
  | [], a => some a
  | c :: r, a => match stepB tr a c with
    | some b => runB tr r b
    | none => none
def runC : List (List UInt8) → List (List UInt8) → Option (List (List UInt8))
  | [], cs => some cs
  | p :: ps, cs => if p = [] ∨ p = [46] then runC ps cs else if p = [46, 46] then runC ps cs.dropLast else if nameB p then runC ps (cs ++ [p]) else none
theorem Names.drop {cs : List (List UInt8)} (h : Names cs) : Names cs.dropLast := fun c hc => h c (List.dropLast_subset _ hc)
theorem Names.snoc {cs : List (List UInt8)} {c : List UInt8} (h : Names cs) (hc : nameB c = true) : Names (cs ++ [c]) := fun d hd => by
  rcases List.mem_append.1 hd with hd | hd
  · exact h d hd
  · rw [List.mem_singleton.1 hd]; exact hc
theorem run_eq {tr : List UInt8 → List UInt8} (htr : ∀ cs, Names cs → tr (render cs) = tailB cs) : ∀ (ps cs : List (List UInt8)), Names cs → runB tr ps (render cs) = (runC ps cs).map render
  | [], cs, _ => rfl
  | p :: ps, cs, h => by
    rw [runB, runC, stepB]
    by_cases h1 : p = [] ∨ p = [46]
    · simp only [if_pos h1]; exact run_eq htr ps cs h
    · simp only [if_neg h1]
      by_cases h2 : p = [46, 46]
      · simp only [if_pos h2, parent_render h]; exact run_eq htr ps _ h.drop
      · simp only [if_neg h2]
        by_cases h3 : nameB p = true
        · simp only [if_pos h3, htr cs h, ← render_snoc]; exact run_eq htr ps _ (h.snoc h3)
        · simp only [if_neg h3]; rfl
theorem runC_names : ∀ {ps cs ds : List (List UInt8)}, Names cs → runC ps cs = some ds → Names ds
  | [], cs, ds, h, e => by cases e; exact h
  | p :: ps, cs, ds, h, e => by
    rw [runC] at e
    split at e
    · exact runC_names h e
    split at e
    · exact runC_names h.drop e
    split at e
    · rename_i h3; exact runC_names (h.snoc h3) e
    · cases e
theorem runC_id : ∀ (ps cs : List (List UInt8)), Names ps → runC ps cs = some (cs ++ ps)
  | [], cs, _ => by simp [runC]
  | p :: ps, cs, h => by
    obtain ⟨h1, _, _, h4, h5⟩ := name_is (h p (by simp))
    rw [runC, if_neg (by simp [h1, h4]), if_neg h5, if_pos (h p (by simp)), runC_id ps _ fun c hc => h c (List.mem_cons_of_mem _ hc)]
    simp
def cleanB (tr : List UInt8 → List UInt8) (cwd path : List UInt8) : List UInt8 × Int :=
  if pathB cwd then
    if path = [] then ([], 8)
    else match runB tr (splitB path) (if path.head? = some 47 then [47] else cwd) with
      | none => ([], 10)
      | some a => if a.length ≤ 128 then (a, 0) else ([], 3)
  else ([], 10)
theorem start_render {cwd path : List UInt8} (h : pathB cwd = true) : ∃ cs, Names cs ∧ (if path.head? = some 47 then [47] else cwd) = render cs := by
  split
  · exact ⟨[], fun _ h => (by cases h), rfl⟩
  · exact path_render h
theorem clean_same (cwd path : List UInt8) : cleanB trimP cwd path = cleanB trimR cwd path := by
  unfold cleanB
  by_cases h : pathB cwd = true
  · obtain ⟨cs, h1, h2⟩ := start_render (path := path) h
    rw [h2, run_eq (fun _ => trimP_render) _ _ h1, run_eq (fun _ => trimR_render) _ _ h1]
  · simp only [if_neg h]
theorem clean_closed {cwd path other s : List UInt8} (h : cleanB trimP cwd path = (s, 0)) (ho : pathB other = true) : cleanB trimP other s = (s, 0) ∧ pathB s = true := by
  unfold cleanB at h
  by_cases hp : pathB cwd = true
  · obtain ⟨cs, h1, h2⟩ := start_render (path := path) hp
    rw [if_pos hp, h2, run_eq (fun _ => trimP_render) _ _ h1] at h
    split at h
    · cases h
    cases hr : runC (splitB path) cs with
    | none => rw [hr] at h; cases h
    | some ds =>
      rw [hr] at h
      have hd := runC_names h1 hr
      simp only [Option.map_some] at h
      split at h
      · rename_i hl
        cases h
        refine ⟨?_, render_path hd hl⟩
        have hne : render ds ≠ [] := by cases ds <;> simp [render, tailB]
        have hh : (render ds).head? = some 47 := by cases ds <;> rfl
        unfold cleanB
        rw [if_pos ho, if_neg hne, if_pos hh]
        have := run_eq (fun _ => trimP_render) (splitB (render ds)) [] (fun _ h => (by cases h))
        rw [show render [] = [47] from rfl] at this
        rw [this, split_render hd]
        have h3 : runC (if ds = [] then [[], []] else [] :: ds) [] = some ds := by
          split
          · rename_i e; subst e; rfl
          · rw [runC, if_pos (.inl rfl), runC_id ds [] hd]; rfl
        rw [h3]
        simp only [Option.map_some, if_pos hl]
      · cases h
  · rw [if_neg hp] at h
    cases h
theorem clean_err {cwd path s : List UInt8} {e : Int} (h : cleanB trimP cwd path = (s, e)) (he : e ≠ 0) : s = [] := by
  unfold cleanB at h
  split at h
  · split at h
    · cases h; rfl
    · split at h
      · cases h; rfl
      · split at h
        · cases h; exact absurd rfl he
        · cases h; rfl
  · cases h; rfl

end Go.Proofs.YtiefcnghjcafbaaDoorV
