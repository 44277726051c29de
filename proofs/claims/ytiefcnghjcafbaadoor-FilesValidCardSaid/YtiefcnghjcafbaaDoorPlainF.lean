/- Lists of files in plain terms: what is valid. -/
import Derived.Test.YtiefcnghjcafbaaDoorPlain
namespace Go.Proofs.YtiefcnghjcafbaaDoorV
open Go Go.RowKit Go.Proofs.YtiefcnghjcafbaaDoor
set_option maxRecDepth 20000

structure Fl where
  path : List UInt8
  dir : Bool
  data : List UInt8
deriving DecidableEq

/-- The order of bytes. -/
def ltB : List UInt8 → List UInt8 → Bool
  | _, [] => false
  | [], _ :: _ => true
  | a :: x, b :: y => decide (a < b) || (a == b && ltB x y)
def leB (a b : List UInt8) : Bool := ltB a b || a == b
theorem ltB_irrefl : ∀ a, ltB a a = false
  | [] => rfl
  | a :: x => by simp [ltB, ltB_irrefl x, UInt8.lt_irrefl]
theorem ltB_trans : ∀ {a b c}, ltB a b = true → ltB b c = true → ltB a c = true
  | [], b :: y, [], _, h => by simp [ltB] at h
  | [], b :: y, c :: z, _, _ => rfl
  | a :: x, [], c, h, _ => by simp [ltB] at h
  | [], [], c, h, _ => by simp [ltB] at h
  | a :: x, b :: y, [], _, h => by simp [ltB] at h
  | a :: x, b :: y, c :: z, h, k => by
    simp only [ltB, Bool.or_eq_true, Bool.and_eq_true, decide_eq_true_eq, beq_iff_eq] at h k ⊢
    rcases h with h | ⟨rfl, h⟩
    · rcases k with k | ⟨rfl, k⟩
      · exact .inl (UInt8.lt_trans h k)
      · exact .inl h
    · rcases k with k | ⟨rfl, k⟩
      · exact .inl k
      · exact .inr ⟨rfl, ltB_trans h k⟩
theorem ltB_tri : ∀ {a b}, leB a b = false → ltB b a = true
  | [], [], h => by simp [leB] at h
  | [], b :: y, h => by simp [leB, ltB] at h
  | a :: x, [], h => rfl
  | a :: x, b :: y, h => by
    simp only [leB, ltB, Bool.or_eq_false_iff, Bool.and_eq_false_iff, decide_eq_false_iff_not, beq_eq_false_iff_ne, ne_eq, List.cons.injEq, not_and] at h
    obtain ⟨⟨h1, h2⟩, h3⟩ := h
    simp only [ltB, Bool.or_eq_true, Bool.and_eq_true, decide_eq_true_eq, beq_iff_eq]
    by_cases e : a = b
    · subst e
      refine .inr ⟨rfl, ltB_tri ?_⟩
      simp only [leB, Bool.or_eq_false_iff, beq_eq_false_iff_ne, ne_eq]
      exact ⟨(h2.resolve_left (fun h => h rfl)), h3 rfl⟩
    · refine .inl ?_
      have : ¬ a.toNat = b.toNat := fun h => e (UInt8.toNat_inj.1 h)
      rw [UInt8.lt_iff_toNat_lt] at h1 ⊢
      omega
theorem ltB_ne {a b : List UInt8} (h : ltB a b = true) : a ≠ b := fun e => by
  subst e
  rw [ltB_irrefl] at h
  cases h

def idxF (l : List Fl) (p : List UInt8) : Int := match l.findIdx? fun f => decide (f.path = p) with
  | some i => (i : Int)
  | none => -1
def hasF (l : List Fl) (p : List UInt8) : Bool := l.any fun f => decide (f.path = p)
theorem idxF_has (l : List Fl) (p : List UInt8) : decide (idxF l p < 0) = !hasF l p := by
  unfold idxF hasF
  cases h : l.findIdx? fun f => decide (f.path = p) with
  | none =>
    have h1 := List.findIdx?_eq_none_iff.1 h
    have : (l.any fun f => decide (f.path = p)) = false := List.any_eq_false.2 fun x hx => by simp [h1 x hx]
    rw [this]
    rfl
  | some i =>
    obtain ⟨h1, h2, _⟩ := List.findIdx?_eq_some_iff_getElem.1 h
    have : (l.any fun f => decide (f.path = p)) = true := List.any_eq_true.2 ⟨_, List.getElem_mem h1, h2⟩
    rw [this]
    simp
/-- The first element with a path is no directory. -/
def notDir (l : List Fl) (p : List UInt8) : Bool := match l.find? fun f => decide (f.path = p) with
  | some f => !f.dir
  | none => false
def blockP (l : List Fl) : Nat → List UInt8 → Bool
  | 0, _ => false
  | n + 1, a => !decide (a = [47]) && (notDir l a || blockP l n (parentB a))
def perrP (l : List Fl) (p : List UInt8) : Int := if blockP l (parentB p).length (parentB p) then 18 else if hasF l (parentB p) then 0 else 8
def aboveB (a s : List UInt8) : Bool := if a = [47] then !decide (s = [47]) else decide (a.length < s.length) && decide (s.take a.length = a) && decide (s[a.length]? = some 47)
def perrR (l : List Fl) (p : List UInt8) : Int := if l.any (fun f => !f.dir && aboveB f.path p) then 18 else if hasF l (parentB p) then 0 else 8

theorem split_mid : ∀ {ds : List (List UInt8)} (r : List UInt8), (∀ d ∈ ds, (47 : UInt8) ∉ d) → splitB (tailB ds ++ 47 :: r) = [] :: (ds ++ splitB r)
  | [], r, _ => by simp [tailB, splitB]
  | d :: ds, r, h => by
    have ih := split_mid (ds := ds) r fun x hx => h x (List.mem_cons_of_mem _ hx)
    have hd := h d (by simp)
    cases hx : tailB ds ++ 47 :: r with
    | nil => simp at hx
    | cons c X =>
      obtain rfl : c = 47 := by
        cases ds with
        | nil => simp [tailB] at hx; exact hx.1.symm
        | cons e es => simp [tailB] at hx; exact hx.1.symm
      rw [hx] at ih
      simp only [splitB, if_true, List.cons.injEq, true_and] at ih
      rw [tailB, List.cons_append, List.append_assoc, hx, splitB, if_pos rfl, splitB_app hd, ih]
      rfl
theorem render_inj {ds cs : List (List UInt8)} (hd : Names ds) (hc : Names cs) (h : render ds = render cs) : ds = cs := by
  have h1 := split_render hd
  have h2 := split_render hc
  rw [h, h2] at h1
  by_cases e1 : ds = [] <;> by_cases e2 : cs = []
  · rw [e1, e2]
  · rw [if_pos e1, if_neg e2] at h1
    simp only [List.cons.injEq, true_and] at h1
    subst h1
    exact absurd rfl (name_is (hc [] (by simp))).1
  · rw [if_neg e1, if_pos e2] at h1
    simp only [List.cons.injEq, true_and] at h1
    subst h1
    exact absurd rfl (name_is (hd [] (by simp))).1
  · rw [if_neg e1, if_neg e2] at h1
    simp only [List.cons.injEq, true_and] at h1
    exact h1.symm
theorem above_render {ds cs : List (List UInt8)} (hd : Names ds) (hc : Names cs) : aboveB (render ds) (render cs) = true ↔ ∃ e, e ≠ [] ∧ cs = ds ++ e := by
  unfold aboveB
  cases ds with
  | nil =>
    have e0 : render [] = [47] := rfl
    rw [if_pos e0]
    simp only [Bool.not_eq_true', decide_eq_false_iff_not, List.nil_append]
    constructor
    · intro h
      exact ⟨cs, fun e => h (by rw [e]; rfl), rfl⟩
    · rintro ⟨e, he, rfl⟩ h
      exact he (render_inj hc (ds := cs) (cs := []) (fun _ h => by cases h) h)
  | cons d ds =>
    have hne : render (d :: ds) ≠ [47] := fun h => by
      have := render_inj hd (cs := []) (fun _ h => by cases h) h
      cases this
    rw [if_neg hne]
    simp only [Bool.and_eq_true, decide_eq_true_eq]
    constructor
    · rintro ⟨⟨h1, h2⟩, h3⟩
      obtain ⟨hlt, h4⟩ := List.getElem?_eq_some_iff.1 h3
      have hs : render cs = tailB (d :: ds) ++ 47 :: (render cs).drop ((render (d :: ds)).length + 1) := by
        conv => lhs; rw [← List.take_append_drop (render (d :: ds)).length (render cs)]
        rw [h2, List.drop_eq_getElem_cons hlt, h4]
        rfl
      have h5 := split_mid ((render cs).drop ((render (d :: ds)).length + 1)) hd.slash
      rw [← hs, split_render hc] at h5
      split at h5
      · rename_i e
        subst e
        simp [render] at h1
        simp [tailB] at h1
      · simp only [List.cons.injEq, true_and] at h5
        exact ⟨_, splitB_ne _, h5⟩
    · rintro ⟨e, he, rfl⟩
      cases e with
      | nil => exact absurd rfl he
      | cons c e =>
        have hr : render (d :: ds ++ c :: e) = render (d :: ds) ++ 47 :: (c ++ tailB e) := by
          rw [List.cons_append, render, ← List.cons_append, tailB_app]
          rfl
        rw [hr]
        simp
/-- A list that may be walked: paths, one element each, the root a directory. -/
structure GoodL (l : List Fl) : Prop where
  paths : ∀ f ∈ l, pathB f.path = true
  once : l.Pairwise fun f g => f.path ≠ g.path
  root : ∀ f ∈ l, f.path = [47] → f.dir = true
theorem find_once {l : List Fl} (h : l.Pairwise fun f g => f.path ≠ g.path) {f : Fl} (hf : f ∈ l) : (l.find? fun g => decide (g.path = f.path)) = some f := by
  induction l with
  | nil => cases hf
  | cons a l ih =>
    rw [List.pairwise_cons] at h
    rw [List.find?_cons]
    by_cases e : a.path = f.path
    · simp only [e, decide_true]
      rcases List.mem_cons.1 hf with rfl | hf
      · rfl
      · exact absurd e (h.1 f hf)
    · simp only [e, decide_false]
      rcases List.mem_cons.1 hf with rfl | hf
      · exact absurd rfl e
      · exact ih h.2 hf
theorem notDir_iff {l : List Fl} (h : GoodL l) {p : List UInt8} : notDir l p = true ↔ ∃ f ∈ l, f.path = p ∧ f.dir = false := by
  unfold notDir
  constructor
  · intro hn
    split at hn
    · rename_i f hf
      have h1 := List.find?_some hf
      have h2 := List.mem_of_find?_eq_some hf
      exact ⟨f, h2, by simpa using h1, by simpa using hn⟩
    · cases hn
  · rintro ⟨f, hf, rfl, hd⟩
    rw [find_once h.once hf]
    simp [hd]
theorem block_iff {l : List Fl} (hl : GoodL l) : ∀ (n : Nat) (cs : List (List UInt8)), Names cs → cs.length ≤ n → (blockP l n (render cs) = true ↔ ∃ ds e, ds ≠ [] ∧ cs = ds ++ e ∧ notDir l (render ds) = true)
  | 0, cs, hc, hn => by
    obtain rfl := List.eq_nil_of_length_eq_zero (by omega : cs.length = 0)
    simp [blockP]
    intro x h1 h2
    exact absurd h2 h1
  | n + 1, cs, hc, hn => by
    rw [blockP]
    rcases List.eq_nil_or_concat cs with rfl | ⟨a, b, rfl⟩
    · simp [render]
      intro x h1 h2
      exact absurd h2 h1
    · rw [List.concat_eq_append] at hc hn ⊢
      have hne : ¬ render (a ++ [b]) = [47] := fun h => by
        have := render_inj hc (cs := []) (fun _ h => by cases h) h
        simp at this
      have ih := block_iff hl n a (fun c hc' => hc c (by simp [hc'])) (by simp at hn; omega)
      rw [parent_snoc (hc.slash b (by simp))]
      simp only [hne, decide_false, Bool.not_false, Bool.true_and, Bool.or_eq_true, ih]
      constructor
      · rintro (h | ⟨ds, e, h1, h2, h3⟩)
        · exact ⟨a ++ [b], [], by simp, by simp, h⟩
        · exact ⟨ds, e ++ [b], h1, by rw [h2]; simp, h3⟩
      · rintro ⟨ds, e, h1, h2, h3⟩
        rcases List.eq_nil_or_concat e with rfl | ⟨e', c, rfl⟩
        · rw [List.append_nil] at h2
          exact .inl (h2 ▸ h3)
        · rw [List.concat_eq_append, ← List.append_assoc] at h2
          have := List.append_inj' h2 rfl
          exact .inr ⟨ds, e', h1, this.1, h3⟩
theorem tail_len : ∀ cs : List (List UInt8), cs.length ≤ (tailB cs).length
  | [] => Nat.le_refl _
  | c :: cs => by
    have := tail_len cs
    simp [tailB]
    omega
theorem render_len (cs : List (List UInt8)) : cs.length ≤ (render cs).length := by
  cases cs with
  | nil => simp
  | cons c cs => exact tail_len (c :: cs)
theorem perr_same {l : List Fl} (hl : GoodL l) {p : List UInt8} (hp : pathB p = true) (hr : p ≠ [47]) : perrP l p = perrR l p := by
  obtain ⟨cs, hc, rfl⟩ := path_render hp
  rcases List.eq_nil_or_concat cs with rfl | ⟨a, b, rfl⟩
  · exact absurd rfl hr
  · rw [List.concat_eq_append] at hc hr hp ⊢
    have ha : Names a := fun c hc' => hc c (by simp [hc'])
    have hb := block_iff hl (render a).length a ha (render_len a)
    have : blockP l (render a).length (render a) = l.any fun f => !f.dir && aboveB f.path (render (a ++ [b])) := by
      rw [Bool.eq_iff_iff, hb, List.any_eq_true]
      constructor
      · rintro ⟨ds, e, h1, h2, h3⟩
        obtain ⟨f, hf, hfp, hfd⟩ := (notDir_iff hl).1 h3
        refine ⟨f, hf, ?_⟩
        rw [hfp, hfd]
        simp only [Bool.not_false, Bool.true_and]
        refine (above_render (fun c hc' => ha c (by rw [h2]; simp [hc'])) hc).2 ⟨e ++ [b], by simp, by rw [h2]; simp⟩
      · rintro ⟨f, hf, h⟩
        simp only [Bool.and_eq_true, Bool.not_eq_true'] at h
        obtain ⟨ds, hd, hds⟩ := path_render (hl.paths f hf)
        rw [hds] at h
        obtain ⟨e, he, h2⟩ := (above_render hd hc).1 h.2
        rcases List.eq_nil_or_concat e with rfl | ⟨e', c, rfl⟩
        · exact absurd rfl he
        · rw [List.concat_eq_append, ← List.append_assoc] at h2
          have h3 := (List.append_inj' h2 rfl).1
          refine ⟨ds, e', fun e0 => ?_, h3, (notDir_iff hl).2 ⟨f, hf, hds, h.1⟩⟩
          subst e0
          have := hl.root f hf hds
          rw [h.1] at this
          cases this
    unfold perrP perrR
    rw [parent_snoc (hc.slash b (by simp)), this]

def afterB (prev : Option Fl) (f : Fl) : Bool := match prev with
  | some g => leB f.path g.path
  | none => false
def baseF (prev : Option Fl) (f : Fl) : Int :=
  if pathB f.path = false then 10
  else if ((f.dir && !decide (f.data = [])) || (decide (f.path = [47]) && !f.dir)) = true then 1
  else if 8192 < f.data.length then 3
  else if afterB prev f = true then 25 else 0
def prevF (l : List Fl) (i : Nat) : Option Fl := if i = 0 then none else l[i - 1]?
def checkP (l : List Fl) (i : Nat) (f : Fl) : Int :=
  if baseF (prevF l i) f ≠ 0 then baseF (prevF l i) f else if f.path = [47] then 0 else perrP (l.take i) f.path
def checkR (l : List Fl) (i : Nat) (f : Fl) : Int :=
  if baseF (prevF l i) f ≠ 0 then baseF (prevF l i) f else if i = 0 then 0 else perrR (l.take i) f.path
def firstE (chk : Nat → Fl → Int) : Nat → List Fl → Int
  | _, [] => 0
  | k, f :: r => if chk k f ≠ 0 then chk k f else firstE chk (k + 1) r
def validB (chk : List Fl → Nat → Fl → Int) (l : List Fl) : Int :=
  if 128 < l.length then 4 else match l with
  | [] => 8
  | f :: r => if f.path = [47] then firstE (chk (f :: r)) 0 (f :: r) else 8
/-- What has been checked. -/
structure Seen (l : List Fl) : Prop where
  good : GoodL l
  sorted : l.Pairwise fun f g => ltB f.path g.path = true
theorem base_zero {prev : Option Fl} {f : Fl} (h : baseF prev f = 0) : pathB f.path = true ∧ (f.path = [47] → f.dir = true) ∧ (f.dir = true → f.data = []) ∧ f.data.length ≤ 8192 ∧ ∀ g, prev = some g → ltB g.path f.path = true := by
  unfold baseF at h
  split at h
  · cases h
  split at h
  · cases h
  split at h
  · cases h
  split at h
  · cases h
  rename_i h1 h2 h3 h4
  simp only [Bool.or_eq_true, Bool.and_eq_true, Bool.not_eq_true', decide_eq_true_eq, decide_eq_false_iff_not, not_or, not_and] at h2
  refine ⟨by simpa using h1, fun e => ?_, fun e => ?_, by omega, fun g hg => ?_⟩
  · have := h2.2 e
    simpa using this
  · have := h2.1 e
    simpa using this
  · subst hg
    simp only [Bool.not_eq_true, afterB] at h4
    exact ltB_tri h4
theorem Seen.snoc {l : List Fl} (h : Seen l) {f : Fl} (h0 : ∀ g, l.getLast? = some g → ltB g.path f.path = true) (h1 : pathB f.path = true) (h2 : f.path = [47] → f.dir = true) : Seen (l ++ [f]) := by
  have hlt : ∀ g ∈ l, ltB g.path f.path = true := by
    rcases List.eq_nil_or_concat l with rfl | ⟨a, b, rfl⟩
    · intro g hg; cases hg
    · rw [List.concat_eq_append] at h h0 ⊢
      have hb := h0 b (by simp)
      intro g hg
      rcases List.mem_append.1 hg with hg | hg
      · have := (List.pairwise_append.1 h.sorted).2.2 g hg b (by simp)
        exact ltB_trans this hb
      · rw [List.mem_singleton.1 hg]; exact hb
  refine ⟨⟨fun g hg => ?_, ?_, fun g hg => ?_⟩, ?_⟩
  · rcases List.mem_append.1 hg with hg | hg
    · exact h.good.paths g hg
    · rw [List.mem_singleton.1 hg]; exact h1
  · refine List.pairwise_append.2 ⟨h.good.once, by simp, fun a ha b hb => ?_⟩
    rw [List.mem_singleton.1 hb]
    exact ltB_ne (hlt a ha)
  · rcases List.mem_append.1 hg with hg | hg
    · exact h.good.root g hg
    · rw [List.mem_singleton.1 hg]; exact h2
  · refine List.pairwise_append.2 ⟨h.sorted, by simp, fun a ha b hb => ?_⟩
    rw [List.mem_singleton.1 hb]
    exact hlt a ha
theorem root_least {p : List UInt8} (h : pathB p = true) : leB [47] p = true := by
  obtain ⟨cs, _, rfl⟩ := path_render h
  cases cs with
  | nil => rfl
  | cons c cs =>
    simp only [render, tailB, leB, ltB]
    cases c ++ tailB cs with
    | nil => rfl
    | cons d r => simp [ltB]
theorem Seen.nil : Seen [] := { good := { paths := fun _ h => (by cases h), once := .nil, root := fun _ h => (by cases h) }, sorted := .nil }
theorem prev_last {a b : List Fl} {f : Fl} : prevF (a ++ f :: b) a.length = a.getLast? := by
  rcases List.eq_nil_or_concat a with rfl | ⟨a', g, rfl⟩
  · rfl
  · rw [List.concat_eq_append]
    simp [prevF]
theorem first_same : ∀ (b a : List Fl), Seen a → (∀ f, (a ++ b)[0]? = some f → f.path = [47]) → firstE (checkP (a ++ b)) a.length b = firstE (checkR (a ++ b)) a.length b
  | [], a, _, _ => rfl
  | f :: b, a, ha, h0 => by
    rw [firstE, firstE]
    have hcs : checkP (a ++ f :: b) a.length f = checkR (a ++ f :: b) a.length f := by
      unfold checkP checkR
      split
      · rfl
      rename_i hz
      have hz' : baseF (prevF (a ++ f :: b) a.length) f = 0 := Decidable.not_not.1 hz
      obtain ⟨h1, h2, _, _, h5⟩ := base_zero hz'
      rw [List.take_left]
      cases a with
      | nil => rw [if_pos (h0 f rfl)]; rfl
      | cons g a =>
        have hnr : f.path ≠ [47] := fun e => by
          obtain ⟨q, hq⟩ : ∃ q, (g :: a).getLast? = some q := ⟨_, List.getLast?_eq_some_getLast (by simp)⟩
          have h6 := h5 q (by rw [prev_last]; exact hq)
          have hqm := List.mem_of_getLast? hq
          have h7 := root_least (ha.good.paths q hqm)
          rw [e] at h6
          simp only [leB, Bool.or_eq_true, beq_iff_eq] at h7
          rcases h7 with h7 | h7
          · have := ltB_trans h7 h6
            rw [ltB_irrefl] at this
            cases this
          · rw [← h7, ltB_irrefl] at h6
            cases h6
        rw [if_neg hnr, if_neg (by simp)]
        exact perr_same ha.good h1 hnr
    rw [hcs]
    split
    · rfl
    · rename_i hz
      rw [← hcs] at hz
      have hz' : baseF (prevF (a ++ f :: b) a.length) f = 0 := by
        have := Decidable.not_not.1 hz
        unfold checkP at this
        split at this
        · rename_i h; exact absurd this h
        · rename_i h; exact Decidable.not_not.1 h
      obtain ⟨h1, h2, _, _, h5⟩ := base_zero hz'
      have hs := ha.snoc (f := f) (fun g hg => h5 g (by rw [prev_last]; exact hg)) h1 h2
      have := first_same b (a ++ [f]) hs (by simpa using h0)
      simpa using this
theorem valid_same (l : List Fl) : validB checkP l = validB checkR l := by
  unfold validB
  split
  · rfl
  · cases l with
    | nil => rfl
    | cons f r =>
      dsimp only
      split
      · rename_i h
        exact first_same (f :: r) [] .nil (fun g hg => by simp at hg; rw [← hg]; exact h)
      · rfl

end Go.Proofs.YtiefcnghjcafbaaDoorV
