/- What Keep of the program returns. -/
import Derived.Test.YtbkjiglbkckhmaaPlan
import Derived.Test.YtbkjiglbkckhmaaV26
namespace Go.Proofs.YtbkjiglbkckhmaaV
open Go Go.RowKit Go.Proofs.Ytbkjiglbkckhmaa
set_option maxRecDepth 20000
set_option maxHeartbeats 1000000

/-- A move as the law is handed it. -/
structure MV where
  k : Int
  fd : Int
  b : Int
  c : Int
  p : ByteArray
  t : ByteArray
abbrev mvRow (m : MV) : List S := mvS m.k m.fd m.b m.c m.p m.t
abbrev mvCel (m : MV) : List V := [.val (i64 m.k), .val (i64 m.fd), .val (i64 m.b), .val (i64 m.c), .val (.string m.p), .val (.string m.t)]
def svM (fd : Int) : MV := ⟨5, fd, 10, 0, ⟨#[]⟩, ⟨#[]⟩⟩
def bkM (fd : Int) : MV := ⟨6, fd, -1, 0, ⟨#[]⟩, ⟨#[]⟩⟩

/-- The descriptors, each once. -/
def dd : List Int → List Int := List.foldl (fun l f => if l.contains f then l else l ++ [f]) []
theorem dd_snoc (l : List Int) (f : Int) : dd (l ++ [f]) = if (dd l).contains f then dd l else dd l ++ [f] := by
  simp [dd, List.foldl_append]
theorem snoc_ind {p : List Int → Prop} (h0 : p []) (h1 : ∀ l a, p l → p (l ++ [a])) (l : List Int) : p l := by
  have : ∀ r : List Int, p r.reverse := by
    intro r
    induction r with
    | nil => exact h0
    | cons a r ih => rw [List.reverse_cons]; exact h1 _ _ ih
  rw [← l.reverse_reverse]
  exact this _
theorem dd_mem : ∀ (l : List Int) (f : Int), f ∈ dd l ↔ f ∈ l := by
  intro l
  refine snoc_ind (p := fun l => ∀ f, f ∈ dd l ↔ f ∈ l) (fun f => Iff.rfl) ?_ l
  · intro l a ih f
    rw [dd_snoc]
    split
    · rename_i h
      have : a ∈ dd l := by simpa using h
      rw [ih f, List.mem_append, List.mem_singleton]
      refine ⟨.inl, fun h => h.elim id fun e => ?_⟩
      rw [e]
      exact (ih a).1 this
    · rw [List.mem_append, List.mem_append, ih f]
theorem dd_len : ∀ (l : List Int), (dd l).length ≤ l.length := by
  intro l
  refine snoc_ind (p := fun l => (dd l).length ≤ l.length) (Nat.le_refl _) ?_ l
  · intro l a ih
    rw [dd_snoc]
    split <;> simp <;> omega

/-- The boxes of Keep, one for a move, and one for the descriptor asked about. -/
abbrev bs4 (X Y : List MV) : List Bx := [.cells [.row 2], .cells [.row 3], .row 62 6 (X.map mvRow), .row 62 6 (Y.map mvRow)]
abbrev bs5 (X Y : List MV) (m : MV) : List Bx := [.cells [.row 2], .cells [.row 3], .row 62 6 (X.map mvRow), .row 62 6 (Y.map mvRow), .cells (mvCel m)]
abbrev bsK (X Y : List MV) (m : MV) (fd : Int) : List Bx := [.cells [.row 2], .cells [.row 3], .row 62 6 (X.map mvRow), .row 62 6 (Y.map mvRow), .cells (mvCel m), .cells [.val (i64 fd)]]

theorem is43 (X Y : List MV) (m : MV) (fd k f b c : Int) (p t : ByteArray) : FnOk Try.prog 43 [mvV k f b c p t, .ptr 5 0] (bsK X Y m fd) (fun r bs' => r = .val (.bool (f == fd)) ∧ bs' = bsK X Y m fd) := by
  refine FnOk.of layOk Try.func43 rfl ?_
  refine Ok.after (Ok.seq (go 10 rfl ?_))
  refine Ok.seq (go 10 rfl ?_)
  refine Ok.ret ?_
  refine ⟨[0, 1, 2, 3, 4, 5], [3], _, rfl, by decide, floor_ok rfl, ?_⟩
  exact ⟨fun _ h => (by cases h), _, rfl, rfl, rfl⟩

/-- The call of the inner function. -/
inductive K43 (X Y : List MV) (m : MV) (fd : Int) : FuncId → List V → List Bx → V → List Bx → Prop
  | call (k f b c : Int) (p t : ByteArray) : K43 X Y m fd 43 [mvV k f b c p t, .ptr 5 0] (bsK X Y m fd) (.val (.bool (f == fd))) (bsK X Y m fd)
theorem K43_good (X Y : List MV) (m : MV) (fd : Int) : Good Try.prog (TabB (K43 X Y m fd)) := TabB_good fun f vs bs v bs' h => by
  cases h
  exact ⟨is43 X Y m fd _ _ _ _ _ _, Try.call43⟩

def ixR (X : List MV) (fd : Int) : Int := match X.findIdx? (fun n => n.fd == fd) with
  | some i => (i : Int)
  | none => -1
theorem ixR_any (X : List MV) (fd : Int) : decide (ixR X fd ≥ 0) = X.any fun n => n.fd == fd := by
  unfold ixR
  cases h : X.findIdx? (fun n => n.fd == fd) with
  | some i =>
    have : (X.findIdx? (fun n => n.fd == fd)).isSome = true := by rw [h]; rfl
    rw [List.findIdx?_isSome] at this
    rw [this]
    simp
  | none =>
    have : (X.findIdx? (fun n => n.fd == fd)).isSome = false := by rw [h]; rfl
    rw [List.findIdx?_isSome] at this
    rw [this]
    simp
theorem ixR_hit {X : List MV} {fd : Int} {k : Nat} {x : MV} (h : (X.take k).any (fun n => n.fd == fd) = false) (hk : X[k]? = some x) (hx : (x.fd == fd) = true) : ixR X fd = (k : Int) := by
  have hlt := (List.getElem?_eq_some_iff.1 hk).1
  have : X.findIdx? (fun n => n.fd == fd) = some k := by
    rw [List.findIdx?_eq_some_iff_getElem]
    refine ⟨hlt, by rw [(List.getElem?_eq_some_iff.1 hk).2]; exact hx, fun j hj => ?_⟩
    have h1 : X[j] ∈ X.take k := by
      rw [List.mem_iff_getElem?]
      exact ⟨j, by rw [List.getElem?_take_of_lt hj]; exact List.getElem?_eq_getElem (by omega)⟩
    have := List.any_eq_false.1 h _ h1
    simpa using this
  unfold ixR
  rw [this]
theorem ixR_no {X : List MV} {fd : Int} (h : X.any (fun n => n.fd == fd) = false) : ixR X fd = -1 := by
  unfold ixR
  have : X.findIdx? (fun n => n.fd == fd) = none := by
    rw [List.findIdx?_eq_none_iff]
    intro x hx
    have := List.any_eq_false.1 h x hx
    simpa using this
  rw [this]

theorem ix50 (X Y : List MV) (m : MV) (fd : Int) (hl : X.length ≤ 60) : FnOk Try.prog 50 [.row 2, .fn 43 [.ptr 5 0]] (bsK X Y m fd) (fun r bs' => r = .val (i64 (ixR X fd)) ∧ bs' = bsK X Y m fd) := by
  refine FnOk.of layOk Try.func50 rfl ?_
  refine Ok.seq (go 10 rfl ?_)
  unfold thn
  dsimp only
  refine Ok.seq (Ok.mono (Q := fun e ts bs => bs = bsK X Y m fd ∧ if X.any (fun n => n.fd == fd) then e = .ret ∧ ts = (List.replicate 19 V.gone).set 4 (.val (i64 (ixR X fd))) else e = .normal ∧ ts = List.replicate 19 V.gone) ?_ ?_)
  · refine Ok.after (Ok.seq (go 10 rfl ?_))
    refine Ok.gc [0, 1, 2, 3, 4, 5] [0, 1, 6, 7, 8] rfl (by decide) (floor_ok rfl) ?_
    refine Ok.range layOk (X.map mvRow).length (fun k ts bs => k ≤ (X.map mvRow).length ∧ (X.take k).any (fun n => n.fd == fd) = false ∧ (∃ u, ts = ((((((List.replicate 19 V.gone).set 0 (.row 2)).set 1 (.fn 43 [.ptr 5 0])).set 6 (.row 2)).set 7 (.val (i64 (X.map mvRow).length))).set 18 u).set 8 (.val (i64 k))) ∧ bs = bsK X Y m fd) rfl rfl rfl rfl rfl rfl rfl rfl rfl (by simp; omega) ?_ ?_ ?_ ?_
    · exact ⟨Nat.zero_le _, rfl, ⟨.gone, by kernel_rfl⟩, rfl⟩
    · rintro k _ _ ⟨h, _, ⟨u, rfl⟩, rfl⟩
      exact ⟨rfl, rfl, by simp, h⟩
    · rintro k _ _ hk ⟨_, hno, ⟨u, rfl⟩, rfl⟩
      have hk2 : k < X.length := by simpa using hk
      obtain ⟨x, hx⟩ : ∃ x, X[k]? = some x := ⟨_, List.getElem?_eq_getElem hk2⟩
      have hx2 : (X.map mvRow)[k]? = some (mvRow x) := by rw [List.getElem?_map, hx]; rfl
      simp only [List.replicate, List.set]
      refine Ok.block (Ok.after (Ok.seq (go 10 rfl ?_)))
      unfold thn
      dsimp only
      refine Ok.seq (Ok.regionW (G := fun _ => false) (C := TabB _) mixed layOk (K43_good X Y m fd) (fun _ _ h => by cases h) (.inl rfl) ?_)
      refine wstepN rfl rfl (by dsimp only [putV, List.set]) ?_
      refine wstepN rfl rfl (by dsimp only [putV, List.set]) ?_
      refine wstepN rfl rfl (by dsimp only [putV, List.set]) ?_
      refine wstepN rfl (ev_ixR (k2 := 2) (n := 6) (xs := X.map mvRow) rfl rfl rfl rfl hk) (by dsimp only [putV, List.set]) ?_
      refine wstepN rfl (ev_ldR (k := 2) (n := 6) (sz := 6) (i := k) (j := 0) (xs := X.map mvRow) (r := mvRow x) (cs := mvCel x) (v := .agg (mvCel x)) rfl rfl rfl hx2 (Nat.le_refl _) rfl rfl) (by dsimp only [putV, List.set]) ?_
      refine wstepN rfl (TabB_hit (fun v' b' h => by cases h; exact ⟨rfl, rfl⟩) (.call _ _ _ _ _ _)) (by dsimp only [putV, List.set]) ?_
      generalize hq : (x.fd == fd) = q
      refine wnil (Ok.cond (b := q) rfl (fun h => ?_) (fun h => Ok.skip ?_))
      · subst h
        have hall : X.any (fun n => n.fd == fd) = true := List.any_eq_true.2 ⟨x, List.mem_of_getElem? hx, hq⟩
        rw [hall, ixR_hit hno hx hq]
        refine go 10 rfl ?_
        refine ⟨[0, 1, 2, 3, 4, 5], [4], _, rfl, by decide, floor_ok rfl, ?_⟩
        exact ⟨[0, 1, 2, 3, 4, 5], [4], _, rfl, by decide, floor_ok rfl, rfl, rfl, rfl⟩
      · subst h
        refine ⟨[0, 1, 2, 3, 4, 5], [0, 1, 6, 7, 8], _, rfl, by decide, floor_ok rfl, ?_⟩
        refine ⟨by kernel_rfl, Nat.lt_of_lt_of_eq (by decide : 18 < 19) (by kernel_rfl), hk, ?_, ⟨.val (i64 ((k + 1 : Nat) : Int)), by kernel_rfl⟩, rfl⟩
        rw [List.take_add_one, hx]
        simp [hno, hq]
    · rintro _ _ ⟨_, hno, ⟨u, rfl⟩, rfl⟩
      have hall : X.any (fun n => n.fd == fd) = false := by simpa using hno
      rw [hall]
      exact ⟨[0, 1, 2, 3, 4, 5], [], _, rfl, by decide, floor_ok rfl, rfl, rfl, by kernel_rfl⟩
  intro e ts bs he
  obtain ⟨rfl, he⟩ := he
  cases hall : X.any (fun n => n.fd == fd) with
  | true =>
    rw [hall] at he
    obtain ⟨rfl, rfl⟩ := he
    exact ⟨fun _ h => (by cases h), _, rfl, rfl, rfl⟩
  | false =>
    rw [hall] at he
    obtain ⟨rfl, rfl⟩ := he
    rw [ixR_no hall]
    exact go 10 rfl ⟨fun _ h => (by cases h), _, rfl, rfl, rfl⟩

inductive K50 (X Y : List MV) (m : MV) (fd : Int) : FuncId → List V → List Bx → V → List Bx → Prop
  | call : K50 X Y m fd 50 [.row 2, .fn 43 [.ptr 5 0]] (bsK X Y m fd) (.val (i64 (ixR X fd))) (bsK X Y m fd)
theorem K50_good (X Y : List MV) (m : MV) (fd : Int) (hl : X.length ≤ 60) : Good Try.prog (TabB (K50 X Y m fd)) := TabB_good fun f vs bs v bs' h => by
  cases h
  exact ⟨ix50 X Y m fd hl, Try.call50⟩

theorem has42 (X Y : List MV) (m : MV) (fd : Int) (hl : X.length ≤ 60) : FnOk Try.prog 42 [.row 2, .fn 43 [.ptr 5 0]] (bsK X Y m fd) (fun r bs' => r = .val (.bool (X.any fun n => n.fd == fd)) ∧ bs' = bsK X Y m fd) := by
  refine FnOk.of layOk Try.func42 rfl ?_
  refine Ok.seq (go 10 rfl ?_)
  unfold thn
  dsimp only
  refine Ok.seq (Ok.regionW (G := fun _ => false) (C := TabB _) mixed layOk (K50_good X Y m fd hl) (fun _ _ h => by cases h) (.inl rfl) ?_)
  refine wstepN rfl rfl (by dsimp only [putV, List.set]) ?_
  refine wstepN rfl rfl (by dsimp only [putV, List.set]) ?_
  refine wstepN rfl (TabB_hit (fun v' b' h => by cases h; exact ⟨rfl, rfl⟩) .call) (by dsimp only [putV, List.set]) ?_
  refine wstepN rfl (geqK (ixR_any X fd) rfl rfl) (by dsimp only [putV, List.set]) ?_
  refine wstepN rfl rfl (by dsimp only [putV, List.set]) ?_
  refine wnil ?_
  exact Ok.ret ⟨fun _ h => (by cases h), _, rfl, rfl, rfl⟩

inductive K42 (X Y : List MV) (m : MV) (fd : Int) : FuncId → List V → List Bx → V → List Bx → Prop
  | call : K42 X Y m fd 42 [.row 2, .fn 43 [.ptr 5 0]] (bsK X Y m fd) (.val (.bool (X.any fun n => n.fd == fd))) (bsK X Y m fd)
theorem K42_good (X Y : List MV) (m : MV) (fd : Int) (hl : X.length ≤ 60) : Good Try.prog (TabB (K42 X Y m fd)) := TabB_good fun f vs bs v bs' h => by
  cases h
  exact ⟨has42 X Y m fd hl, Try.call42⟩

def bs41 (X Y : List MV) (m : MV) (fd : Int) : Bool → List Bx
  | true => bs5 X Y m
  | false => [.cells [.row 5], .cells [.row 6], .dead, .dead, .cells (mvCel m), .row 62 6 ((X ++ [svM fd]).map mvRow), .row 62 6 ((Y ++ [bkM fd]).map mvRow)]

theorem keep41 (X Y : List MV) (m : MV) (fd : Int) (hx : X.length ≤ 60) (hy : Y.length ≤ 60) : FnOk Try.prog 41 [.val (i64 fd), .ptr 0 0, .ptr 1 0] (bs5 X Y m) (fun r bs' => r = .tup [] ∧ bs' = bs41 X Y m fd (X.any fun n => n.fd == fd)) := by
  refine FnOk.of layOk Try.func41 rfl ?_
  refine Ok.after (Ok.seq (go 10 rfl ?_))
  unfold thn
  dsimp only
  refine Ok.seq (Ok.seq (Ok.regionW (G := fun _ => false) (C := TabB _) mixed layOk (K42_good X Y m fd hx) (fun _ _ h => by cases h) (.inl rfl) ?_))
  refine wstepN rfl rfl (by dsimp only [putV, List.set]) ?_
  refine wstepN rfl rfl (by dsimp only [putV, List.set]) ?_
  refine wstepN rfl (TabB_hit (fun v' b' h => by cases h; exact ⟨rfl, rfl⟩) .call) (by dsimp only [putV, List.set]) ?_
  generalize (X.any fun n => n.fd == fd) = q
  refine wnil (Ok.cond (b := q) rfl (fun h => ?_) (fun h => Ok.skip ?_))
  · subst h
    refine Ok.ret ⟨[0, 1, 2, 3, 4], [], _, rfl, by decide, floor_ok rfl, ?_⟩
    exact ⟨fun _ h => (by cases h), _, rfl, rfl, rfl⟩
  · subst h
    unfold thn
    dsimp only
    refine Ok.seq (Ok.regionW (G := fun _ => false) (C := fun _ _ _ => none) mixed layOk noCalls (fun _ _ h => by cases h) (.inl rfl) ?_)
    refine wstepN rfl rfl (by dsimp only [putV, List.set]) ?_
    refine wstepN rfl rfl (by dsimp only [putV, List.set]) ?_
    refine wstepN rfl rfl (by dsimp only [putV, List.set]) ?_
    refine wstepN rfl rfl (by dsimp only [putV, List.set]) ?_
    refine wstepN rfl (ev_app (xs := X.map mvRow) (ys := [mvRow (svM fd)]) rfl rfl rfl rfl rfl rfl rfl (by simp; omega) (by simp; omega)) (by dsimp only [putV, List.set]) ?_
    refine wstepN rfl rfl (by dsimp only [putV, List.set]) ?_
    refine wnil ?_
    refine Ok.regionW (G := fun _ => false) (C := fun _ _ _ => none) mixed layOk noCalls (fun _ _ h => by cases h) (.inl rfl) ?_
    refine wstepN rfl rfl (by dsimp only [putV, List.set]) ?_
    refine wstepN rfl rfl (by dsimp only [putV, List.set]) ?_
    refine wstepN rfl rfl (by dsimp only [putV, List.set]) ?_
    refine wstepN rfl rfl (by dsimp only [putV, List.set]) ?_
    refine wstepN rfl (ev_app (xs := Y.map mvRow) (ys := [mvRow (bkM fd)]) rfl rfl rfl rfl rfl rfl rfl (by simp; omega) (by simp; omega)) (by dsimp only [putV, List.set]) ?_
    refine wstepN rfl rfl (by dsimp only [putV, List.set]) ?_
    refine wnil ?_
    refine ⟨[0, 1, 2, 3, 4, 7, 9], [], _, rfl, by decide, floor_ok rfl, ?_⟩
    refine ⟨fun _ h => (by cases h), _, rfl, rfl, ?_⟩
    simp only [bs41, List.map_append, List.map_cons, List.map_nil]


end Go.Proofs.YtbkjiglbkckhmaaV
