/- The calculus of values, fifteenth text: operations with calls, in line and in an open order. -/
import Derived.Test.YtiefcnghjcafbaaDoorV14
namespace Go.Proofs.YtiefcnghjcafbaaDoorV
open Go Go.RowKit

/-- What calls come to, as far as it is known. -/
abbrev CallT := FuncId → List V → List Bx → Option (V × List Bx)

/-- A call that comes to a value: of a function with code, or of one that the model knows by itself. -/
def CallOk (P : Program) (f : FuncId) (vs : List V) (bs : List Bx) (v : V) (bs' : List Bx) : Prop := (FnOk P f vs bs (fun r b => r = v ∧ b = bs') ∧ Enters P f) ∨ (bs' = bs ∧ ExtOk P f vs v)
def Good (P : Program) (C : CallT) : Prop := ∀ f vs bs v bs', C f vs bs = some (v, bs') → CallOk P f vs bs v bs'

def evX (L : Lay) (C : CallT) (op : Op) (ts : List V) (bs : List Bx) : Option (V × List Bx) := match op with
  | .call c => match c.callee with
    | .value f0 => match evO ts f0, evOs ts c.args.toList with
      | some (.fn f []), some vs => C f vs bs
      | some (.fn f (c :: cap)), some vs => C f (vs ++ c :: cap) bs
      | _, _ => none
    | _ => evCall L c ts bs
  | op => ev L op ts bs

theorem evX_sound {P : Program} {L : Lay} {C : CallT} {ts : List V} {bs bs' : List Bx} {o : Oper} {v : V} (hL : LayOk P L) (hC : Good P C) (h : evX L C o.op ts bs = some (v, bs')) : Comes1 P o ts bs v bs' := by
  generalize ho : o.op = op at h
  unfold evX at h
  split at h
  · rename_i c
    split at h
    · rename_i f0 hcal
      split at h
      · rename_i f vs hf hv
        obtain ⟨cal, args, tys⟩ := c
        simp only at hcal hv
        subst hcal
        rcases hC _ _ _ _ _ h with ⟨h1, h2⟩ | ⟨rfl, h1⟩
        · exact (op_call ho hf h2 hv h1).mono fun ts' bs'' ⟨r, ⟨hr, hb⟩, ht⟩ => ⟨by rw [ht, hr], hb⟩
        · exact op_callE ho hf hv (by rwa [List.append_nil])
      · rename_i f c0 cap vs hf hv
        obtain ⟨cal, args, tys⟩ := c
        simp only at hcal hv
        subst hcal
        rcases hC _ _ _ _ _ h with ⟨h1, h2⟩ | ⟨rfl, h1⟩
        · exact (op_callF ho hf h2 hv h1).mono fun ts' bs'' ⟨r, ⟨hr, hb⟩, ht⟩ => ⟨by rw [ht, hr], hb⟩
        · exact op_callE ho hf hv h1
      · cases h
    · rename_i hn
      exact evCall_sound hL ho h
  · exact ev_sound hL (by rw [ho]; exact h)

/-! ### What an operation reads -/
def Agree (ts ts' : List V) (l : List Operand) : Prop := ∀ t ∈ tmpsOf l, ts[t]? = ts'[t]?

section
variable {L : Lay} {C : CallT} {ts ts' : List V} {bs : List Bx}

theorem evO_congr {l : List Operand} (h : Agree ts ts' l) {x : Operand} (hx : x ∈ l) : evO ts x = evO ts' x := by
  cases x with
  | tmp t => exact h t (List.mem_filterMap.2 ⟨_, hx, rfl⟩)
  | const v => rfl
  | global g => rfl
  | func f => rfl

theorem evOs_congr : ∀ {l : List Operand}, (∀ x ∈ l, evO ts x = evO ts' x) → evOs ts l = evOs ts' l
  | [], _ => rfl
  | x :: r, h => by
    simp only [evOs]
    rw [h x List.mem_cons_self, evOs_congr fun y hy => h y (List.mem_cons_of_mem _ hy)]

theorem evPs_congr : ∀ {l : List (Nat × Operand)}, (∀ x ∈ l.map (·.2), evO ts x = evO ts' x) → evPs ts l = evPs ts' l
  | [], _ => rfl
  | (i, x) :: r, h => by
    simp only [evPs]
    rw [h x (by simp), evPs_congr fun y hy => h y (by rw [List.map_cons]; exact List.mem_cons_of_mem _ hy)]

theorem evX_congr {op : Op} (h : Agree ts ts' op.operands.toList) : evX L C op ts bs = evX L C op ts' bs := by
  have k : ∀ x ∈ op.operands.toList, evO ts x = evO ts' x := fun x hx => evO_congr h hx
  cases op with
  | call c =>
    obtain ⟨cal, args, tys⟩ := c
    have ka : ∀ x ∈ args.toList, evO ts x = evO ts' x := fun x hx => k x (by
      cases cal <;> simp_all [Op.operands, Call.operands])
    unfold evX
    cases cal with
    | value f0 =>
      simp only
      rw [k f0 (by simp [Op.operands, Call.operands]), evOs_congr ka]
    | invoke r m =>
      simp only
      unfold evCall
      rfl
    | builtin b =>
      simp only
      unfold evCall
      simp only
      split
      · rename_i x t _ h1 h2
        rw [ka x (by rw [h1]; simp)]
      · rename_i x t _ h1 h2
        rw [ka x (by rw [h1]; simp)]
      · rename_i x y _ h1
        rw [ka x (by rw [h1]; simp), ka y (by rw [h1]; simp)]
      · rename_i s x t t' _ h1 h2
        rw [ka x (by rw [h1]; simp), ka s (by rw [h1]; simp)]
      · rename_i s x t t' _ h1 h2
        rw [ka x (by rw [h1]; simp), ka s (by rw [h1]; simp)]
      · rfl
  | build t ps =>
    have := evPs_congr (ts := ts) (ts' := ts') (l := ps.toList) (fun x hx => k x (by simpa [Op.operands] using hx))
    simp only [evX, ev, this]
  | buildSlice t n ps =>
    have := evPs_congr (ts := ts) (ts' := ts') (l := ps.toList) (fun x hx => k x (by simpa [Op.operands] using hx))
    simp only [evX, ev, this]
  | makeFunc fn fst cap =>
    have := evOs_congr (ts := ts) (ts' := ts') (l := cap.toList) (fun x hx => k x (by simp only [Op.operands, Array.toList_append, List.mem_append]; exact .inr hx))
    cases fn <;> first | rfl | simp only [evX, ev, this]
  | next x b =>
    have hx := k x (by simp [Op.operands])
    cases b with
    | false => rfl
    | true => simp only [evX, ev, hx]
  | slice t x lo hi m =>
    cases m with
    | some m => rfl
    | none =>
      have hx := k x (by simp [Op.operands])
      have hc : ∀ s, evCut s ts lo hi = evCut s ts' lo hi := fun s => by
        unfold evCut
        have h1 : ∀ q, lo = some q → evO ts q = evO ts' q := fun q e => k q (by simp [Op.operands, e])
        have h2 : ∀ q, hi = some q → evO ts q = evO ts' q := fun q e => k q (by simp [Op.operands, e])
        cases lo <;> cases hi <;> simp_all
      have hb : ∀ d, bd ts lo d = bd ts' lo d := fun d => by
        unfold bd
        have h1 : ∀ q, lo = some q → evO ts q = evO ts' q := fun q e => k q (by simp [Op.operands, e])
        cases lo <;> simp_all
      have hb2 : ∀ d, bd ts hi d = bd ts' hi d := fun d => by
        unfold bd
        have h2 : ∀ q, hi = some q → evO ts q = evO ts' q := fun q e => k q (by simp [Op.operands, e])
        cases hi <;> simp_all
      simp only [evX, ev, hx, hc, hb, hb2]
  | _ => first
    | rfl
    | (simp only [Op.operands, List.mem_cons, List.not_mem_nil, or_false, forall_eq_or_imp, forall_eq] at k
       simp only [evX, ev, k])

/-- What memory an operation looks at: none; the boxes, which it leaves; it makes a box at the end; anything. -/
inductive Kind where
  | free | read | grow | touch

def kindOf (G : FuncId → Bool) : Op → Kind
  | .move _ | .assign _ | .pick _ _ _ | .binOp _ _ _ _ _ | .unOp _ _ _ | .convert _ _ _ | .extract _ _ | .build _ _ | .nilCheck _ | .fieldAddr _ _ _ | .index _ _ _ | .slice _ _ _ _ _ => .free
  | .load _ _ | .indexAddr _ _ _ => .read
  | .call c => match c.callee with
    | .builtin .len => .read
    | .value (.func f) => if G f then .free else .touch
    | _ => .touch
  | .alloc _ | .box _ _ | .buildSlice _ _ _ => .grow
  | _ => .touch

/-- Calls that leave the boxes as they are and do not look at them. -/
def Calm (G : FuncId → Bool) (C : CallT) : Prop := ∀ f vs, G f = true → (∀ bs, C f vs bs = none) ∨ ∃ v, ∀ bs, C f vs bs = some (v, bs)

theorem Calm.some {G : FuncId → Bool} {C : CallT} (h : Calm G C) {f : FuncId} {vs : List V} {bs bs' : List Bx} {v : V} (hg : G f = true) (hc : C f vs bs = some (v, bs')) : bs' = bs ∧ ∀ bs2, C f vs bs2 = Option.some (v, bs2) := by
  rcases h f vs hg with h | ⟨v', h⟩
  · rw [h] at hc
    cases hc
  · rw [h] at hc
    cases hc
    exact ⟨rfl, h⟩
theorem Calm.none {G : FuncId → Bool} {C : CallT} (h : Calm G C) {f : FuncId} {vs : List V} {bs : List Bx} (hg : G f = true) (hc : C f vs bs = Option.none) : ∀ bs2, C f vs bs2 = Option.none := by
  rcases h f vs hg with h | ⟨v', h⟩
  · exact h
  · rw [h] at hc
    cases hc

theorem get_app {bs l : List Bx} {k : Nat} {b : Bx} (h : bs[k]? = some b) : (bs ++ l)[k]? = some b := by
  rw [List.getElem?_append_left (List.getElem?_eq_some_iff.1 h).1]
  exact h

theorem rd_app {l : List Bx} {p : V} {n : Nat} {cs : List V} (h : rd bs p n = some cs) : rd (bs ++ l) p n = some cs := by
  unfold rd at h ⊢
  cases p with
  | ptr k off =>
    simp only at h ⊢
    split at h
    · rename_i b hb
      rw [get_app hb]
      exact h
    · cases h
  | rptr k sz i j =>
    simp only at h ⊢
    split at h
    · rename_i b hb
      rw [get_app hb]
      exact h
    · cases h
  | _ => exact h

theorem view_app {l : List Bx} {p : V} {xs : List (List S)} (h : view bs p = some xs) : view (bs ++ l) p = some xs := by
  unfold view at h ⊢
  cases p with
  | row k =>
    simp only at h ⊢
    cases hb : bs[k]? with
    | none => rw [hb] at h; cases h
    | some b =>
      rw [hb] at h
      rw [get_app hb]
      exact h
  | _ => exact h

theorem idx_app {l : List Bx} {p v : V} {n i : Nat} (h : idxP bs n i p = some v) : idxP (bs ++ l) n i p = some v := by
  unfold idxP at h ⊢
  cases p with
  | row k =>
    simp only at h ⊢
    cases hb : bs[k]? with
    | none => rw [hb] at h; cases h
    | some b =>
      rw [hb] at h
      rw [get_app hb]
      exact h
  | _ => exact h

/-- A free operation leaves the boxes and does not look at them. -/
theorem ev_free {G : FuncId → Bool} (hG : Calm G C) {op : Op} (hk : kindOf G op = .free) {bs' : List Bx} {v : V} (h : evX L C op ts bs = some (v, bs')) : bs' = bs ∧ ∀ bs2, evX L C op ts bs2 = some (v, bs2) := by
  cases op with
  | slice t x lo hi m =>
    cases m with
    | some m => cases h
    | none =>
      simp only [evX, ev] at h ⊢
      repeat' split at h
      all_goals first
        | (cases h; done)
        | skip
      all_goals first
        | (cases h
           simp_all; done)
        | (obtain ⟨r, hr, he⟩ := Option.map_eq_some_iff.1 h
           cases he
           simp_all; done)
  | call c =>
    obtain ⟨cal, args, tys⟩ := c
    unfold kindOf at hk
    simp only at hk
    split at hk
    · cases hk
    · rename_i f
      split at hk
      · rename_i hg
        simp only [evX, evO] at h ⊢
        split at h
        · rename_i f2 vs hf hv
          cases hf
          obtain ⟨k1, k2⟩ := hG.some hg h
          exact ⟨k1, fun bs2 => k2 bs2⟩
        · rename_i f2 c0 cap vs hf hv
          cases hf
        · cases h
      · cases hk
    · cases hk
  | load => cases hk
  | indexAddr => cases hk
  | alloc => cases hk
  | box => cases hk
  | buildSlice => cases hk
  | move x =>
    simp only [evX, ev] at h ⊢
    obtain ⟨r, hr, he⟩ := Option.map_eq_some_iff.1 h
    cases he
    exact ⟨rfl, fun _ => by rw [hr]; rfl⟩
  | assign x =>
    simp only [evX, ev] at h ⊢
    obtain ⟨r, hr, he⟩ := Option.map_eq_some_iff.1 h
    cases he
    exact ⟨rfl, fun _ => by rw [hr]; rfl⟩
  | nilCheck x =>
    simp only [evX, ev] at h ⊢
    repeat' split at h
    all_goals first
      | (cases h; done)
      | (cases h; exact ⟨rfl, fun _ => rfl⟩)
  | convert s d x =>
    simp only [evX, ev] at h ⊢
    repeat' split at h
    all_goals first
      | (cases h; done)
      | (cases h; exact ⟨rfl, fun _ => rfl⟩)
      | (cases h; rename_i hd; exact ⟨rfl, fun _ => if_pos hd⟩)
  | pick c a b =>
    simp only [evX, ev] at h ⊢
    repeat' split at h
    all_goals first
      | (cases h; done)
      | (obtain ⟨r, hr, he⟩ := Option.map_eq_some_iff.1 h
         cases he
         simp_all)
  | binOp op t x y t' =>
    simp only [evX, ev] at h ⊢
    repeat' split at h
    all_goals first
      | (cases h; done)
      | (obtain ⟨r, hr, he⟩ := Option.map_eq_some_iff.1 h
         cases he
         simp_all)
  | unOp op t x =>
    simp only [evX, ev] at h ⊢
    repeat' split at h
    all_goals first
      | (cases h; done)
      | (obtain ⟨r, hr, he⟩ := Option.map_eq_some_iff.1 h
         cases he
         simp_all)
  | extract x i =>
    simp only [evX, ev] at h ⊢
    repeat' split at h
    all_goals first
      | (cases h; done)
      | (obtain ⟨r, hr, he⟩ := Option.map_eq_some_iff.1 h
         cases he
         simp_all)
  | build t ps =>
    simp only [evX, ev] at h ⊢
    repeat' split at h
    all_goals first
      | (cases h; done)
      | (obtain ⟨r, hr, he⟩ := Option.map_eq_some_iff.1 h
         cases he
         simp_all)
  | fieldAddr t x f =>
    simp only [evX, ev] at h ⊢
    repeat' split at h
    all_goals first
      | (cases h; done)
      | (obtain ⟨r, hr, he⟩ := Option.map_eq_some_iff.1 h
         cases he
         simp_all)
  | index t x i =>
    simp only [evX, ev] at h ⊢
    repeat' split at h
    all_goals first
      | (cases h; done)
      | (obtain ⟨r, hr, he⟩ := Option.map_eq_some_iff.1 h
         cases he
         simp_all)
  | _ => cases hk

/-- A read leaves the boxes, and more boxes at the end do not change it. -/
theorem ev_read {G : FuncId → Bool} {op : Op} (hk : kindOf G op = .read) {bs' : List Bx} {v : V} (h : evX L C op ts bs = some (v, bs')) : bs' = bs ∧ ∀ l, evX L C op ts (bs ++ l) = some (v, bs ++ l) := by
  cases op with
  | load t a =>
    simp only [evX, ev] at h ⊢
    split at h
    · rename_i p n b hp hc
      split at h
      · rename_i cs hr
        obtain ⟨r, hv, he⟩ := Option.map_eq_some_iff.1 h
        cases he
        exact ⟨rfl, fun l => by rw [rd_app hr]; simp only; rw [hv]; rfl⟩
      · cases h
    · cases h
  | indexAddr t x i =>
    simp only [evX, ev] at h ⊢
    split at h
    · split at h
      · rename_i h0
        obtain ⟨r, hv, he⟩ := Option.map_eq_some_iff.1 h
        cases he
        exact ⟨rfl, fun l => by rw [if_pos h0, idx_app hv]; rfl⟩
      · cases h
    · split at h
      · split at h
        · rename_i h0
          cases h
          exact ⟨rfl, fun l => if_pos h0⟩
        · cases h
      · cases h
    · cases h
  | call c =>
    obtain ⟨cal, args, tys⟩ := c
    cases cal with
    | value f =>
      unfold kindOf at hk
      simp only at hk
      split at hk
      · rename_i h0; cases h0
      · split at hk <;> cases hk
      · cases hk
    | invoke r m => cases hk
    | builtin b =>
      simp only [evX] at h ⊢
      cases b with
      | len =>
        unfold evCall at h ⊢
        simp only at h ⊢
        split at h
        · split at h
          · split at h
            · rename_i hst
              cases h
              exact ⟨rfl, fun l => by rw [if_pos hst]⟩
            · cases h
          · split at h
            · rename_i q' hsl
              cases h
              exact ⟨rfl, fun _ => rfl⟩
            · cases h
          · split at h
            · rename_i q xs hsl hv
              cases h
              exact ⟨rfl, fun l => by rw [hsl, view_app hv]⟩
            · cases h
          · cases h
        all_goals first
          | (cases h; done)
          | (rename_i hh _ _
             cases hh; done)
          | (rename_i hh _
             cases hh; done)
      | _ => cases hk
  | _ => cases hk

/-- An operation that makes a box sets it at the end. -/
theorem ev_grow {G : FuncId → Bool} {op : Op} (hk : kindOf G op = .grow) {bs' : List Bx} {v : V} (h : evX L C op ts bs = some (v, bs')) : ∃ l, bs' = bs ++ l := by
  cases op with
  | alloc t =>
    simp only [evX, ev] at h
    obtain ⟨r, hv, he⟩ := Option.map_eq_some_iff.1 h
    cases he
    exact ⟨_, rfl⟩
  | box t x =>
    simp only [evX, ev] at h
    split at h
    · obtain ⟨r, hv, he⟩ := Option.map_eq_some_iff.1 h
      cases he
      exact ⟨_, rfl⟩
    · cases h
  | buildSlice t n ps =>
    simp only [evX, ev] at h
    repeat' split at h
    all_goals first
      | (cases h; done)
      | (cases h; exact ⟨_, rfl⟩)
  | call c =>
    unfold kindOf at hk
    simp only at hk
    repeat' split at hk
    all_goals cases hk
  | _ => cases hk

end

end Go.Proofs.YtiefcnghjcafbaaDoorV
