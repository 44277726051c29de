/- The tables of this translation's types, as the calculus of values wants them; each row is held against the program by the kernel. Printed by gen_lay.py. -/
import Derived.Test.YtbkjiglbkckhmaaProg
import Derived.Test.YtbkjiglbkckhmaaV3
namespace Go.Proofs.YtbkjiglbkckhmaaV
open Go Go.RowKit

def lay : Lay where
  sl := fun t => match t with
    | 22 => some (115, 5)
    | 23 => some (9, 1)
    | 24 => some (123, 10)
    | 25 => some (125, 2)
    | 26 => some (127, 2)
    | 32 => some (3, 1)
    | 42 => some (64, 12)
    | 49 => some (81, 5)
    | 50 => some (62, 6)
    | 77 => some (129, 5)
    | 116 => some (132, 4)
    | 117 => some (79, 2)
    | 118 => some (121, 9)
    | 119 => some (134, 2)
    | _ => none
  off := fun t => match t with
    | 28 => some [(0, 1), (1, 1)]
    | 30 => some [(0, 1), (1, 1), (2, 1), (3, 1), (4, 1), (5, 1), (6, 1), (7, 1), (8, 1), (9, 1), (10, 1), (11, 2), (13, 1), (14, 1)]
    | 34 => some [(0, 1), (1, 1), (2, 1), (3, 1), (4, 1)]
    | 40 => some [(0, 1), (1, 1), (2, 1), (3, 1), (4, 1), (5, 1), (6, 1)]
    | 62 => some [(0, 1), (1, 1), (2, 1), (3, 1), (4, 1), (5, 1)]
    | 64 => some [(0, 1), (1, 1), (2, 1), (3, 1), (4, 1), (5, 1), (6, 1), (7, 1), (8, 1), (9, 1), (10, 1), (11, 1)]
    | 72 => some [(0, 5), (5, 1)]
    | 79 => some [(0, 1), (1, 1)]
    | 81 => some [(0, 1), (1, 1), (2, 1), (3, 2)]
    | 115 => some [(0, 1), (1, 1), (2, 1), (3, 1), (4, 1)]
    | 121 => some [(0, 1), (1, 1), (2, 1), (3, 1), (4, 1), (5, 1), (6, 1), (7, 1), (8, 1)]
    | 123 => some [(0, 1), (1, 9)]
    | 125 => some [(0, 1), (1, 1)]
    | 127 => some [(0, 1), (1, 1)]
    | 129 => some [(0, 1), (1, 1), (2, 1), (3, 1), (4, 1)]
    | 132 => some [(0, 1), (1, 1), (2, 2)]
    | 134 => some [(0, 1), (1, 1)]
    | _ => none
  cel := fun t => match t with
    | 1 => some (1, false)
    | 2 => some (1, false)
    | 3 => some (1, false)
    | 4 => some (1, false)
    | 5 => some (1, false)
    | 9 => some (1, false)
    | 12 => some (1, false)
    | 15 => some (1, false)
    | 16 => some (1, false)
    | 17 => some (1, false)
    | 21 => some (1, false)
    | 22 => some (1, false)
    | 23 => some (1, false)
    | 24 => some (1, false)
    | 25 => some (1, false)
    | 26 => some (1, false)
    | 28 => some (2, true)
    | 30 => some (15, true)
    | 31 => some (1, false)
    | 32 => some (1, false)
    | 34 => some (5, true)
    | 35 => some (1, false)
    | 36 => some (1, false)
    | 37 => some (1, false)
    | 38 => some (1, false)
    | 40 => some (7, true)
    | 41 => some (1, false)
    | 42 => some (1, false)
    | 43 => some (1, false)
    | 44 => some (1, false)
    | 45 => some (1, false)
    | 46 => some (1, false)
    | 47 => some (1, false)
    | 48 => some (1, false)
    | 49 => some (1, false)
    | 50 => some (1, false)
    | 51 => some (1, false)
    | 53 => some (1, false)
    | 55 => some (1, false)
    | 56 => some (1, false)
    | 57 => some (1, false)
    | 59 => some (1, false)
    | 60 => some (1, false)
    | 62 => some (6, true)
    | 64 => some (12, true)
    | 66 => some (1, false)
    | 67 => some (1, false)
    | 68 => some (1, false)
    | 69 => some (1, false)
    | 70 => some (1, false)
    | 72 => some (6, true)
    | 73 => some (1, false)
    | 75 => some (1, false)
    | 76 => some (1, false)
    | 77 => some (1, false)
    | 79 => some (2, true)
    | 81 => some (5, true)
    | 83 => some (1, false)
    | 85 => some (1, false)
    | 86 => some (1, false)
    | 87 => some (1, false)
    | 88 => some (1, false)
    | 89 => some (1, false)
    | 90 => some (1, false)
    | 91 => some (1, false)
    | 92 => some (1, false)
    | 94 => some (1, false)
    | 95 => some (1, false)
    | 96 => some (1, false)
    | 97 => some (1, false)
    | 98 => some (1, false)
    | 104 => some (1, false)
    | 105 => some (1, false)
    | 108 => some (1, false)
    | 109 => some (1, false)
    | 115 => some (5, true)
    | 116 => some (1, false)
    | 117 => some (1, false)
    | 118 => some (1, false)
    | 119 => some (1, false)
    | 121 => some (9, true)
    | 123 => some (10, true)
    | 125 => some (2, true)
    | 127 => some (2, true)
    | 129 => some (5, true)
    | 132 => some (4, true)
    | 134 => some (2, true)
    | _ => none
  zero := fun t => match t with
    | 1 => some [.val .nilFunc]
    | 2 => some [.val (.int .i64 0)]
    | 3 => some [.val (.int .i64 0)]
    | 4 => some [.val (.bool false)]
    | 5 => some [.val (.int .u8 0)]
    | 9 => some [.val (.string ⟨#[]⟩)]
    | 12 => some [.val (.int .u64 0)]
    | 15 => some [.val (.pointer none)]
    | 16 => some [.val (.pointer none)]
    | 17 => some [.val (.pointer none)]
    | 21 => some [.val (.int .i32 0)]
    | 22 => some [.nils]
    | 23 => some [.nils]
    | 24 => some [.nils]
    | 25 => some [.nils]
    | 26 => some [.nils]
    | 28 => some [.val (.int .i64 0), .val (.int .i64 0)]
    | 30 => some [.val (.string ⟨#[]⟩), .nils, .nils, .nils, .nils, .nils, .val (.int .i64 0), .val (.int .i64 0), .val (.int .i64 0), .val (.int .i64 0), .val (.string ⟨#[]⟩), .val (.int .i64 0), .val (.int .i64 0), .val (.int .i64 0), .val (.bool false)]
    | 31 => some [.val .nilFunc]
    | 32 => some [.nils]
    | 34 => some [.val (.bool false), .val (.bool false), .nils, .nils, .val (.bool false)]
    | 35 => some [.val .nilFunc]
    | 36 => some [.val .nilFunc]
    | 37 => some [.val .nilFunc]
    | 38 => some [.val .nilFunc]
    | 40 => some [.val (.int .i64 0), .val (.int .i64 0), .val (.int .i64 0), .nils, .nils, .val (.string ⟨#[]⟩), .val (.bool false)]
    | 41 => some [.val .nilFunc]
    | 42 => some [.nils]
    | 43 => some [.val .nilFunc]
    | 44 => some [.val .nilFunc]
    | 45 => some [.val .nilFunc]
    | 46 => some [.val .nilFunc]
    | 47 => some [.val .nilFunc]
    | 48 => some [.val .nilFunc]
    | 49 => some [.nils]
    | 50 => some [.nils]
    | 51 => some [.val (.int .i64 0)]
    | 53 => some [.val .nilFunc]
    | 55 => some [.val .nilFunc]
    | 56 => some [.val .nilFunc]
    | 57 => some [.val .nilFunc]
    | 59 => some [.val .nilFunc]
    | 60 => some [.val .nilFunc]
    | 62 => some [.val (.int .i64 0), .val (.int .i64 0), .val (.int .i64 0), .val (.int .i64 0), .val (.string ⟨#[]⟩), .val (.string ⟨#[]⟩)]
    | 64 => some [.val (.int .i64 0), .val (.int .i64 0), .val (.int .i64 0), .val (.int .i64 0), .val (.int .i64 0), .val (.int .i64 0), .val (.int .i64 0), .val (.int .i64 0), .val (.string ⟨#[]⟩), .val (.string ⟨#[]⟩), .nils, .nils]
    | 66 => some [.val .nilFunc]
    | 67 => some [.val .nilFunc]
    | 68 => some [.val .nilFunc]
    | 69 => some [.val .nilFunc]
    | 70 => some [.val .nilFunc]
    | 72 => some [.val (.bool false), .val (.bool false), .nils, .nils, .val (.bool false), .nils]
    | 73 => some [.val .nilFunc]
    | 75 => some [.val .nilFunc]
    | 76 => some [.val .nilFunc]
    | 77 => some [.nils]
    | 79 => some [.val (.int .i64 0), .nils]
    | 81 => some [.val (.int .i64 0), .val (.int .i64 0), .val (.int .i64 0), .val (.int .i64 0), .nils]
    | 83 => some [.val .nilFunc]
    | 85 => some [.val .nilFunc]
    | 86 => some [.val .nilFunc]
    | 87 => some [.val .nilFunc]
    | 88 => some [.val .nilFunc]
    | 89 => some [.val .nilFunc]
    | 90 => some [.val (.pointer none)]
    | 91 => some [.val .nilFunc]
    | 92 => some [.val .nilFunc]
    | 94 => some [.val .nilFunc]
    | 95 => some [.val .nilFunc]
    | 96 => some [.val .nilFunc]
    | 97 => some [.val .nilFunc]
    | 98 => some [.val .nilFunc]
    | 104 => some [.val .nilFunc]
    | 105 => some [.val (.int .u32 0)]
    | 108 => some [.val .nilFunc]
    | 109 => some [.val (.pointer none)]
    | 115 => some [.val (.string ⟨#[]⟩), .val (.string ⟨#[]⟩), .val (.bool false), .val (.bool false), .val (.bool false)]
    | 116 => some [.nils]
    | 117 => some [.nils]
    | 118 => some [.nils]
    | 119 => some [.nils]
    | 121 => some [.val (.int .i64 0), .val (.int .i64 0), .val (.string ⟨#[]⟩), .val (.bool false), .nils, .nils, .nils, .nils, .nils]
    | 123 => some [.val (.string ⟨#[]⟩), .val (.int .i64 0), .val (.int .i64 0), .val (.string ⟨#[]⟩), .val (.bool false), .nils, .nils, .nils, .nils, .nils]
    | 125 => some [.val (.string ⟨#[]⟩), .val (.string ⟨#[]⟩)]
    | 127 => some [.val (.int .i64 0), .val (.string ⟨#[]⟩)]
    | 129 => some [.val (.int .i64 0), .val (.string ⟨#[]⟩), .val (.int .i64 0), .val (.bool false), .nils]
    | 132 => some [.val (.int .i64 0), .val (.string ⟨#[]⟩), .val (.int .i64 0), .nils]
    | 134 => some [.nils, .nils]
    | _ => none
  byt := fun t => match t with
    | 1 => some 8
    | 2 => some 8
    | 3 => some 8
    | 4 => some 1
    | 5 => some 1
    | 9 => some 16
    | 12 => some 8
    | 15 => some 8
    | 16 => some 8
    | 17 => some 8
    | 21 => some 4
    | 22 => some 24
    | 23 => some 24
    | 24 => some 24
    | 25 => some 24
    | 26 => some 24
    | 28 => some 16
    | 30 => some 216
    | 31 => some 8
    | 32 => some 24
    | 34 => some 64
    | 35 => some 8
    | 36 => some 8
    | 37 => some 8
    | 38 => some 8
    | 40 => some 96
    | 41 => some 8
    | 42 => some 24
    | 43 => some 8
    | 44 => some 8
    | 45 => some 8
    | 46 => some 8
    | 47 => some 8
    | 48 => some 8
    | 49 => some 24
    | 50 => some 24
    | 51 => some 8
    | 53 => some 8
    | 55 => some 8
    | 56 => some 8
    | 57 => some 8
    | 59 => some 8
    | 60 => some 8
    | 62 => some 64
    | 64 => some 144
    | 66 => some 8
    | 67 => some 8
    | 68 => some 8
    | 69 => some 8
    | 70 => some 8
    | 72 => some 88
    | 73 => some 8
    | 75 => some 8
    | 76 => some 8
    | 77 => some 24
    | 79 => some 32
    | 81 => some 56
    | 83 => some 8
    | 85 => some 8
    | 86 => some 8
    | 87 => some 8
    | 88 => some 8
    | 89 => some 8
    | 90 => some 8
    | 91 => some 8
    | 92 => some 8
    | 94 => some 8
    | 95 => some 8
    | 96 => some 8
    | 97 => some 8
    | 98 => some 8
    | 104 => some 8
    | 105 => some 4
    | 108 => some 8
    | 109 => some 8
    | 115 => some 40
    | 116 => some 24
    | 117 => some 24
    | 118 => some 24
    | 119 => some 24
    | 121 => some 160
    | 123 => some 176
    | 125 => some 32
    | 127 => some 24
    | 129 => some 64
    | 132 => some 56
    | 134 => some 48
    | _ => none
  bool := fun t => t == 4
  str := fun t => t == 9
  int := fun t => match t with
    | 2 => some .i64
    | 3 => some .i64
    | 5 => some .u8
    | 12 => some .u64
    | 21 => some .i32
    | 51 => some .i64
    | 105 => some .u32
    | _ => none
  eqs := fun t => match t with
    | 28 => some [3, 3]
    | 62 => some [3, 3, 3, 3, 9, 9]
    | 115 => some [9, 9, 4, 4, 4]
    | 125 => some [9, 9]
    | 127 => some [3, 9]
    | _ => none

set_option maxRecDepth 100000 in
set_option maxHeartbeats 4000000 in
theorem layOk : LayOk Try.prog lay where
  sl := by
    intro t e n h
    simp only [lay] at h
    split at h
    all_goals first
      | (cases h; done)
      | (cases h; exact ⟨by kernel_rfl, by kernel_rfl, by decide⟩)
  off0 := by
    intro t l h
    simp only [lay] at h
    split at h
    all_goals first
      | (cases h; done)
      | (cases h; kernel_rfl)
  cel0 := by
    intro t n b h
    simp only [lay] at h
    split at h
    all_goals first
      | (cases h; done)
      | (cases h; exact ⟨by kernel_rfl, by kernel_rfl, by decide⟩)
  zero0 := by
    intro t l h
    simp only [lay] at h
    split at h
    all_goals first
      | (cases h; done)
      | (cases h; kernel_rfl)
  byt0 := by
    intro e n h
    simp only [lay] at h
    split at h
    all_goals first
      | (cases h; done)
      | (cases h; kernel_rfl)
  bool := by
    intro t h
    simp only [lay, Bool.or_eq_true, beq_iff_eq] at h
    rcases h with rfl
    all_goals kernel_rfl
  str := by
    intro t h
    simp only [lay, Bool.or_eq_true, beq_iff_eq] at h
    rcases h with rfl
    all_goals kernel_rfl
  int := by
    intro t k h
    simp only [lay] at h
    split at h
    all_goals first
      | (cases h; done)
      | (cases h; kernel_rfl)
  eqs := by
    intro t l h
    simp only [lay] at h
    split at h
    all_goals first
      | (cases h; done)
      | (cases h; exact ⟨by kernel_rfl, by kernel_rfl, by kernel_rfl⟩)

end Go.Proofs.YtbkjiglbkckhmaaV
