/- The tables of this translation's types, as the calculus of values wants them; each row is held against the program by the kernel. Printed by gen_lay.py. -/
import Derived.Test.YtiefcnghjcafbaaDoorProg
import Derived.Test.YtiefcnghjcafbaaDoorV3
namespace Go.Proofs.YtiefcnghjcafbaaDoorV
open Go Go.RowKit

def lay : Lay where
  sl := fun t => match t with
    | 22 => some (45, 3)
    | 48 => some (9, 1)
    | _ => none
  off := fun t => match t with
    | 45 => some [(0, 1), (1, 1), (2, 1)]
    | 121 => some [(0, 1), (1, 1)]
    | _ => none
  cel := fun t => match t with
    | 1 => some (1, false)
    | 2 => some (1, false)
    | 3 => some (1, false)
    | 4 => some (1, false)
    | 5 => some (1, false)
    | 9 => some (1, false)
    | 12 => some (1, false)
    | 15 => some (1, false)
    | 16 => some (1, false)
    | 17 => some (1, false)
    | 21 => some (1, false)
    | 22 => some (1, false)
    | 23 => some (1, false)
    | 24 => some (1, false)
    | 25 => some (1, false)
    | 26 => some (1, false)
    | 27 => some (1, false)
    | 28 => some (1, false)
    | 29 => some (1, false)
    | 30 => some (1, false)
    | 32 => some (1, false)
    | 34 => some (1, false)
    | 35 => some (1, false)
    | 36 => some (1, false)
    | 38 => some (1, false)
    | 40 => some (1, false)
    | 41 => some (1, false)
    | 42 => some (1, false)
    | 43 => some (1, false)
    | 45 => some (3, true)
    | 47 => some (1, false)
    | 48 => some (1, false)
    | 50 => some (1, false)
    | 52 => some (1, false)
    | 53 => some (1, false)
    | 54 => some (1, false)
    | 55 => some (1, false)
    | 56 => some (1, false)
    | 57 => some (1, false)
    | 58 => some (1, false)
    | 59 => some (1, false)
    | 60 => some (1, false)
    | 61 => some (1, false)
    | 62 => some (1, false)
    | 63 => some (1, false)
    | 64 => some (1, false)
    | 65 => some (1, false)
    | 66 => some (1, false)
    | 67 => some (1, false)
    | 68 => some (1, false)
    | 69 => some (1, false)
    | 70 => some (1, false)
    | 71 => some (1, false)
    | 72 => some (1, false)
    | 73 => some (1, false)
    | 74 => some (1, false)
    | 75 => some (1, false)
    | 76 => some (1, false)
    | 77 => some (1, false)
    | 78 => some (1, false)
    | 79 => some (1, false)
    | 80 => some (1, false)
    | 81 => some (1, false)
    | 82 => some (1, false)
    | 83 => some (1, false)
    | 84 => some (1, false)
    | 85 => some (1, false)
    | 86 => some (1, false)
    | 88 => some (1, false)
    | 89 => some (1, false)
    | 90 => some (1, false)
    | 92 => some (1, false)
    | 93 => some (1, false)
    | 94 => some (1, false)
    | 95 => some (1, false)
    | 96 => some (1, false)
    | 98 => some (1, false)
    | 99 => some (1, false)
    | 100 => some (1, false)
    | 101 => some (256, true)
    | 102 => some (256, true)
    | 104 => some (1, false)
    | 105 => some (1, false)
    | 106 => some (1, false)
    | 107 => some (1, false)
    | 108 => some (1, false)
    | 109 => some (1, false)
    | 110 => some (1, false)
    | 111 => some (1, false)
    | 112 => some (1, false)
    | 113 => some (1, false)
    | 114 => some (1, false)
    | 115 => some (1, false)
    | 116 => some (1, false)
    | 118 => some (1, false)
    | 119 => some (256, true)
    | 121 => some (2, true)
    | 122 => some (32, true)
    | 124 => some (1, false)
    | 125 => some (1, false)
    | 131 => some (1, false)
    | 134 => some (1, false)
    | 135 => some (1, false)
    | _ => none
  zero := fun t => match t with
    | 1 => some [.val .nilFunc]
    | 2 => some [.val (.int .i64 0)]
    | 3 => some [.val (.int .i64 0)]
    | 4 => some [.val (.bool false)]
    | 5 => some [.val (.int .u8 0)]
    | 9 => some [.val (.string ⟨#[]⟩)]
    | 12 => some [.val (.int .u64 0)]
    | 15 => some [.val (.pointer none)]
    | 16 => some [.val (.pointer none)]
    | 17 => some [.val (.pointer none)]
    | 21 => some [.val (.int .i32 0)]
    | 22 => some [.nils]
    | 23 => some [.val .nilFunc]
    | 24 => some [.val .nilFunc]
    | 25 => some [.val (.int .i64 0)]
    | 26 => some [.val .nilFunc]
    | 27 => some [.val .nilFunc]
    | 28 => some [.val .nilFunc]
    | 29 => some [.val .nilFunc]
    | 30 => some [.val .nilFunc]
    | 32 => some [.val .nilFunc]
    | 34 => some [.val .nilFunc]
    | 35 => some [.val .nilFunc]
    | 36 => some [.val .nilFunc]
    | 38 => some [.val .nilFunc]
    | 40 => some [.val .nilFunc]
    | 41 => some [.val .nilFunc]
    | 42 => some [.val .nilFunc]
    | 43 => some [.val .nilFunc]
    | 45 => some [.val (.string ⟨#[]⟩), .val (.bool false), .val (.string ⟨#[]⟩)]
    | 47 => some [.val .nilFunc]
    | 48 => some [.nils]
    | 50 => some [.val .nilFunc]
    | 52 => some [.val .nilFunc]
    | 53 => some [.val .nilFunc]
    | 54 => some [.val .nilFunc]
    | 55 => some [.val .nilFunc]
    | 56 => some [.val .nilFunc]
    | 57 => some [.val .nilFunc]
    | 58 => some [.val .nilFunc]
    | 59 => some [.val .nilFunc]
    | 60 => some [.val .nilFunc]
    | 61 => some [.val .nilFunc]
    | 62 => some [.val .nilFunc]
    | 63 => some [.val .nilFunc]
    | 64 => some [.val .nilFunc]
    | 65 => some [.val .nilFunc]
    | 66 => some [.val .nilFunc]
    | 67 => some [.val .nilFunc]
    | 68 => some [.val .nilFunc]
    | 69 => some [.val .nilFunc]
    | 70 => some [.val .nilFunc]
    | 71 => some [.val .nilFunc]
    | 72 => some [.val .nilFunc]
    | 73 => some [.val .nilFunc]
    | 74 => some [.val .nilFunc]
    | 75 => some [.val .nilFunc]
    | 76 => some [.val .nilFunc]
    | 77 => some [.val .nilFunc]
    | 78 => some [.val .nilFunc]
    | 79 => some [.val .nilFunc]
    | 80 => some [.val .nilFunc]
    | 81 => some [.val (.int .u64 0)]
    | 82 => some [.val .nilFunc]
    | 83 => some [.val .nilFunc]
    | 84 => some [.val .nilFunc]
    | 85 => some [.val .nilFunc]
    | 86 => some [.val (.int .i64 0)]
    | 88 => some [.val .nilFunc]
    | 89 => some [.val .nilFunc]
    | 90 => some [.val .nilFunc]
    | 92 => some [.val .nilFunc]
    | 93 => some [.val .nilFunc]
    | 94 => some [.val (.int .u32 0)]
    | 95 => some [.val .nilFunc]
    | 96 => some [.val (.int .u64 0)]
    | 98 => some [.val .nilFunc]
    | 99 => some [.val .nilFunc]
    | 100 => some [.val .nilFunc]
    | 101 => some [.val (.bool false), .val (.bool false), .val (.bool false), .val (.bool false), .val (.bool false), .val (.bool false), .val (.bool false), .val (.bool false), .val (.bool false), .val (.bool false), .val (.bool false), .val (.bool false), .val (.bool false), .val (.bool false), .val (.bool false), .val (.bool false), .val (.bool false), .val (.bool false), .val (.bool false), .val (.bool false), .val (.bool false), .val (.bool false), .val (.bool false), .val (.bool false), .val (.bool false), .val (.bool false), .val (.bool false), .val (.bool false), .val (.bool false), .val (.bool false), .val (.bool false), .val (.bool false), .val (.bool false), .val (.bool false), .val (.bool false), .val (.bool false), .val (.bool false), .val (.bool false), .val (.bool false), .val (.bool false), .val (.bool false), .val (.bool false), .val (.bool false), .val (.bool false), .val (.bool false), .val (.bool false), .val (.bool false), .val (.bool false), .val (.bool false), .val (.bool false), .val (.bool false), .val (.bool false), .val (.bool false), .val (.bool false), .val (.bool false), .val (.bool false), .val (.bool false), .val (.bool false), .val (.bool false), .val (.bool false), .val (.bool false), .val (.bool false), .val (.bool false), .val (.bool false), .val (.bool false), .val (.bool false), .val (.bool false), .val (.bool false), .val (.bool false), .val (.bool false), .val (.bool false), .val (.bool false), .val (.bool false), .val (.bool false), .val (.bool false), .val (.bool false), .val (.bool false), .val (.bool false), .val (.bool false), .val (.bool false), .val (.bool false), .val (.bool false), .val (.bool false), .val (.bool false), .val (.bool false), .val (.bool false), .val (.bool false), .val (.bool false), .val (.bool false), .val (.bool false), .val (.bool false), .val (.bool false), .val (.bool false), .val (.bool false), .val (.bool false), .val (.bool false), .val (.bool false), .val (.bool false), .val (.bool false), .val (.bool false), .val (.bool false), .val (.bool false), .val (.bool false), .val (.bool false), .val (.bool false), .val (.bool false), .val (.bool false), .val (.bool false), .val (.bool false), .val (.bool false), .val (.bool false), .val (.bool false), .val (.bool false), .val (.bool false), .val (.bool false), .val (.bool false), .val (.bool false), .val (.bool false), .val (.bool false), .val (.bool false), .val (.bool false), .val (.bool false), .val (.bool false), .val (.bool false), .val (.bool false), .val (.bool false), .val (.bool false), .val (.bool false), .val (.bool false), .val (.bool false), .val (.bool false), .val (.bool false), .val (.bool false), .val (.bool false), .val (.bool false), .val (.bool false), .val (.bool false), .val (.bool false), .val (.bool false), .val (.bool false), .val (.bool false), .val (.bool false), .val (.bool false), .val (.bool false), .val (.bool false), .val (.bool false), .val (.bool false), .val (.bool false), .val (.bool false), .val (.bool false), .val (.bool false), .val (.bool false), .val (.bool false), .val (.bool false), .val (.bool false), .val (.bool false), .val (.bool false), .val (.bool false), .val (.bool false), .val (.bool false), .val (.bool false), .val (.bool false), .val (.bool false), .val (.bool false), .val (.bool false), .val (.bool false), .val (.bool false), .val (.bool false), .val (.bool false), .val (.bool false), .val (.bool false), .val (.bool false), .val (.bool false), .val (.bool false), .val (.bool false), .val (.bool false), .val (.bool false), .val (.bool false), .val (.bool false), .val (.bool false), .val (.bool false), .val (.bool false), .val (.bool false), .val (.bool false), .val (.bool false), .val (.bool false), .val (.bool false), .val (.bool false), .val (.bool false), .val (.bool false), .val (.bool false), .val (.bool false), .val (.bool false), .val (.bool false), .val (.bool false), .val (.bool false), .val (.bool false), .val (.bool false), .val (.bool false), .val (.bool false), .val (.bool false), .val (.bool false), .val (.bool false), .val (.bool false), .val (.bool false), .val (.bool false), .val (.bool false), .val (.bool false), .val (.bool false), .val (.bool false), .val (.bool false), .val (.bool false), .val (.bool false), .val (.bool false), .val (.bool false), .val (.bool false), .val (.bool false), .val (.bool false), .val (.bool false), .val (.bool false), .val (.bool false), .val (.bool false), .val (.bool false), .val (.bool false), .val (.bool false), .val (.bool false), .val (.bool false), .val (.bool false), .val (.bool false), .val (.bool false), .val (.bool false), .val (.bool false), .val (.bool false), .val (.bool false), .val (.bool false), .val (.bool false), .val (.bool false), .val (.bool false), .val (.bool false), .val (.bool false), .val (.bool false), .val (.bool false), .val (.bool false), .val (.bool false), .val (.bool false), .val (.bool false), .val (.bool false), .val (.bool false), .val (.bool false), .val (.bool false), .val (.bool false), .val (.bool false), .val (.bool false), .val (.bool false), .val (.bool false), .val (.bool false)]
    | 102 => some [.val (.bool false), .val (.bool false), .val (.bool false), .val (.bool false), .val (.bool false), .val (.bool false), .val (.bool false), .val (.bool false), .val (.bool false), .val (.bool false), .val (.bool false), .val (.bool false), .val (.bool false), .val (.bool false), .val (.bool false), .val (.bool false), .val (.bool false), .val (.bool false), .val (.bool false), .val (.bool false), .val (.bool false), .val (.bool false), .val (.bool false), .val (.bool false), .val (.bool false), .val (.bool false), .val (.bool false), .val (.bool false), .val (.bool false), .val (.bool false), .val (.bool false), .val (.bool false), .val (.bool false), .val (.bool false), .val (.bool false), .val (.bool false), .val (.bool false), .val (.bool false), .val (.bool false), .val (.bool false), .val (.bool false), .val (.bool false), .val (.bool false), .val (.bool false), .val (.bool false), .val (.bool false), .val (.bool false), .val (.bool false), .val (.bool false), .val (.bool false), .val (.bool false), .val (.bool false), .val (.bool false), .val (.bool false), .val (.bool false), .val (.bool false), .val (.bool false), .val (.bool false), .val (.bool false), .val (.bool false), .val (.bool false), .val (.bool false), .val (.bool false), .val (.bool false), .val (.bool false), .val (.bool false), .val (.bool false), .val (.bool false), .val (.bool false), .val (.bool false), .val (.bool false), .val (.bool false), .val (.bool false), .val (.bool false), .val (.bool false), .val (.bool false), .val (.bool false), .val (.bool false), .val (.bool false), .val (.bool false), .val (.bool false), .val (.bool false), .val (.bool false), .val (.bool false), .val (.bool false), .val (.bool false), .val (.bool false), .val (.bool false), .val (.bool false), .val (.bool false), .val (.bool false), .val (.bool false), .val (.bool false), .val (.bool false), .val (.bool false), .val (.bool false), .val (.bool false), .val (.bool false), .val (.bool false), .val (.bool false), .val (.bool false), .val (.bool false), .val (.bool false), .val (.bool false), .val (.bool false), .val (.bool false), .val (.bool false), .val (.bool false), .val (.bool false), .val (.bool false), .val (.bool false), .val (.bool false), .val (.bool false), .val (.bool false), .val (.bool false), .val (.bool false), .val (.bool false), .val (.bool false), .val (.bool false), .val (.bool false), .val (.bool false), .val (.bool false), .val (.bool false), .val (.bool false), .val (.bool false), .val (.bool false), .val (.bool false), .val (.bool false), .val (.bool false), .val (.bool false), .val (.bool false), .val (.bool false), .val (.bool false), .val (.bool false), .val (.bool false), .val (.bool false), .val (.bool false), .val (.bool false), .val (.bool false), .val (.bool false), .val (.bool false), .val (.bool false), .val (.bool false), .val (.bool false), .val (.bool false), .val (.bool false), .val (.bool false), .val (.bool false), .val (.bool false), .val (.bool false), .val (.bool false), .val (.bool false), .val (.bool false), .val (.bool false), .val (.bool false), .val (.bool false), .val (.bool false), .val (.bool false), .val (.bool false), .val (.bool false), .val (.bool false), .val (.bool false), .val (.bool false), .val (.bool false), .val (.bool false), .val (.bool false), .val (.bool false), .val (.bool false), .val (.bool false), .val (.bool false), .val (.bool false), .val (.bool false), .val (.bool false), .val (.bool false), .val (.bool false), .val (.bool false), .val (.bool false), .val (.bool false), .val (.bool false), .val (.bool false), .val (.bool false), .val (.bool false), .val (.bool false), .val (.bool false), .val (.bool false), .val (.bool false), .val (.bool false), .val (.bool false), .val (.bool false), .val (.bool false), .val (.bool false), .val (.bool false), .val (.bool false), .val (.bool false), .val (.bool false), .val (.bool false), .val (.bool false), .val (.bool false), .val (.bool false), .val (.bool false), .val (.bool false), .val (.bool false), .val (.bool false), .val (.bool false), .val (.bool false), .val (.bool false), .val (.bool false), .val (.bool false), .val (.bool false), .val (.bool false), .val (.bool false), .val (.bool false), .val (.bool false), .val (.bool false), .val (.bool false), .val (.bool false), .val (.bool false), .val (.bool false), .val (.bool false), .val (.bool false), .val (.bool false), .val (.bool false), .val (.bool false), .val (.bool false), .val (.bool false), .val (.bool false), .val (.bool false), .val (.bool false), .val (.bool false), .val (.bool false), .val (.bool false), .val (.bool false), .val (.bool false), .val (.bool false), .val (.bool false), .val (.bool false), .val (.bool false), .val (.bool false), .val (.bool false), .val (.bool false), .val (.bool false), .val (.bool false), .val (.bool false), .val (.bool false), .val (.bool false), .val (.bool false), .val (.bool false), .val (.bool false), .val (.bool false), .val (.bool false), .val (.bool false), .val (.bool false), .val (.bool false), .val (.bool false), .val (.bool false), .val (.bool false)]
    | 104 => some [.val .nilFunc]
    | 105 => some [.val .nilFunc]
    | 106 => some [.val (.int .u64 0)]
    | 107 => some [.val .nilFunc]
    | 108 => some [.val .nilFunc]
    | 109 => some [.val .nilFunc]
    | 110 => some [.val (.pointer none)]
    | 111 => some [.val .nilFunc]
    | 112 => some [.val .nilFunc]
    | 113 => some [.val .nilFunc]
    | 114 => some [.val (.pointer none)]
    | 115 => some [.val .nilFunc]
    | 116 => some [.val (.pointer none)]
    | 118 => some [.val .nilFunc]
    | 119 => some [.val (.int .u8 0), .val (.int .u8 0), .val (.int .u8 0), .val (.int .u8 0), .val (.int .u8 0), .val (.int .u8 0), .val (.int .u8 0), .val (.int .u8 0), .val (.int .u8 0), .val (.int .u8 0), .val (.int .u8 0), .val (.int .u8 0), .val (.int .u8 0), .val (.int .u8 0), .val (.int .u8 0), .val (.int .u8 0), .val (.int .u8 0), .val (.int .u8 0), .val (.int .u8 0), .val (.int .u8 0), .val (.int .u8 0), .val (.int .u8 0), .val (.int .u8 0), .val (.int .u8 0), .val (.int .u8 0), .val (.int .u8 0), .val (.int .u8 0), .val (.int .u8 0), .val (.int .u8 0), .val (.int .u8 0), .val (.int .u8 0), .val (.int .u8 0), .val (.int .u8 0), .val (.int .u8 0), .val (.int .u8 0), .val (.int .u8 0), .val (.int .u8 0), .val (.int .u8 0), .val (.int .u8 0), .val (.int .u8 0), .val (.int .u8 0), .val (.int .u8 0), .val (.int .u8 0), .val (.int .u8 0), .val (.int .u8 0), .val (.int .u8 0), .val (.int .u8 0), .val (.int .u8 0), .val (.int .u8 0), .val (.int .u8 0), .val (.int .u8 0), .val (.int .u8 0), .val (.int .u8 0), .val (.int .u8 0), .val (.int .u8 0), .val (.int .u8 0), .val (.int .u8 0), .val (.int .u8 0), .val (.int .u8 0), .val (.int .u8 0), .val (.int .u8 0), .val (.int .u8 0), .val (.int .u8 0), .val (.int .u8 0), .val (.int .u8 0), .val (.int .u8 0), .val (.int .u8 0), .val (.int .u8 0), .val (.int .u8 0), .val (.int .u8 0), .val (.int .u8 0), .val (.int .u8 0), .val (.int .u8 0), .val (.int .u8 0), .val (.int .u8 0), .val (.int .u8 0), .val (.int .u8 0), .val (.int .u8 0), .val (.int .u8 0), .val (.int .u8 0), .val (.int .u8 0), .val (.int .u8 0), .val (.int .u8 0), .val (.int .u8 0), .val (.int .u8 0), .val (.int .u8 0), .val (.int .u8 0), .val (.int .u8 0), .val (.int .u8 0), .val (.int .u8 0), .val (.int .u8 0), .val (.int .u8 0), .val (.int .u8 0), .val (.int .u8 0), .val (.int .u8 0), .val (.int .u8 0), .val (.int .u8 0), .val (.int .u8 0), .val (.int .u8 0), .val (.int .u8 0), .val (.int .u8 0), .val (.int .u8 0), .val (.int .u8 0), .val (.int .u8 0), .val (.int .u8 0), .val (.int .u8 0), .val (.int .u8 0), .val (.int .u8 0), .val (.int .u8 0), .val (.int .u8 0), .val (.int .u8 0), .val (.int .u8 0), .val (.int .u8 0), .val (.int .u8 0), .val (.int .u8 0), .val (.int .u8 0), .val (.int .u8 0), .val (.int .u8 0), .val (.int .u8 0), .val (.int .u8 0), .val (.int .u8 0), .val (.int .u8 0), .val (.int .u8 0), .val (.int .u8 0), .val (.int .u8 0), .val (.int .u8 0), .val (.int .u8 0), .val (.int .u8 0), .val (.int .u8 0), .val (.int .u8 0), .val (.int .u8 0), .val (.int .u8 0), .val (.int .u8 0), .val (.int .u8 0), .val (.int .u8 0), .val (.int .u8 0), .val (.int .u8 0), .val (.int .u8 0), .val (.int .u8 0), .val (.int .u8 0), .val (.int .u8 0), .val (.int .u8 0), .val (.int .u8 0), .val (.int .u8 0), .val (.int .u8 0), .val (.int .u8 0), .val (.int .u8 0), .val (.int .u8 0), .val (.int .u8 0), .val (.int .u8 0), .val (.int .u8 0), .val (.int .u8 0), .val (.int .u8 0), .val (.int .u8 0), .val (.int .u8 0), .val (.int .u8 0), .val (.int .u8 0), .val (.int .u8 0), .val (.int .u8 0), .val (.int .u8 0), .val (.int .u8 0), .val (.int .u8 0), .val (.int .u8 0), .val (.int .u8 0), .val (.int .u8 0), .val (.int .u8 0), .val (.int .u8 0), .val (.int .u8 0), .val (.int .u8 0), .val (.int .u8 0), .val (.int .u8 0), .val (.int .u8 0), .val (.int .u8 0), .val (.int .u8 0), .val (.int .u8 0), .val (.int .u8 0), .val (.int .u8 0), .val (.int .u8 0), .val (.int .u8 0), .val (.int .u8 0), .val (.int .u8 0), .val (.int .u8 0), .val (.int .u8 0), .val (.int .u8 0), .val (.int .u8 0), .val (.int .u8 0), .val (.int .u8 0), .val (.int .u8 0), .val (.int .u8 0), .val (.int .u8 0), .val (.int .u8 0), .val (.int .u8 0), .val (.int .u8 0), .val (.int .u8 0), .val (.int .u8 0), .val (.int .u8 0), .val (.int .u8 0), .val (.int .u8 0), .val (.int .u8 0), .val (.int .u8 0), .val (.int .u8 0), .val (.int .u8 0), .val (.int .u8 0), .val (.int .u8 0), .val (.int .u8 0), .val (.int .u8 0), .val (.int .u8 0), .val (.int .u8 0), .val (.int .u8 0), .val (.int .u8 0), .val (.int .u8 0), .val (.int .u8 0), .val (.int .u8 0), .val (.int .u8 0), .val (.int .u8 0), .val (.int .u8 0), .val (.int .u8 0), .val (.int .u8 0), .val (.int .u8 0), .val (.int .u8 0), .val (.int .u8 0), .val (.int .u8 0), .val (.int .u8 0), .val (.int .u8 0), .val (.int .u8 0), .val (.int .u8 0), .val (.int .u8 0), .val (.int .u8 0), .val (.int .u8 0), .val (.int .u8 0), .val (.int .u8 0), .val (.int .u8 0), .val (.int .u8 0), .val (.int .u8 0), .val (.int .u8 0), .val (.int .u8 0), .val (.int .u8 0), .val (.int .u8 0), .val (.int .u8 0), .val (.int .u8 0), .val (.int .u8 0), .val (.int .u8 0), .val (.int .u8 0), .val (.int .u8 0), .val (.int .u8 0), .val (.int .u8 0), .val (.int .u8 0), .val (.int .u8 0), .val (.int .u8 0), .val (.int .u8 0), .val (.int .u8 0), .val (.int .u8 0), .val (.int .u8 0), .val (.int .u8 0), .val (.int .u8 0), .val (.int .u8 0)]
    | 121 => some [.val (.int .u8 0), .val (.int .u8 0)]
    | 122 => some [.val (.int .u8 0), .val (.int .u8 0), .val (.int .u8 0), .val (.int .u8 0), .val (.int .u8 0), .val (.int .u8 0), .val (.int .u8 0), .val (.int .u8 0), .val (.int .u8 0), .val (.int .u8 0), .val (.int .u8 0), .val (.int .u8 0), .val (.int .u8 0), .val (.int .u8 0), .val (.int .u8 0), .val (.int .u8 0), .val (.int .u8 0), .val (.int .u8 0), .val (.int .u8 0), .val (.int .u8 0), .val (.int .u8 0), .val (.int .u8 0), .val (.int .u8 0), .val (.int .u8 0), .val (.int .u8 0), .val (.int .u8 0), .val (.int .u8 0), .val (.int .u8 0), .val (.int .u8 0), .val (.int .u8 0), .val (.int .u8 0), .val (.int .u8 0)]
    | 124 => some [.val .nilFunc]
    | 125 => some [.val .nilFunc]
    | 131 => some [.val .nilFunc]
    | 134 => some [.val .nilFunc]
    | 135 => some [.val (.pointer none)]
    | _ => none
  byt := fun t => match t with
    | 1 => some 8
    | 2 => some 8
    | 3 => some 8
    | 4 => some 1
    | 5 => some 1
    | 9 => some 16
    | 12 => some 8
    | 15 => some 8
    | 16 => some 8
    | 17 => some 8
    | 21 => some 4
    | 22 => some 24
    | 23 => some 8
    | 24 => some 8
    | 25 => some 8
    | 26 => some 8
    | 27 => some 8
    | 28 => some 8
    | 29 => some 8
    | 30 => some 8
    | 32 => some 8
    | 34 => some 8
    | 35 => some 8
    | 36 => some 8
    | 38 => some 8
    | 40 => some 8
    | 41 => some 8
    | 42 => some 8
    | 43 => some 8
    | 45 => some 40
    | 47 => some 8
    | 48 => some 24
    | 50 => some 8
    | 52 => some 8
    | 53 => some 8
    | 54 => some 8
    | 55 => some 8
    | 56 => some 8
    | 57 => some 8
    | 58 => some 8
    | 59 => some 8
    | 60 => some 8
    | 61 => some 8
    | 62 => some 8
    | 63 => some 8
    | 64 => some 8
    | 65 => some 8
    | 66 => some 8
    | 67 => some 8
    | 68 => some 8
    | 69 => some 8
    | 70 => some 8
    | 71 => some 8
    | 72 => some 8
    | 73 => some 8
    | 74 => some 8
    | 75 => some 8
    | 76 => some 8
    | 77 => some 8
    | 78 => some 8
    | 79 => some 8
    | 80 => some 8
    | 81 => some 8
    | 82 => some 8
    | 83 => some 8
    | 84 => some 8
    | 85 => some 8
    | 86 => some 8
    | 88 => some 8
    | 89 => some 8
    | 90 => some 8
    | 92 => some 8
    | 93 => some 8
    | 94 => some 4
    | 95 => some 8
    | 96 => some 8
    | 98 => some 8
    | 99 => some 8
    | 100 => some 8
    | 101 => some 256
    | 102 => some 256
    | 104 => some 8
    | 105 => some 8
    | 106 => some 8
    | 107 => some 8
    | 108 => some 8
    | 109 => some 8
    | 110 => some 8
    | 111 => some 8
    | 112 => some 8
    | 113 => some 8
    | 114 => some 8
    | 115 => some 8
    | 116 => some 8
    | 118 => some 8
    | 119 => some 256
    | 121 => some 2
    | 122 => some 32
    | 124 => some 8
    | 125 => some 8
    | 131 => some 8
    | 134 => some 8
    | 135 => some 8
    | _ => none
  bool := fun t => t == 4
  str := fun t => t == 9
  int := fun t => match t with
    | 2 => some .i64
    | 3 => some .i64
    | 5 => some .u8
    | 12 => some .u64
    | 21 => some .i32
    | 25 => some .i64
    | 81 => some .u64
    | 86 => some .i64
    | 94 => some .u32
    | 96 => some .u64
    | 106 => some .u64
    | _ => none
  eqs := fun t => match t with
    | 45 => some [9, 4, 9]
    | 121 => some [5, 5]
    | _ => none
  arr := fun t => match t with
    | 101 => some (256, 1)
    | 102 => some (256, 1)
    | 119 => some (256, 1)
    | 122 => some (16, 2)
    | _ => none

set_option maxRecDepth 100000 in
set_option maxHeartbeats 4000000 in
theorem layOk : LayOk Tryd.prog lay where
  sl := by
    intro t e n h
    simp only [lay] at h
    split at h
    all_goals first
      | (cases h; done)
      | (cases h; exact ⟨by kernel_rfl, by kernel_rfl, by decide⟩)
  off0 := by
    intro t l h
    simp only [lay] at h
    split at h
    all_goals first
      | (cases h; done)
      | (cases h; kernel_rfl)
  cel0 := by
    intro t n b h
    simp only [lay] at h
    split at h
    all_goals first
      | (cases h; done)
      | (cases h; exact ⟨by kernel_rfl, by kernel_rfl, by decide⟩)
  zero0 := by
    intro t l h
    simp only [lay] at h
    split at h
    all_goals first
      | (cases h; done)
      | (cases h; kernel_rfl)
  byt0 := by
    intro e n h
    simp only [lay] at h
    split at h
    all_goals first
      | (cases h; done)
      | (cases h; kernel_rfl)
  bool := by
    intro t h
    simp only [lay, Bool.or_eq_true, beq_iff_eq] at h
    rcases h with rfl
    all_goals kernel_rfl
  str := by
    intro t h
    simp only [lay, Bool.or_eq_true, beq_iff_eq] at h
    rcases h with rfl
    all_goals kernel_rfl
  int := by
    intro t k h
    simp only [lay] at h
    split at h
    all_goals first
      | (cases h; done)
      | (cases h; kernel_rfl)
  eqs := by
    intro t l h
    simp only [lay] at h
    split at h
    all_goals first
      | (cases h; done)
      | (cases h; exact ⟨by kernel_rfl, by kernel_rfl, by kernel_rfl⟩)
  arr0 := by
    intro t n k h
    simp only [lay] at h
    split at h
    all_goals first
      | (cases h; done)
      | (cases h; kernel_rfl)

end Go.Proofs.YtiefcnghjcafbaaDoorV
