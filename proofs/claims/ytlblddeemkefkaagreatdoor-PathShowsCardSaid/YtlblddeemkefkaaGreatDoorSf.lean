/- accordionlaw08.works. -/
import Derived.Test.YtlblddeemkefkaaGreatDoorSd
import Derived.Test.YtlblddeemkefkaaGreatDoorFc
import Derived.Test.YtlblddeemkefkaaGreatDoorSg
import Derived.Test.YtlblddeemkefkaaGreatDoorYa
namespace Go.Proofs.YtlblddeemkefkaaGreatDoor
set_option linter.unusedVariables false
set_option linter.unusedSimpArgs false
section
open Go.RowKit
theorem steprd_row {w : World} {b c : Nat} {cs : Array Value} {ty : TypeId} {fr : Nat × Nat} {p : List PS} (h : w.heap[b]? = some (.cells cs ty fr)) (hc : cs.toList = p.flatMap stepC) (hn : p.length ≤ 9223372036854775807) : StepRd w (.slice (some ⟨b, 0, none⟩) p.length c) p := by
  refine ⟨_, _, rfl, hn, steps_len p, (fun h => by cases h), fun _ => ⟨b, 0, rfl, (Array.getElem?_eq_some_iff.1 h).1, fun j hj => ?_⟩⟩
  rw [Lib.cell_of_heap h, Nat.zero_add, ← Array.getElem?_toList, hc]
/-- Where the law stands: nothing that was there has turned. -/
structure LW (w0 w : World) : Prop where
  b : Below w0.heap.size w0 w
  t : ShowTabs w
theorem LW.next {w0 w w1 : World} (h : LW w0 w) (hb : Below w.heap.size w w1) : LW w0 w1 := ⟨h.b.trans (hb.mono h.b.size), h.t.below hb⟩
theorem LW.nam {w0 w : World} (h : LW w0 w) : NamTabs w := ⟨h.t.1, h.t.2.1, h.t.2.2.1⟩
def sAt (n : Int) : PS := ([], n, false)
def sBy (k : List UInt8) : PS := (k, 0, true)
theorem reads_yes (s : List UInt8) (place e : Int) (want : List PS) (h : parseM s = (want, place, e)) (hl : s.length ≤ 1048576) {w0 w : World} (hW : LW w0 w) (A : Option Addr) (c : Nat) (hq : StepRd w (.slice A want.length c) want) :
    Calls Tryz.prog 47 #[strV s, .int .i64 place, .int .i64 e, .slice A want.length c] w fun x w' => x = .returned (.bool true) ∧ LW w0 w' := by
  refine (reads_any s place e want A c w hl hW.nam hq).mono ?_
  rintro x w' ⟨rfl, hb⟩
  exact ⟨by rw [h]; simp, hW.next hb⟩
theorem rd_nil (w : World) : StepRd w (.slice none 0 0) [] := Rd.of_owns (World.ownsRow_nil w 0 50 3)
theorem show_lit (p : List PS) (t : List UInt8) (x : Int) (h : showM p = (t, x)) (hk : ∀ s ∈ p, s.1.length ≤ 600 ∧ -9223372036854775808 ≤ s.2.1 ∧ s.2.1 ≤ 9223372036854775807) {w0 w : World} (hW : LW w0 w) (A : Option Addr) (c : Nat) (hq : StepRd w (.slice A p.length c) p) :
    Calls Tryz.prog 14 #[.slice A p.length c] w fun e w' => e = .returned (.tuple #[.string ⟨t.toArray⟩, .int .i64 x]) ∧ LW w0 w' := by
  refine (show_any p w A c hq hk hW.t).mono ?_
  rintro e w' ⟨rfl, hb⟩
  exact ⟨by rw [h]; rfl, hW.next hb⟩
theorem reads_lit (s : List UInt8) (place e : Int) (h : parseM s = ([], place, e)) (hl : s.length ≤ 1048576) {w0 w : World} (hW : LW w0 w) :
    Calls Tryz.prog 47 #[strV s, .int .i64 place, .int .i64 e, .slice none 0 0] w fun x w' => x = .returned (.bool true) ∧ LW w0 w' := reads_yes s place e [] h hl hW none 0 (rd_nil w)
theorem LW.al {w0 w : World} (h : LW w0 w) (ob : Obj) : LW w0 (w.alloc ob) := h.next ((Below.refl _ w).alloc (Nat.le_refl _) _)
def mD8 : DT := .mk 17 0 0 [] [[98], [97]] [numD 1, vecD [numD 2, numD 3]]
def tD8 : DT := vecD [numD 5, mD8]
theorem m8_rep {w : World} {bk b1 b2 : Nat} (hk : w.heap[bk]? = some (.cells #[.string ⟨#[98]⟩, .string ⟨#[97]⟩] 9 (0, 0))) (h1 : w.heap[b1]? = some (.cells #[.int .i64 3, .int .i64 1, .int .u64 0, .string ⟨#[]⟩, .slice none 0 0, .slice none 0 0, .int .i64 10, .int .i64 0, .int .u64 0, .string ⟨#[]⟩, .slice none 0 0, .slice (some ⟨b2, 0, none⟩) 2 2] 38 (0, 0)))
    (h2 : w.heap[b2]? = some (.cells #[.int .i64 3, .int .i64 2, .int .u64 0, .string ⟨#[]⟩, .slice none 0 0, .slice none 0 0, .int .i64 3, .int .i64 3, .int .u64 0, .string ⟨#[]⟩, .slice none 0 0, .slice none 0 0] 38 (0, 0))) : NRep w mD8 [.int .i64 17, .int .i64 0, .int .u64 0, .string ⟨#[]⟩, .slice (some ⟨bk, 0, none⟩) 2 2, .slice (some ⟨b1, 0, none⟩) 2 2] [bk, b1, b2] := by
  unfold mD8
  rw [NRep]
  exact ⟨_, _, _, [b2], rfl, own_blk (n := 2) hk rfl (by decide), own_blk (n := 2) h1 rfl (by decide), NReps.two (num_rep w 1) (vec_rep (n := 2) h2 rfl rfl (by decide) (NReps.two (num_rep w 2) (num_rep w 3))), by simp [blkL, Value.ownBlock]⟩
def posts8 (P5 bk b1 : Nat) (w0 : World) : Posts := fun b t v w => match t with
  | 5 => v = .pointer (some ⟨P5, 0, none⟩)
  | 6 => v = .pointer (some ⟨b, 0, none⟩)
  | 70 => v = .agg #[.int .i64 3, .int .i64 5, .int .u64 0, .string ⟨#[]⟩, .slice none 0 0, .slice none 0 0]
  | 71 => v = .agg #[.int .i64 17, .int .i64 0, .int .u64 0, .string ⟨#[]⟩, .slice (some ⟨bk, 0, none⟩) 2 2, .slice (some ⟨b1, 0, none⟩) 2 2]
  | 72 => ∃ g, v = .slice (some ⟨g, 0, none⟩) 2 2 ∧ g ≠ b ∧ w0.heap.size ≤ g ∧ w.heap[g]? = some (.cells #[.int .i64 3, .int .i64 5, .int .u64 0, .string ⟨#[]⟩, .slice none 0 0, .slice none 0 0, .int .i64 17, .int .i64 0, .int .u64 0, .string ⟨#[]⟩, .slice (some ⟨bk, 0, none⟩) 2 2, .slice (some ⟨b1, 0, none⟩) 2 2] 38 (0, 0))
  | 73 => ∃ g, v = .agg #[.int .i64 10, .int .i64 0, .int .u64 0, .string ⟨#[]⟩, .slice none 0 0, .slice (some ⟨g, 0, none⟩) 2 2] ∧ g ≠ b ∧ w0.heap.size ≤ g ∧ w.heap[g]? = some (.cells #[.int .i64 3, .int .i64 5, .int .u64 0, .string ⟨#[]⟩, .slice none 0 0, .slice none 0 0, .int .i64 17, .int .i64 0, .int .u64 0, .string ⟨#[]⟩, .slice (some ⟨bk, 0, none⟩) 2 2, .slice (some ⟨b1, 0, none⟩) 2 2] 38 (0, 0))
  | _ => True
theorem stay {b g : Nat} {w w' : World} {ob : Obj} (h : ExtB b w w') (hg : w.heap[g]? = some ob) (hne : g ≠ b) : w'.heap[g]? = some ob := (h.2 g (Array.getElem?_eq_some_iff.1 hg).1 hne).trans hg
theorem posts8_st (P5 bk b1 : Nat) (w0 : World) : ∀ (b : Nat) (t : Tmp) (v : Value) (w w' : World), ExtB b w w' → posts8 P5 bk b1 w0 b t v w → posts8 P5 bk b1 w0 b t v w' := by
  intro b t v w w' hE
  unfold posts8
  split
  · exact id
  · exact id
  · exact id
  · exact id
  · rintro ⟨g, h1, h2, h3, h4⟩
    exact ⟨g, h1, h2, h3, stay hE h4 h2⟩
  · rintro ⟨g, h1, h2, h3, h4⟩
    exact ⟨g, h1, h2, h3, stay hE h4 h2⟩
  · exact id
def zCells : Array Value := #[.int .i64 0, .int .i64 0, .int .u64 0, .string ⟨#[]⟩, .slice none 0 0, .slice none 0 0]
def blk8 (bk b1 : Nat) (w0 : World) (b : Nat) (s : Bool) (w : World) : Prop := match s with
  | false => w.heap[b]? = some (.cells zCells 38 (0, 0))
  | true => ∃ g, g ≠ b ∧ w.heap[g]? = some (.cells #[.int .i64 3, .int .i64 5, .int .u64 0, .string ⟨#[]⟩, .slice none 0 0, .slice none 0 0, .int .i64 17, .int .i64 0, .int .u64 0, .string ⟨#[]⟩, .slice (some ⟨bk, 0, none⟩) 2 2, .slice (some ⟨b1, 0, none⟩) 2 2] 38 (0, 0)) ∧ w.heap[b]? = some (.cells #[.int .i64 10, .int .i64 0, .int .u64 0, .string ⟨#[]⟩, .slice none 0 0, .slice (some ⟨g, 0, none⟩) 2 2] 38 (0, 0))
theorem blk8_st (bk b1 : Nat) (w0 : World) : ∀ (b : Nat) (s : Bool) (w w' : World), b < w.heap.size → Below w.heap.size w w' → blk8 bk b1 w0 b s w → blk8 bk b1 w0 b s w' := by
  intro b s w w' hb hB
  unfold blk8
  split
  · intro h
    exact below_row h hB
  · rintro ⟨g, h1, h2, h3⟩
    exact ⟨g, h1, below_row h2 hB, below_row h3 hB⟩
theorem t8_rep {w : World} {g bk b1 b2 : Nat} (hm : NRep w mD8 [.int .i64 17, .int .i64 0, .int .u64 0, .string ⟨#[]⟩, .slice (some ⟨bk, 0, none⟩) 2 2, .slice (some ⟨b1, 0, none⟩) 2 2] [bk, b1, b2]) (h : w.heap[g]? = some (.cells #[.int .i64 3, .int .i64 5, .int .u64 0, .string ⟨#[]⟩, .slice none 0 0, .slice none 0 0, .int .i64 17, .int .i64 0, .int .u64 0, .string ⟨#[]⟩, .slice (some ⟨bk, 0, none⟩) 2 2, .slice (some ⟨b1, 0, none⟩) 2 2] 38 (0, 0))) : NRep w tD8 [.int .i64 10, .int .i64 0, .int .u64 0, .string ⟨#[]⟩, .slice none 0 0, .slice (some ⟨g, 0, none⟩) 2 2] [g, bk, b1, b2] :=
  vec_rep (n := 2) h rfl rfl (by decide) (NReps.two (num_rep w 5) hm)
theorem lit_eq {T : Array Value} {n : Nat} (h : T.size = n) : T = ((List.range n).map fun i => T.getD i undef).toArray := by
  apply Array.ext
  · simp [h]
  · intro i h1 h2
    simp at h2
    simp [Array.getD, h1]
set_option maxRecDepth 100000 in
theorem lit171 {C : Array Value → Prop} (h : ∀ x0 x1 x2 x3 x4 x5 x6 x7 x8 x9 x10 x11 x12 x13 x14 x15 x16 x17 x18 x19 x20 x21 x22 x23 x24 x25 x26 x27 x28 x29 x30 x31 x32 x33 x34 x35 x36 x37 x38 x39 x40 x41 x42 x43 x44 x45 x46 x47 x48 x49 x50 x51 x52 x53 x54 x55 x56 x57 x58 x59 x60 x61 x62 x63 x64 x65 x66 x67 x68 x69 x70 x71 x72 x73 x74 x75 x76 x77 x78 x79 x80 x81 x82 x83 x84 x85 x86 x87 x88 x89 x90 x91 x92 x93 x94 x95 x96 x97 x98 x99 x100 x101 x102 x103 x104 x105 x106 x107 x108 x109 x110 x111 x112 x113 x114 x115 x116 x117 x118 x119 x120 x121 x122 x123 x124 x125 x126 x127 x128 x129 x130 x131 x132 x133 x134 x135 x136 x137 x138 x139 x140 x141 x142 x143 x144 x145 x146 x147 x148 x149 x150 x151 x152 x153 x154 x155 x156 x157 x158 x159 x160 x161 x162 x163 x164 x165 x166 x167 x168 x169 x170 : Value, C (x0 :: x1 :: x2 :: x3 :: x4 :: x5 :: x6 :: x7 :: x8 :: x9 :: x10 :: x11 :: x12 :: x13 :: x14 :: x15 :: x16 :: x17 :: x18 :: x19 :: x20 :: x21 :: x22 :: x23 :: x24 :: x25 :: x26 :: x27 :: x28 :: x29 :: x30 :: x31 :: x32 :: x33 :: x34 :: x35 :: x36 :: x37 :: x38 :: x39 :: x40 :: x41 :: x42 :: x43 :: x44 :: x45 :: x46 :: x47 :: x48 :: x49 :: x50 :: x51 :: x52 :: x53 :: x54 :: x55 :: x56 :: x57 :: x58 :: x59 :: x60 :: x61 :: x62 :: x63 :: x64 :: x65 :: x66 :: x67 :: x68 :: x69 :: x70 :: x71 :: x72 :: x73 :: x74 :: x75 :: x76 :: x77 :: x78 :: x79 :: x80 :: x81 :: x82 :: x83 :: x84 :: x85 :: x86 :: x87 :: x88 :: x89 :: x90 :: x91 :: x92 :: x93 :: x94 :: x95 :: x96 :: x97 :: x98 :: x99 :: x100 :: x101 :: x102 :: x103 :: x104 :: x105 :: x106 :: x107 :: x108 :: x109 :: x110 :: x111 :: x112 :: x113 :: x114 :: x115 :: x116 :: x117 :: x118 :: x119 :: x120 :: x121 :: x122 :: x123 :: x124 :: x125 :: x126 :: x127 :: x128 :: x129 :: x130 :: x131 :: x132 :: x133 :: x134 :: x135 :: x136 :: x137 :: x138 :: x139 :: x140 :: x141 :: x142 :: x143 :: x144 :: x145 :: x146 :: x147 :: x148 :: x149 :: x150 :: x151 :: x152 :: x153 :: x154 :: x155 :: x156 :: x157 :: x158 :: x159 :: x160 :: x161 :: x162 :: x163 :: x164 :: x165 :: x166 :: x167 :: x168 :: x169 :: x170 :: []).toArray) : ∀ T : Array Value, T.size = 171 → C T := by
  intro T hT
  have e : T = (T.getD 0 undef :: T.getD 1 undef :: T.getD 2 undef :: T.getD 3 undef :: T.getD 4 undef :: T.getD 5 undef :: T.getD 6 undef :: T.getD 7 undef :: T.getD 8 undef :: T.getD 9 undef :: T.getD 10 undef :: T.getD 11 undef :: T.getD 12 undef :: T.getD 13 undef :: T.getD 14 undef :: T.getD 15 undef :: T.getD 16 undef :: T.getD 17 undef :: T.getD 18 undef :: T.getD 19 undef :: T.getD 20 undef :: T.getD 21 undef :: T.getD 22 undef :: T.getD 23 undef :: T.getD 24 undef :: T.getD 25 undef :: T.getD 26 undef :: T.getD 27 undef :: T.getD 28 undef :: T.getD 29 undef :: T.getD 30 undef :: T.getD 31 undef :: T.getD 32 undef :: T.getD 33 undef :: T.getD 34 undef :: T.getD 35 undef :: T.getD 36 undef :: T.getD 37 undef :: T.getD 38 undef :: T.getD 39 undef :: T.getD 40 undef :: T.getD 41 undef :: T.getD 42 undef :: T.getD 43 undef :: T.getD 44 undef :: T.getD 45 undef :: T.getD 46 undef :: T.getD 47 undef :: T.getD 48 undef :: T.getD 49 undef :: T.getD 50 undef :: T.getD 51 undef :: T.getD 52 undef :: T.getD 53 undef :: T.getD 54 undef :: T.getD 55 undef :: T.getD 56 undef :: T.getD 57 undef :: T.getD 58 undef :: T.getD 59 undef :: T.getD 60 undef :: T.getD 61 undef :: T.getD 62 undef :: T.getD 63 undef :: T.getD 64 undef :: T.getD 65 undef :: T.getD 66 undef :: T.getD 67 undef :: T.getD 68 undef :: T.getD 69 undef :: T.getD 70 undef :: T.getD 71 undef :: T.getD 72 undef :: T.getD 73 undef :: T.getD 74 undef :: T.getD 75 undef :: T.getD 76 undef :: T.getD 77 undef :: T.getD 78 undef :: T.getD 79 undef :: T.getD 80 undef :: T.getD 81 undef :: T.getD 82 undef :: T.getD 83 undef :: T.getD 84 undef :: T.getD 85 undef :: T.getD 86 undef :: T.getD 87 undef :: T.getD 88 undef :: T.getD 89 undef :: T.getD 90 undef :: T.getD 91 undef :: T.getD 92 undef :: T.getD 93 undef :: T.getD 94 undef :: T.getD 95 undef :: T.getD 96 undef :: T.getD 97 undef :: T.getD 98 undef :: T.getD 99 undef :: T.getD 100 undef :: T.getD 101 undef :: T.getD 102 undef :: T.getD 103 undef :: T.getD 104 undef :: T.getD 105 undef :: T.getD 106 undef :: T.getD 107 undef :: T.getD 108 undef :: T.getD 109 undef :: T.getD 110 undef :: T.getD 111 undef :: T.getD 112 undef :: T.getD 113 undef :: T.getD 114 undef :: T.getD 115 undef :: T.getD 116 undef :: T.getD 117 undef :: T.getD 118 undef :: T.getD 119 undef :: T.getD 120 undef :: T.getD 121 undef :: T.getD 122 undef :: T.getD 123 undef :: T.getD 124 undef :: T.getD 125 undef :: T.getD 126 undef :: T.getD 127 undef :: T.getD 128 undef :: T.getD 129 undef :: T.getD 130 undef :: T.getD 131 undef :: T.getD 132 undef :: T.getD 133 undef :: T.getD 134 undef :: T.getD 135 undef :: T.getD 136 undef :: T.getD 137 undef :: T.getD 138 undef :: T.getD 139 undef :: T.getD 140 undef :: T.getD 141 undef :: T.getD 142 undef :: T.getD 143 undef :: T.getD 144 undef :: T.getD 145 undef :: T.getD 146 undef :: T.getD 147 undef :: T.getD 148 undef :: T.getD 149 undef :: T.getD 150 undef :: T.getD 151 undef :: T.getD 152 undef :: T.getD 153 undef :: T.getD 154 undef :: T.getD 155 undef :: T.getD 156 undef :: T.getD 157 undef :: T.getD 158 undef :: T.getD 159 undef :: T.getD 160 undef :: T.getD 161 undef :: T.getD 162 undef :: T.getD 163 undef :: T.getD 164 undef :: T.getD 165 undef :: T.getD 166 undef :: T.getD 167 undef :: T.getD 168 undef :: T.getD 169 undef :: T.getD 170 undef :: []).toArray := lit_eq hT
  rw [e]
  exact h (T.getD 0 undef) (T.getD 1 undef) (T.getD 2 undef) (T.getD 3 undef) (T.getD 4 undef) (T.getD 5 undef) (T.getD 6 undef) (T.getD 7 undef) (T.getD 8 undef) (T.getD 9 undef) (T.getD 10 undef) (T.getD 11 undef) (T.getD 12 undef) (T.getD 13 undef) (T.getD 14 undef) (T.getD 15 undef) (T.getD 16 undef) (T.getD 17 undef) (T.getD 18 undef) (T.getD 19 undef) (T.getD 20 undef) (T.getD 21 undef) (T.getD 22 undef) (T.getD 23 undef) (T.getD 24 undef) (T.getD 25 undef) (T.getD 26 undef) (T.getD 27 undef) (T.getD 28 undef) (T.getD 29 undef) (T.getD 30 undef) (T.getD 31 undef) (T.getD 32 undef) (T.getD 33 undef) (T.getD 34 undef) (T.getD 35 undef) (T.getD 36 undef) (T.getD 37 undef) (T.getD 38 undef) (T.getD 39 undef) (T.getD 40 undef) (T.getD 41 undef) (T.getD 42 undef) (T.getD 43 undef) (T.getD 44 undef) (T.getD 45 undef) (T.getD 46 undef) (T.getD 47 undef) (T.getD 48 undef) (T.getD 49 undef) (T.getD 50 undef) (T.getD 51 undef) (T.getD 52 undef) (T.getD 53 undef) (T.getD 54 undef) (T.getD 55 undef) (T.getD 56 undef) (T.getD 57 undef) (T.getD 58 undef) (T.getD 59 undef) (T.getD 60 undef) (T.getD 61 undef) (T.getD 62 undef) (T.getD 63 undef) (T.getD 64 undef) (T.getD 65 undef) (T.getD 66 undef) (T.getD 67 undef) (T.getD 68 undef) (T.getD 69 undef) (T.getD 70 undef) (T.getD 71 undef) (T.getD 72 undef) (T.getD 73 undef) (T.getD 74 undef) (T.getD 75 undef) (T.getD 76 undef) (T.getD 77 undef) (T.getD 78 undef) (T.getD 79 undef) (T.getD 80 undef) (T.getD 81 undef) (T.getD 82 undef) (T.getD 83 undef) (T.getD 84 undef) (T.getD 85 undef) (T.getD 86 undef) (T.getD 87 undef) (T.getD 88 undef) (T.getD 89 undef) (T.getD 90 undef) (T.getD 91 undef) (T.getD 92 undef) (T.getD 93 undef) (T.getD 94 undef) (T.getD 95 undef) (T.getD 96 undef) (T.getD 97 undef) (T.getD 98 undef) (T.getD 99 undef) (T.getD 100 undef) (T.getD 101 undef) (T.getD 102 undef) (T.getD 103 undef) (T.getD 104 undef) (T.getD 105 undef) (T.getD 106 undef) (T.getD 107 undef) (T.getD 108 undef) (T.getD 109 undef) (T.getD 110 undef) (T.getD 111 undef) (T.getD 112 undef) (T.getD 113 undef) (T.getD 114 undef) (T.getD 115 undef) (T.getD 116 undef) (T.getD 117 undef) (T.getD 118 undef) (T.getD 119 undef) (T.getD 120 undef) (T.getD 121 undef) (T.getD 122 undef) (T.getD 123 undef) (T.getD 124 undef) (T.getD 125 undef) (T.getD 126 undef) (T.getD 127 undef) (T.getD 128 undef) (T.getD 129 undef) (T.getD 130 undef) (T.getD 131 undef) (T.getD 132 undef) (T.getD 133 undef) (T.getD 134 undef) (T.getD 135 undef) (T.getD 136 undef) (T.getD 137 undef) (T.getD 138 undef) (T.getD 139 undef) (T.getD 140 undef) (T.getD 141 undef) (T.getD 142 undef) (T.getD 143 undef) (T.getD 144 undef) (T.getD 145 undef) (T.getD 146 undef) (T.getD 147 undef) (T.getD 148 undef) (T.getD 149 undef) (T.getD 150 undef) (T.getD 151 undef) (T.getD 152 undef) (T.getD 153 undef) (T.getD 154 undef) (T.getD 155 undef) (T.getD 156 undef) (T.getD 157 undef) (T.getD 158 undef) (T.getD 159 undef) (T.getD 160 undef) (T.getD 161 undef) (T.getD 162 undef) (T.getD 163 undef) (T.getD 164 undef) (T.getD 165 undef) (T.getD 166 undef) (T.getD 167 undef) (T.getD 168 undef) (T.getD 169 undef) (T.getD 170 undef)
def posts10 (P5 b6 P7 bk b1 g : Nat) : Posts := fun b t v w => match t with
  | 5 => v = .pointer (some ⟨P5, 0, none⟩)
  | 6 => v = .pointer (some ⟨b6, 0, none⟩)
  | 7 => v = .pointer (some ⟨P7, 0, none⟩)
  | 75 => v = .agg #[.int .i64 10, .int .i64 0, .int .u64 0, .string ⟨#[]⟩, .slice none 0 0, .slice (some ⟨g, 0, none⟩) 2 2]
  | 76 => v = .agg #[.int .i64 10, .int .i64 0, .int .u64 0, .string ⟨#[]⟩, .slice none 0 0, .slice (some ⟨g, 0, none⟩) 2 2]
  | 77 => v = .bool true
  | 78 => v = .bool false
  | 79 => v = .bool false
  | 80 => v = .agg #[.int .i64 10, .int .i64 0, .int .u64 0, .string ⟨#[]⟩, .slice none 0 0, .slice (some ⟨g, 0, none⟩) 2 2]
  | 81 => v = .agg #[.int .i64 17, .int .i64 0, .int .u64 0, .string ⟨#[]⟩, .slice (some ⟨bk, 0, none⟩) 2 2, .slice (some ⟨b1, 0, none⟩) 2 2]
  | 82 => v = .agg #[.string ⟨#[]⟩, .int .i64 1, .bool false]
  | 83 => ∃ g', v = .slice (some ⟨g', 0, none⟩) 1 1 ∧ g' ≠ b ∧ w.heap[g']? = some (.cells #[.string ⟨#[]⟩, .int .i64 1, .bool false] 50 (0, 0))
  | 84 => v = .bool true
  | 85 => v = .bool false
  | 86 => v = .bool false
  | 87 => v = .bool false
  | 88 => v = .agg #[.int .i64 10, .int .i64 0, .int .u64 0, .string ⟨#[]⟩, .slice none 0 0, .slice (some ⟨g, 0, none⟩) 2 2]
  | 89 => v = .agg #[.int .i64 3, .int .i64 3, .int .u64 0, .string ⟨#[]⟩, .slice none 0 0, .slice none 0 0]
  | 90 => v = .agg #[.string ⟨#[]⟩, .int .i64 1, .bool false]
  | 91 => v = .agg #[.string ⟨#[97]⟩, .int .i64 0, .bool true]
  | 92 => v = .agg #[.string ⟨#[]⟩, .int .i64 1, .bool false]
  | 93 => ∃ g', v = .slice (some ⟨g', 0, none⟩) 3 3 ∧ g' ≠ b ∧ w.heap[g']? = some (.cells #[.string ⟨#[]⟩, .int .i64 1, .bool false, .string ⟨#[97]⟩, .int .i64 0, .bool true, .string ⟨#[]⟩, .int .i64 1, .bool false] 50 (0, 0))
  | 94 => v = .bool true
  | 95 => v = .bool false
  | 96 => v = .bool false
  | 97 => v = .bool false
  | 98 => v = .agg #[.int .i64 10, .int .i64 0, .int .u64 0, .string ⟨#[]⟩, .slice none 0 0, .slice (some ⟨g, 0, none⟩) 2 2]
  | 99 => v = .agg #[.int .i64 3, .int .i64 1, .int .u64 0, .string ⟨#[]⟩, .slice none 0 0, .slice none 0 0]
  | 100 => v = .agg #[.string ⟨#[]⟩, .int .i64 1, .bool false]
  | 101 => v = .agg #[.string ⟨#[]⟩, .int .i64 0, .bool false]
  | 102 => ∃ g', v = .slice (some ⟨g', 0, none⟩) 2 2 ∧ g' ≠ b ∧ w.heap[g']? = some (.cells #[.string ⟨#[]⟩, .int .i64 1, .bool false, .string ⟨#[]⟩, .int .i64 0, .bool false] 50 (0, 0))
  | 103 => v = .bool true
  | 104 => v = .bool false
  | 105 => v = .bool false
  | 106 => v = .bool false
  | 107 => v = .agg #[.int .i64 10, .int .i64 0, .int .u64 0, .string ⟨#[]⟩, .slice none 0 0, .slice (some ⟨g, 0, none⟩) 2 2]
  | 108 => v = .agg #[.int .i64 0, .int .i64 0, .int .u64 0, .string ⟨#[]⟩, .slice none 0 0, .slice none 0 0]
  | 109 => v = .agg #[.string ⟨#[]⟩, .int .i64 1, .bool false]
  | 110 => v = .agg #[.string ⟨#[99]⟩, .int .i64 0, .bool true]
  | 111 => ∃ g', v = .slice (some ⟨g', 0, none⟩) 2 2 ∧ g' ≠ b ∧ w.heap[g']? = some (.cells #[.string ⟨#[]⟩, .int .i64 1, .bool false, .string ⟨#[99]⟩, .int .i64 0, .bool true] 50 (0, 0))
  | 112 => v = .bool true
  | 113 => v = .bool false
  | 114 => v = .bool false
  | 115 => v = .bool false
  | 116 => v = .agg #[.int .i64 10, .int .i64 0, .int .u64 0, .string ⟨#[]⟩, .slice none 0 0, .slice (some ⟨g, 0, none⟩) 2 2]
  | 117 => v = .agg #[.int .i64 0, .int .i64 0, .int .u64 0, .string ⟨#[]⟩, .slice none 0 0, .slice none 0 0]
  | 118 => v = .agg #[.string ⟨#[]⟩, .int .i64 0, .bool false]
  | 119 => v = .agg #[.string ⟨#[]⟩, .int .i64 0, .bool false]
  | 120 => ∃ g', v = .slice (some ⟨g', 0, none⟩) 2 2 ∧ g' ≠ b ∧ w.heap[g']? = some (.cells #[.string ⟨#[]⟩, .int .i64 0, .bool false, .string ⟨#[]⟩, .int .i64 0, .bool false] 50 (0, 0))
  | 121 => v = .bool true
  | 122 => v = .bool false
  | 123 => v = .bool false
  | 124 => v = .bool false
  | 125 => v = .agg #[.int .i64 10, .int .i64 0, .int .u64 0, .string ⟨#[]⟩, .slice none 0 0, .slice (some ⟨g, 0, none⟩) 2 2]
  | 126 => v = .agg #[.int .i64 0, .int .i64 0, .int .u64 0, .string ⟨#[]⟩, .slice none 0 0, .slice none 0 0]
  | 127 => v = .agg #[.string ⟨#[]⟩, .int .i64 2, .bool false]
  | 128 => ∃ g', v = .slice (some ⟨g', 0, none⟩) 1 1 ∧ g' ≠ b ∧ w.heap[g']? = some (.cells #[.string ⟨#[]⟩, .int .i64 2, .bool false] 50 (0, 0))
  | 129 => v = .bool true
  | 130 => v = .bool false
  | 131 => v = .bool false
  | _ => True
theorem posts10_st (P5 b6 P7 bk b1 g : Nat) : ∀ (b : Nat) (t : Tmp) (v : Value) (w w' : World), ExtB b w w' → posts10 P5 b6 P7 bk b1 g b t v w → posts10 P5 b6 P7 bk b1 g b t v w' := by
  intro b t v w w' hE
  unfold posts10
  split
  · exact id
  · exact id
  · exact id
  · exact id
  · exact id
  · exact id
  · exact id
  · exact id
  · exact id
  · exact id
  · exact id
  · rintro ⟨g, h1, h2, h3⟩
    exact ⟨g, h1, h2, stay hE h3 h2⟩
  · exact id
  · exact id
  · exact id
  · exact id
  · exact id
  · exact id
  · exact id
  · exact id
  · exact id
  · rintro ⟨g, h1, h2, h3⟩
    exact ⟨g, h1, h2, stay hE h3 h2⟩
  · exact id
  · exact id
  · exact id
  · exact id
  · exact id
  · exact id
  · exact id
  · exact id
  · rintro ⟨g, h1, h2, h3⟩
    exact ⟨g, h1, h2, stay hE h3 h2⟩
  · exact id
  · exact id
  · exact id
  · exact id
  · exact id
  · exact id
  · exact id
  · exact id
  · rintro ⟨g, h1, h2, h3⟩
    exact ⟨g, h1, h2, stay hE h3 h2⟩
  · exact id
  · exact id
  · exact id
  · exact id
  · exact id
  · exact id
  · exact id
  · exact id
  · rintro ⟨g, h1, h2, h3⟩
    exact ⟨g, h1, h2, stay hE h3 h2⟩
  · exact id
  · exact id
  · exact id
  · exact id
  · exact id
  · exact id
  · exact id
  · rintro ⟨g, h1, h2, h3⟩
    exact ⟨g, h1, h2, stay hE h3 h2⟩
  · exact id
  · exact id
  · exact id
  · exact id
theorem t8_small : SmallD tD8 := by
  simp [tD8, vecD, mD8, numD, SmallD, SmallDs]
theorem t8_wf : WfD tD8 := by
  simp [tD8, vecD, mD8, numD, WfD, WfDs, in64, inU]
theorem num_small (n : Int) : SmallD (numD n) := by
  simp [numD, SmallD, SmallDs]
theorem num9_wf : WfD (numD 9) := by
  simp [numD, WfD, WfDs, in64, inU]
def posts12 (b6 P7 bk b1 g : Nat) : Posts := fun b t v w => match t with
  | 6 => v = .pointer (some ⟨b6, 0, none⟩)
  | 7 => v = .pointer (some ⟨P7, 0, none⟩)
  | 133 => v = .agg #[.int .i64 10, .int .i64 0, .int .u64 0, .string ⟨#[]⟩, .slice none 0 0, .slice (some ⟨g, 0, none⟩) 2 2]
  | 134 => v = .agg #[.string ⟨#[]⟩, .int .i64 1, .bool false]
  | 135 => v = .agg #[.string ⟨#[97]⟩, .int .i64 0, .bool true]
  | 136 => v = .agg #[.string ⟨#[]⟩, .int .i64 0, .bool false]
  | 137 => ∃ g', v = .slice (some ⟨g', 0, none⟩) 3 3 ∧ g' ≠ b ∧ w.heap[g']? = some (.cells #[.string ⟨#[]⟩, .int .i64 1, .bool false, .string ⟨#[97]⟩, .int .i64 0, .bool true, .string ⟨#[]⟩, .int .i64 0, .bool false] 50 (0, 0))
  | 138 => v = .agg #[.int .i64 3, .int .i64 9, .int .u64 0, .string ⟨#[]⟩, .slice none 0 0, .slice none 0 0]
  | 139 => SVp w (vecD [numD 5, tabD [[98], [97]] [numD 1, vecD [numD 9, numD 3]]]) 0 b v
  | 132 => SVp w (vecD [numD 5, tabD [[98], [97]] [numD 1, vecD [numD 9, numD 3]]]) 0 b v
  | 140 => NVp w (vecD [numD 5, tabD [[98], [97]] [numD 1, vecD [numD 9, numD 3]]]) b v
  | 141 => v = .int .i64 0
  | 8 => v = .pointer (some ⟨b, 0, none⟩)
  | 9 => v = .int .i64 0
  | _ => True
theorem posts12_st (b6 P7 bk b1 g : Nat) : ∀ (b : Nat) (t : Tmp) (v : Value) (w w' : World), ExtB b w w' → posts12 b6 P7 bk b1 g b t v w → posts12 b6 P7 bk b1 g b t v w' := by
  intro b t v w w' hE
  unfold posts12
  split
  · exact id
  · exact id
  · exact id
  · exact id
  · exact id
  · exact id
  · rintro ⟨g, h1, h2, h3⟩
    exact ⟨g, h1, h2, stay hE h3 h2⟩
  · exact id
  · exact fun h => h.ext hE
  · exact fun h => h.ext hE
  · exact fun h => h.ext hE
  · exact id
  · exact id
  · exact id
  · exact id
def blk12 (b : Nat) (s : Bool) (w : World) : Prop := match s with
  | false => w.heap[b]? = some (.cells zCells 38 (0, 0))
  | true => ∃ kd nn uu s A m c A' m' c' bs, w.heap[b]? = some (.cells #[.int .i64 kd, .int .i64 nn, .int .u64 uu, .string s, .slice A m c, .slice A' m' c'] 38 (0, 0)) ∧ NRep w (vecD [numD 5, tabD [[98], [97]] [numD 1, vecD [numD 9, numD 3]]]) [.int .i64 kd, .int .i64 nn, .int .u64 uu, .string s, .slice A m c, .slice A' m' c'] bs
theorem blk12_st : ∀ (b : Nat) (s : Bool) (w w' : World), b < w.heap.size → Below w.heap.size w w' → blk12 b s w → blk12 b s w' := by
  intro b s w w' hb hB
  unfold blk12
  split
  · intro h
    exact below_row h hB
  · rintro ⟨kd, nn, uu, s, A, m, c, A', m', c', bs, h1, h2⟩
    exact ⟨kd, nn, uu, s, A, m, c, A', m', c', bs, below_row h1 hB, h2.below hB⟩
def posts13 (b6 P7 b8 bk b1 g : Nat) : Posts := fun b t v w => match t with
  | 6 => v = .pointer (some ⟨b6, 0, none⟩)
  | 7 => v = .pointer (some ⟨P7, 0, none⟩)
  | 8 => v = .pointer (some ⟨b8, 0, none⟩)
  | 9 => v = .int .i64 0
  | 143 => v = .agg #[.int .i64 10, .int .i64 0, .int .u64 0, .string ⟨#[]⟩, .slice none 0 0, .slice (some ⟨g, 0, none⟩) 2 2]
  | 144 => v = .agg #[.string ⟨#[]⟩, .int .i64 0, .bool false]
  | 145 => ∃ g', v = .slice (some ⟨g', 0, none⟩) 1 1 ∧ g' ≠ b ∧ w.heap[g']? = some (.cells #[.string ⟨#[]⟩, .int .i64 0, .bool false] 50 (0, 0))
  | 146 => v = .agg #[.int .i64 0, .int .i64 0, .int .u64 0, .string ⟨#[]⟩, .slice none 0 0, .slice none 0 0]
  | 147 => SVp w zT 60 b v
  | 142 => SVp w zT 60 b v
  | 148 => NVp w zT b v
  | 149 => v = .int .i64 60
  | 10 => v = .pointer (some ⟨b, 0, none⟩)
  | 11 => v = .int .i64 60
  | _ => True
theorem posts13_st (b6 P7 b8 bk b1 g : Nat) : ∀ (b : Nat) (t : Tmp) (v : Value) (w w' : World), ExtB b w w' → posts13 b6 P7 b8 bk b1 g b t v w → posts13 b6 P7 b8 bk b1 g b t v w' := by
  intro b t v w w' hE
  unfold posts13
  split
  · exact id
  · exact id
  · exact id
  · exact id
  · exact id
  · exact id
  · rintro ⟨g, h1, h2, h3⟩
    exact ⟨g, h1, h2, stay hE h3 h2⟩
  · exact id
  · exact fun h => h.ext hE
  · exact fun h => h.ext hE
  · exact fun h => h.ext hE
  · exact id
  · exact id
  · exact id
  · exact id
def blk13 (b : Nat) (s : Bool) (w : World) : Prop := match s with
  | false => w.heap[b]? = some (.cells zCells 38 (0, 0))
  | true => ∃ kd nn uu s A m c A' m' c' bs, w.heap[b]? = some (.cells #[.int .i64 kd, .int .i64 nn, .int .u64 uu, .string s, .slice A m c, .slice A' m' c'] 38 (0, 0)) ∧ NRep w zT [.int .i64 kd, .int .i64 nn, .int .u64 uu, .string s, .slice A m c, .slice A' m' c'] bs
theorem blk13_st : ∀ (b : Nat) (s : Bool) (w w' : World), b < w.heap.size → Below w.heap.size w w' → blk13 b s w → blk13 b s w' := by
  intro b s w w' hb hB
  unfold blk13
  split
  · intro h
    exact below_row h hB
  · rintro ⟨kd, nn, uu, s, A, m, c, A', m', c', bs, h1, h2⟩
    exact ⟨kd, nn, uu, s, A, m, c, A', m', c', bs, below_row h1 hB, h2.below hB⟩
def posts14 (b8 : Nat) (kd nn uu : Int) (s : ByteArray) (A : Option Addr) (m c : Nat) (A' : Option Addr) (m' c' : Nat) : Posts := fun b t v w => match t with
  | 8 => v = .pointer (some ⟨b8, 0, none⟩)
  | 9 => v = .int .i64 0
  | 11 => v = .int .i64 60
  | 150 => v = .agg #[.int .i64 kd, .int .i64 nn, .int .u64 uu, .string s, .slice A m c, .slice A' m' c']
  | 151 => v = .agg #[.int .i64 3, .int .i64 5, .int .u64 0, .string ⟨#[]⟩, .slice none 0 0, .slice none 0 0]
  | 152 => ∃ g', v = .slice (some ⟨g', 0, none⟩) 2 2 ∧ g' ≠ b ∧ w.heap[g']? = some (.cells #[.string ⟨#[98]⟩, .string ⟨#[97]⟩] 9 (0, 0))
  | 153 => v = .agg #[.int .i64 3, .int .i64 1, .int .u64 0, .string ⟨#[]⟩, .slice none 0 0, .slice none 0 0]
  | 154 => v = .agg #[.int .i64 3, .int .i64 9, .int .u64 0, .string ⟨#[]⟩, .slice none 0 0, .slice none 0 0]
  | 155 => v = .agg #[.int .i64 3, .int .i64 3, .int .u64 0, .string ⟨#[]⟩, .slice none 0 0, .slice none 0 0]
  | 156 => RVp w [numD 9, numD 3] 2 b v
  | 157 => NVp w (vecD [numD 9, numD 3]) b v
  | 158 => RVp w [numD 1, (vecD [numD 9, numD 3])] 2 b v
  | 159 => NVp w (tabD [[98], [97]] [numD 1, vecD [numD 9, numD 3]]) b v
  | 160 => RVp w [numD 5, (tabD [[98], [97]] [numD 1, vecD [numD 9, numD 3]])] 2 b v
  | 161 => NVp w (vecD [numD 5, tabD [[98], [97]] [numD 1, vecD [numD 9, numD 3]]]) b v
  | 162 => v = .bool true
  | 163 => v = .bool true
  | 164 => v = .int .i64 0
  | 165 => v = .bool true
  | 166 => v = .bool true
  | 167 => v = .bool true
  | 168 => v = .int .i64 60
  | 169 => v = .bool true
  | 170 => v = .bool true
  | 0 => v = .bool true
  | _ => True
theorem posts14_st (b8 : Nat) (kd nn uu : Int) (s : ByteArray) (A : Option Addr) (m c : Nat) (A' : Option Addr) (m' c' : Nat) : ∀ (b : Nat) (t : Tmp) (v : Value) (w w' : World), ExtB b w w' → posts14 b8 kd nn uu s A m c A' m' c' b t v w → posts14 b8 kd nn uu s A m c A' m' c' b t v w' := by
  intro b t v w w' hE
  unfold posts14
  split
  · exact id
  · exact id
  · exact id
  · exact id
  · exact id
  · rintro ⟨g, h1, h2, h3⟩
    exact ⟨g, h1, h2, stay hE h3 h2⟩
  · exact id
  · exact id
  · exact id
  · exact fun h => h.ext hE
  · exact fun h => h.ext hE
  · exact fun h => h.ext hE
  · exact fun h => h.ext hE
  · exact fun h => h.ext hE
  · exact fun h => h.ext hE
  · exact id
  · exact id
  · exact id
  · exact id
  · exact id
  · exact id
  · exact id
  · exact id
  · exact id
  · exact id
  · exact id
set_option maxHeartbeats 16000000 in
set_option maxRecDepth 100000 in
theorem works_any (w0 w : World) (hW : LW w0 w) : Calls Tryz.prog 17 #[] w fun e w' => e = .returned (.bool true) ∧ LW w0 w' := by
  have H0 := Lib.hid hW
  clear hW
  go_enter Tryz.func17, Tryz.ntmps17
  go_wp2_with fail
  refine (at8_any 3 _).mono ?_
  rintro e w1 ⟨rfl, h1⟩
  have H1 := Lib.hid (H0.out.next h1)
  clear h1 H0
  go_wp2_with fail
  refine (by8_any ⟨#[97, 34]⟩ _).mono ?_
  rintro e w2 ⟨rfl, h2⟩
  have H2 := Lib.hid (H1.out.next h2)
  clear h2 H1
  go_wp2_with fail
  refine (show_lit [sAt 3, sBy [97, 34]] [91, 51, 93, 91, 34, 97, 92, 34, 34, 93] 0 (by decide +kernel) (by decide) (H2.out.al _) _ _ (steprd_row (heap_alloc_new _ _) rfl (by decide))).mono ?_
  rintro e w3 ⟨rfl, h3⟩
  have H3 := Lib.hid h3
  clear h3 H2
  go_wp2_with fail
  refine (show_lit [] [] 0 (by decide +kernel) (by decide) H3.out _ _ (rd_nil _)).mono ?_
  rintro e w4 ⟨rfl, h4⟩
  have H4 := Lib.hid h4
  clear h4 H3
  go_wp2_with fail
  refine (at8_any 3 _).mono ?_
  rintro e w5 ⟨rfl, h5⟩
  have H5 := Lib.hid (H4.out.next h5)
  clear h5 H4
  go_wp2_with fail
  refine (by8_any ⟨#[97]⟩ _).mono ?_
  rintro e w6 ⟨rfl, h6⟩
  have H6 := Lib.hid (H5.out.next h6)
  clear h6 H5
  go_wp2_with fail
  refine (reads_yes [91, 51, 93, 91, 34, 97, 34, 93] 0 0 [sAt 3, sBy [97]] (by decide +kernel) (by decide) (H6.out.al _) _ _ (steprd_row (heap_alloc_new _ _) rfl (by decide))).mono ?_
  rintro e w7 ⟨rfl, h7⟩
  have H7 := Lib.hid h7
  clear h7 H6
  go_wp2_with fail
  refine (reads_lit [] 0 0 (by decide +kernel) (by decide) H7.out).mono ?_
  rintro e w8 ⟨rfl, h8⟩
  have H8 := Lib.hid h8
  clear h8 H7
  go_wp2_with fail
  refine (reads_lit [91, 48, 51, 93] 1 4 (by decide +kernel) (by decide) H8.out).mono ?_
  rintro e w9 ⟨rfl, h9⟩
  have H9 := Lib.hid h9
  clear h9 H8
  go_wp2_with fail
  refine (reads_lit [91, 51] 2 4 (by decide +kernel) (by decide) H9.out).mono ?_
  rintro e w10 ⟨rfl, h10⟩
  have H10 := Lib.hid h10
  clear h10 H9
  go_wp2_with fail
  refine (reads_lit [120] 0 4 (by decide +kernel) (by decide) H10.out).mono ?_
  rintro e w11 ⟨rfl, h11⟩
  have H11 := Lib.hid h11
  clear h11 H10
  go_wp2_with fail
  refine (reads_lit [91, 34, 97, 93] 4 3 (by decide +kernel) (by decide) H11.out).mono ?_
  rintro e w12 ⟨rfl, h12⟩
  have H12 := Lib.hid h12
  clear h12 H11
  go_wp2_with fail
  refine (num8_any 1 _).mono ?_
  rintro e w13 ⟨rfl, h13⟩
  have KA := Lib.hid ((h13.block _ (by simp)).trans (heap_alloc_new w12 (.cells #[.string ⟨#[98]⟩, .string ⟨#[97]⟩] 9)))
  have H13 := Lib.hid ((H12.out.al _).next h13)
  clear h13 H12
  go_wp2_with fail
  refine (num8_any 2 _).mono ?_
  rintro e w14 ⟨rfl, h14⟩
  have KB := Lib.hid (below_row KA.out h14)
  have H14 := Lib.hid (H13.out.next h14)
  clear h14 H13 KA
  go_wp2_with fail
  refine (num8_any 3 _).mono ?_
  rintro e w15 ⟨rfl, h15⟩
  have KC := Lib.hid (below_row KB.out h15)
  have H15 := Lib.hid (H14.out.next h15)
  clear h15 H14 KB
  go_wp2_with fail
  refine (vec8_any _ _ _ _).mono ?_
  rintro e w16 ⟨rfl, h16⟩
  have KD := Lib.hid (below_row (below_row KC.out ((Below.refl _ w15).alloc (Nat.le_refl _) _)) h16)
  have RD := Lib.hid ((h16.block _ (by simp)).trans (heap_alloc_new w15 (.cells #[.int .i64 3, .int .i64 2, .int .u64 0, .string ⟨#[]⟩, .slice none 0 0, .slice none 0 0, .int .i64 3, .int .i64 3, .int .u64 0, .string ⟨#[]⟩, .slice none 0 0, .slice none 0 0] 38)))
  have H16 := Lib.hid ((H15.out.al _).next h16)
  clear h16 H15 KC
  go_wp2_with fail
  refine (table8_any _ _ _ _ _ _ _).mono ?_
  rintro e w17 ⟨rfl, h17⟩
  have KE := Lib.hid (below_row (below_row KD.out ((Below.refl _ w16).alloc (Nat.le_refl _) _)) h17)
  have RE := Lib.hid (below_row (below_row RD.out ((Below.refl _ w16).alloc (Nat.le_refl _) _)) h17)
  have SE := Lib.hid ((h17.block _ (by simp)).trans (heap_alloc_new w16 (.cells #[.int .i64 3, .int .i64 1, .int .u64 0, .string ⟨#[]⟩, .slice none 0 0, .slice none 0 0, .int .i64 10, .int .i64 0, .int .u64 0, .string ⟨#[]⟩, .slice none 0 0, .slice (some ⟨w15.heap.size, 0, none⟩) 2 2] 38)))
  have H17 := Lib.hid ((H16.out.al _).next h17)
  clear h17 H16 KD RD
  generalize w12.heap.size = bk at *
  generalize w15.heap.size = b2 at *
  generalize w16.heap.size = b1 at *
  go_upto_region 8 with fail
  refine wp_named (fun wn => LW w0 wn ∧ NRep wn mD8 [.int .i64 17, .int .i64 0, .int .u64 0, .string ⟨#[]⟩, .slice (some ⟨bk, 0, none⟩) 2 2, .slice (some ⟨b1, 0, none⟩) 2 2] [bk, b1, b2] ∧ wn.heap[w17.heap.size]? = some (.cells #[.int .i64 17, .int .i64 0, .int .u64 0, .string ⟨#[]⟩, .slice (some ⟨bk, 0, none⟩) 2 2, .slice (some ⟨b1, 0, none⟩) 2 2] 38 (0, 0))) ⟨H17.out.al _, ?_, heap_alloc_new _ _⟩ ?_
  · exact m8_rep (below_row KE.out ((Below.refl _ w17).alloc (Nat.le_refl _) _)) (below_row SE.out ((Below.refl _ w17).alloc (Nat.le_refl _) _)) (below_row RE.out ((Below.refl _ w17).alloc (Nat.le_refl _) _))
  generalize w17.heap.size = P5
  clear H17 KE RE SE
  rintro wn ⟨hL, hM, h5⟩
  have hz5 : P5 < wn.heap.size := (Array.getElem?_eq_some_iff.1 h5).1
  refine wp_region_each1 (n := 171) (ia := 4) (is_ := 5) (posts8 P5 bk b1 wn) (blk8 bk b1 wn) (by kernel_rfl) (by kernel_rfl) rfl (posts8_st P5 bk b1 wn) (blk8_st bk b1 wn) ?_ rfl rfl rfl (fun a w K hK => opwp_allocN rfl a w K hK) (fun _ _ => rfl) (fun w => heap_alloc_new _ _) rfl rfl ?_ (by kernel_rfl) ?_ ?_
  · intro b hb t ht
    unfold posts8
    split
    · rfl
    · exact absurd rfl (ht 4 _ rfl)
    · exact absurd rfl (ht 0 _ rfl)
    · exact absurd rfl (ht 1 _ rfl)
    · exact absurd rfl (ht 2 _ rfl)
    · exact absurd rfl (ht 3 _ rfl)
    · trivial
  · intro b a w hB hb1 hb2 hk hblk
    refine ⟨rfl, ?_⟩
    have e6 : a.eval (.tmp 6) = .pointer (some ⟨b, 0, none⟩) := hk 6 (by decide)
    obtain ⟨g, e73, hg1, hg2, hg3⟩ : posts8 P5 bk b1 wn b 73 (a.eval (.tmp 73)) w := hk 73 (by decide)
    refine opwp_storeN rfl rfl e6 e73 hblk ?_
    intro w' q1 q2 q3 q4
    exact ⟨rfl, q2, q3, q4 wn hb1 hB, g, hg1, (q2.2 g (Array.getElem?_eq_some_iff.1 hg3).1 hg1).trans hg3, q1⟩
  · intro i o hi hne1 hne2
    match i, hi, hne1, hne2 with
    | 0, hi, _, _ =>
      simp only [List.getElem?_toArray, List.getElem?_cons_zero, List.getElem?_cons_succ, Option.some.injEq] at hi
      subst hi
      intro B a w hB hb hk
      refine ⟨rfl, opwp_call (fun v w' => v = .agg #[.int .i64 3, .int .i64 5, .int .u64 0, .string ⟨#[]⟩, .slice none 0 0, .slice none 0 0] ∧ Below w.heap.size w w') (exec_call [.int .i64 5] Tryz.func35 (by kernel_rfl) rfl rfl rfl) ((num8_any 5 w).mono ?_) ?_⟩
      · rintro e w' ⟨rfl, h⟩
        exact ⟨_, rfl, rfl, h⟩
      · rintro v w' ⟨rfl, h⟩
        exact ⟨h, _, rfl, fun d hd b _ _ => by cases hd; rfl⟩
    | 1, hi, _, _ =>
      simp only [List.getElem?_toArray, List.getElem?_cons_zero, List.getElem?_cons_succ, Option.some.injEq] at hi
      subst hi
      intro B a w hB hb hk
      obtain ⟨b0, hb0⟩ := hB
      have e5 : a.eval (.tmp 5) = .pointer (some ⟨P5, 0, none⟩) := hk b0 hb0 5 (by decide)
      refine ⟨rfl, opwp_load6 rfl e5 (below_row h5 hb) ?_⟩
      exact ⟨Below.refl _ _, _, rfl, fun d hd b _ _ => by cases hd; rfl⟩
    | 2, hi, _, _ =>
      simp only [List.getElem?_toArray, List.getElem?_cons_zero, List.getElem?_cons_succ, Option.some.injEq] at hi
      subst hi
      intro B a w hB hb hk
      obtain ⟨b0, hb0⟩ := hB
      have e70 : a.eval (.tmp 70) = .agg #[.int .i64 3, .int .i64 5, .int .u64 0, .string ⟨#[]⟩, .slice none 0 0, .slice none 0 0] := hk b0 hb0 70 (by decide)
      have e71 : a.eval (.tmp 71) = .agg #[.int .i64 17, .int .i64 0, .int .u64 0, .string ⟨#[]⟩, .slice (some ⟨bk, 0, none⟩) 2 2, .slice (some ⟨b1, 0, none⟩) 2 2] := hk b0 hb0 71 (by decide)
      refine ⟨rfl, opwp_bsN2 rfl e70 e71 ?_⟩
      refine ⟨(Below.refl _ _).alloc (Nat.le_refl _) _, _, rfl, fun d hd b _ hbb => ?_⟩
      cases hd
      rw [World.size_alloc] at hbb
      exact ⟨w.heap.size, rfl, by omega, hb.size, heap_alloc_new _ _⟩
    | 3, hi, _, _ =>
      simp only [List.getElem?_toArray, List.getElem?_cons_zero, List.getElem?_cons_succ, Option.some.injEq] at hi
      subst hi
      intro B a w hB hb hk
      obtain ⟨b0, hb0⟩ := hB
      obtain ⟨g0, e72, -⟩ : posts8 P5 bk b1 wn b0 72 (a.eval (.tmp 72)) w := hk b0 hb0 72 (by decide)
      refine ⟨rfl, opwp_call (fun v w' => v = .agg #[.int .i64 10, .int .i64 0, .int .u64 0, .string ⟨#[]⟩, .slice none 0 0, .slice (some ⟨g0, 0, none⟩) 2 2] ∧ Below w.heap.size w w') (exec_call [a.eval (.tmp 72)] Tryz.func36 (by kernel_rfl) rfl rfl rfl) ?_ ?_⟩
      · rw [e72]
        refine (vec8_any _ _ _ _).mono ?_
        rintro e w' ⟨rfl, h⟩
        exact ⟨_, rfl, rfl, h⟩
      · rintro v w' ⟨rfl, h⟩
        refine ⟨h, _, rfl, fun d hd b hbB _ => ?_⟩
        cases hd
        obtain ⟨g, e, k1, k2, k3⟩ : posts8 P5 bk b1 wn b 72 (a.eval (.tmp 72)) w := hk b hbB 72 (by decide)
        rw [e72] at e
        cases e
        exact ⟨g0, rfl, k1, k2, below_row k3 h⟩
    | 4, hi, h, _ => exact absurd rfl h
    | 5, hi, _, h => exact absurd rfl h
    | k + 6, hi, _, _ => cases hi
  rintro b ⟨T, D⟩ w8 hB hD hz hb1 hb2 hp hblk
  obtain rfl : D = [] := hD
  revert T
  refine lit171 ?_
  intro x0 x1 x2 x3 x4 x5 x6 x7 x8 x9 x10 x11 x12 x13 x14 x15 x16 x17 x18 x19 x20 x21 x22 x23 x24 x25 x26 x27 x28 x29 x30 x31 x32 x33 x34 x35 x36 x37 x38 x39 x40 x41 x42 x43 x44 x45 x46 x47 x48 x49 x50 x51 x52 x53 x54 x55 x56 x57 x58 x59 x60 x61 x62 x63 x64 x65 x66 x67 x68 x69 x70 x71 x72 x73 x74 x75 x76 x77 x78 x79 x80 x81 x82 x83 x84 x85 x86 x87 x88 x89 x90 x91 x92 x93 x94 x95 x96 x97 x98 x99 x100 x101 x102 x103 x104 x105 x106 x107 x108 x109 x110 x111 x112 x113 x114 x115 x116 x117 x118 x119 x120 x121 x122 x123 x124 x125 x126 x127 x128 x129 x130 x131 x132 x133 x134 x135 x136 x137 x138 x139 x140 x141 x142 x143 x144 x145 x146 x147 x148 x149 x150 x151 x152 x153 x154 x155 x156 x157 x158 x159 x160 x161 x162 x163 x164 x165 x166 x167 x168 x169 x170 hp
  have e5 : x5 = .pointer (some ⟨P5, 0, none⟩) := hp 5
  have e6 : x6 = .pointer (some ⟨b, 0, none⟩) := hp 6
  obtain ⟨g, hg1, hg2, hg3⟩ := hblk
  subst e5 e6
  have hT8 := Lib.hid (t8_rep (hM.below hB) hg2)
  have HL8 := Lib.hid (hL.next hB)
  have HP5 := Lib.hid (below_row h5 hB)
  have HP6 := Lib.hid hg3
  have HM8 := Lib.hid (hM.below hB)
  clear hp hL hM h5 hz5 hB hg1 hg2 hg3 hb1
  go_upto_region 10 with fail
  refine wp_named (fun wn => LW w0 wn ∧ NRep wn tD8 [.int .i64 10, .int .i64 0, .int .u64 0, .string ⟨#[]⟩, .slice none 0 0, .slice (some ⟨g, 0, none⟩) 2 2] [g, bk, b1, b2] ∧ NRep wn mD8 [.int .i64 17, .int .i64 0, .int .u64 0, .string ⟨#[]⟩, .slice (some ⟨bk, 0, none⟩) 2 2, .slice (some ⟨b1, 0, none⟩) 2 2] [bk, b1, b2] ∧ wn.heap[P5]? = some (.cells #[.int .i64 17, .int .i64 0, .int .u64 0, .string ⟨#[]⟩, .slice (some ⟨bk, 0, none⟩) 2 2, .slice (some ⟨b1, 0, none⟩) 2 2] 38 (0, 0)) ∧ wn.heap[b]? = some (.cells #[.int .i64 10, .int .i64 0, .int .u64 0, .string ⟨#[]⟩, .slice none 0 0, .slice (some ⟨g, 0, none⟩) 2 2] 38 (0, 0)) ∧ wn.heap[w8.heap.size]? = some (.cells zCells 38 (0, 0))) ⟨HL8.out.al _, hT8.out.below ((Below.refl _ w8).alloc (Nat.le_refl _) _), HM8.out.below ((Below.refl _ w8).alloc (Nat.le_refl _) _), below_row HP5.out ((Below.refl _ w8).alloc (Nat.le_refl _) _), below_row HP6.out ((Below.refl _ w8).alloc (Nat.le_refl _) _), heap_alloc_new _ _⟩ ?_
  generalize w8.heap.size = P7
  clear hT8 HL8 HP5 HP6 HM8
  rintro wm ⟨hL, hT, hM, h5, h6, h7⟩
  generalize b = b6 at *
  refine wp_region_each (n := 171) (posts10 P5 b6 P7 bk b1 g) (by kernel_rfl) (by kernel_rfl) rfl (posts10_st P5 b6 P7 bk b1 g) ?_ ?_ ?_
  · intro b hb t ht
    unfold posts10
    split
    · rfl
    · rfl
    · rfl
    · exact absurd rfl (ht 0 _ rfl)
    · exact absurd rfl (ht 1 _ rfl)
    · exact absurd rfl (ht 2 _ rfl)
    · exact absurd rfl (ht 3 _ rfl)
    · exact absurd rfl (ht 4 _ rfl)
    · exact absurd rfl (ht 5 _ rfl)
    · exact absurd rfl (ht 6 _ rfl)
    · exact absurd rfl (ht 7 _ rfl)
    · exact absurd rfl (ht 8 _ rfl)
    · exact absurd rfl (ht 9 _ rfl)
    · exact absurd rfl (ht 10 _ rfl)
    · exact absurd rfl (ht 11 _ rfl)
    · exact absurd rfl (ht 12 _ rfl)
    · exact absurd rfl (ht 13 _ rfl)
    · exact absurd rfl (ht 14 _ rfl)
    · exact absurd rfl (ht 15 _ rfl)
    · exact absurd rfl (ht 16 _ rfl)
    · exact absurd rfl (ht 17 _ rfl)
    · exact absurd rfl (ht 18 _ rfl)
    · exact absurd rfl (ht 19 _ rfl)
    · exact absurd rfl (ht 20 _ rfl)
    · exact absurd rfl (ht 21 _ rfl)
    · exact absurd rfl (ht 22 _ rfl)
    · exact absurd rfl (ht 23 _ rfl)
    · exact absurd rfl (ht 24 _ rfl)
    · exact absurd rfl (ht 25 _ rfl)
    · exact absurd rfl (ht 26 _ rfl)
    · exact absurd rfl (ht 27 _ rfl)
    · exact absurd rfl (ht 28 _ rfl)
    · exact absurd rfl (ht 29 _ rfl)
    · exact absurd rfl (ht 30 _ rfl)
    · exact absurd rfl (ht 31 _ rfl)
    · exact absurd rfl (ht 32 _ rfl)
    · exact absurd rfl (ht 33 _ rfl)
    · exact absurd rfl (ht 34 _ rfl)
    · exact absurd rfl (ht 35 _ rfl)
    · exact absurd rfl (ht 36 _ rfl)
    · exact absurd rfl (ht 37 _ rfl)
    · exact absurd rfl (ht 38 _ rfl)
    · exact absurd rfl (ht 39 _ rfl)
    · exact absurd rfl (ht 40 _ rfl)
    · exact absurd rfl (ht 41 _ rfl)
    · exact absurd rfl (ht 42 _ rfl)
    · exact absurd rfl (ht 43 _ rfl)
    · exact absurd rfl (ht 44 _ rfl)
    · exact absurd rfl (ht 45 _ rfl)
    · exact absurd rfl (ht 46 _ rfl)
    · exact absurd rfl (ht 47 _ rfl)
    · exact absurd rfl (ht 48 _ rfl)
    · exact absurd rfl (ht 49 _ rfl)
    · exact absurd rfl (ht 50 _ rfl)
    · exact absurd rfl (ht 51 _ rfl)
    · exact absurd rfl (ht 52 _ rfl)
    · exact absurd rfl (ht 53 _ rfl)
    · exact absurd rfl (ht 54 _ rfl)
    · exact absurd rfl (ht 55 _ rfl)
    · exact absurd rfl (ht 56 _ rfl)
    · trivial
  · intro i o hi
    match i, hi with
    | 0, hi =>
      simp only [List.getElem?_toArray, List.getElem?_cons_zero, List.getElem?_cons_succ, Option.some.injEq] at hi
      subst hi
      intro B a w hB hb hk
      obtain ⟨b0, hb0⟩ := hB
      have e6 : a.eval (.tmp 6) = .pointer (some ⟨b6, 0, none⟩) := hk b0 hb0 6 (by decide)
      refine ⟨rfl, opwp_load6 rfl e6 (below_row h6 hb) ?_⟩
      exact ⟨Below.refl _ _, _, rfl, fun d hd b _ _ => by cases hd; rfl⟩
    | 1, hi =>
      simp only [List.getElem?_toArray, List.getElem?_cons_zero, List.getElem?_cons_succ, Option.some.injEq] at hi
      subst hi
      intro B a w hB hb hk
      obtain ⟨b0, hb0⟩ := hB
      have e6 : a.eval (.tmp 6) = .pointer (some ⟨b6, 0, none⟩) := hk b0 hb0 6 (by decide)
      refine ⟨rfl, opwp_load6 rfl e6 (below_row h6 hb) ?_⟩
      exact ⟨Below.refl _ _, _, rfl, fun d hd b _ _ => by cases hd; rfl⟩
    | 2, hi =>
      simp only [List.getElem?_toArray, List.getElem?_cons_zero, List.getElem?_cons_succ, Option.some.injEq] at hi
      subst hi
      intro B a w hB hb hk
      obtain ⟨b0, hb0⟩ := hB
      have e75 : a.eval (.tmp 75) = .agg #[.int .i64 10, .int .i64 0, .int .u64 0, .string ⟨#[]⟩, .slice none 0 0, .slice (some ⟨g, 0, none⟩) 2 2] := hk b0 hb0 75 (by decide)
      have e76 : a.eval (.tmp 76) = .agg #[.int .i64 10, .int .i64 0, .int .u64 0, .string ⟨#[]⟩, .slice none 0 0, .slice (some ⟨g, 0, none⟩) 2 2] := hk b0 hb0 76 (by decide)
      refine ⟨rfl, opwp_call (fun v w' => v = .bool true ∧ Below w.heap.size w w') (exec_call [a.eval (.tmp 75), a.eval (.tmp 76), .int .i64 0, .slice none 0 0] Tryz.func31 (by kernel_rfl) rfl rfl rfl) ?_ ?_⟩
      · rw [e75, e76]
        refine (leads8_any tD8 tD8 0 [] w _ _ _ _ _ _ _ _ _ _ _ _ none 0 (NRep.reads _ _ _ (hT.below hb)) (NRep.reads _ _ _ (hT.below hb)) t8_small (rd_nil w) (by kernel_rfl)).mono ?_
        rintro e w' ⟨rfl, h⟩
        exact ⟨_, rfl, rfl, h⟩
      · rintro v w' ⟨rfl, h⟩
        exact ⟨h, _, rfl, fun d hd b _ _ => by cases hd; rfl⟩
    | 3, hi =>
      simp only [List.getElem?_toArray, List.getElem?_cons_zero, List.getElem?_cons_succ, Option.some.injEq] at hi
      subst hi
      intro B a w hB hb hk
      obtain ⟨b0, hb0⟩ := hB
      have e77 : a.eval (.tmp 77) = .bool true := hk b0 hb0 77 (by decide)
      refine ⟨rfl, opwp_not rfl e77 ?_⟩
      exact ⟨Below.refl _ _, _, rfl, fun d hd b _ _ => by cases hd; rfl⟩
    | 4, hi =>
      simp only [List.getElem?_toArray, List.getElem?_cons_zero, List.getElem?_cons_succ, Option.some.injEq] at hi
      subst hi
      intro B a w hB hb hk
      obtain ⟨b0, hb0⟩ := hB
      have e78 : a.eval (.tmp 78) = .bool false := hk b0 hb0 78 (by decide)
      refine ⟨rfl, opwp_move rfl e78 ?_⟩
      exact ⟨Below.refl _ _, _, rfl, fun d hd b _ _ => by cases hd; rfl⟩
    | 5, hi =>
      simp only [List.getElem?_toArray, List.getElem?_cons_zero, List.getElem?_cons_succ, Option.some.injEq] at hi
      subst hi
      intro B a w hB hb hk
      obtain ⟨b0, hb0⟩ := hB
      have e6 : a.eval (.tmp 6) = .pointer (some ⟨b6, 0, none⟩) := hk b0 hb0 6 (by decide)
      have eg : a.eval (.tmp 79) = .bool false := hk b0 hb0 79 (by decide)
      refine ⟨wanted_of rfl rfl eg, opwp_load6 rfl e6 (below_row h6 hb) ?_⟩
      exact ⟨Below.refl _ _, _, rfl, fun d hd b _ _ => by cases hd; rfl⟩
    | 6, hi =>
      simp only [List.getElem?_toArray, List.getElem?_cons_zero, List.getElem?_cons_succ, Option.some.injEq] at hi
      subst hi
      intro B a w hB hb hk
      obtain ⟨b0, hb0⟩ := hB
      have e5 : a.eval (.tmp 5) = .pointer (some ⟨P5, 0, none⟩) := hk b0 hb0 5 (by decide)
      have eg : a.eval (.tmp 79) = .bool false := hk b0 hb0 79 (by decide)
      refine ⟨wanted_of rfl rfl eg, opwp_load6 rfl e5 (below_row h5 hb) ?_⟩
      exact ⟨Below.refl _ _, _, rfl, fun d hd b _ _ => by cases hd; rfl⟩
    | 7, hi =>
      simp only [List.getElem?_toArray, List.getElem?_cons_zero, List.getElem?_cons_succ, Option.some.injEq] at hi
      subst hi
      intro B a w hB hb hk
      obtain ⟨b0, hb0⟩ := hB
      have eg : a.eval (.tmp 79) = .bool false := hk b0 hb0 79 (by decide)
      refine ⟨wanted_of rfl rfl eg, opwp_call (fun v w' => v = .agg #[.string ⟨#[]⟩, .int .i64 1, .bool false] ∧ Below w.heap.size w w') (exec_call [.int .i64 1] Tryz.func30 (by kernel_rfl) rfl rfl rfl) ?_ ?_⟩
      · refine (at8_any 1 w).mono ?_
        rintro e w' ⟨rfl, h⟩
        exact ⟨_, rfl, rfl, h⟩
      · rintro v w' ⟨rfl, h⟩
        exact ⟨h, _, rfl, fun d hd b _ _ => by cases hd; rfl⟩
    | 8, hi =>
      simp only [List.getElem?_toArray, List.getElem?_cons_zero, List.getElem?_cons_succ, Option.some.injEq] at hi
      subst hi
      intro B a w hB hb hk
      obtain ⟨b0, hb0⟩ := hB
      have e82 : a.eval (.tmp 82) = .agg #[.string ⟨#[]⟩, .int .i64 1, .bool false] := hk b0 hb0 82 (by decide)
      have eg : a.eval (.tmp 79) = .bool false := hk b0 hb0 79 (by decide)
      refine ⟨wanted_of rfl rfl eg, opwp_bsS1 rfl e82 ?_⟩
      refine ⟨(Below.refl _ _).alloc (Nat.le_refl _) _, _, rfl, fun d hd b _ hbb => ?_⟩
      cases hd
      rw [World.size_alloc] at hbb
      exact ⟨w.heap.size, rfl, by omega, heap_alloc_new _ _⟩
    | 9, hi =>
      simp only [List.getElem?_toArray, List.getElem?_cons_zero, List.getElem?_cons_succ, Option.some.injEq] at hi
      subst hi
      intro B a w hB hb hk
      obtain ⟨b0, hb0⟩ := hB
      have e80 : a.eval (.tmp 80) = .agg #[.int .i64 10, .int .i64 0, .int .u64 0, .string ⟨#[]⟩, .slice none 0 0, .slice (some ⟨g, 0, none⟩) 2 2] := hk b0 hb0 80 (by decide)
      have e81 : a.eval (.tmp 81) = .agg #[.int .i64 17, .int .i64 0, .int .u64 0, .string ⟨#[]⟩, .slice (some ⟨bk, 0, none⟩) 2 2, .slice (some ⟨b1, 0, none⟩) 2 2] := hk b0 hb0 81 (by decide)
      obtain ⟨g0, er, hg0, hgr⟩ : ∃ g, a.eval (.tmp 83) = .slice (some ⟨g, 0, none⟩) 1 1 ∧ g ≠ b0 ∧ w.heap[g]? = some (.cells #[.string ⟨#[]⟩, .int .i64 1, .bool false] 50 (0, 0)) := hk b0 hb0 83 (by decide)
      have eg : a.eval (.tmp 79) = .bool false := hk b0 hb0 79 (by decide)
      refine ⟨wanted_of rfl rfl eg, opwp_call (fun v w' => v = .bool true ∧ Below w.heap.size w w') (exec_call [a.eval (.tmp 80), a.eval (.tmp 81), .int .i64 0, a.eval (.tmp 83)] Tryz.func31 (by kernel_rfl) rfl rfl rfl) ?_ ?_⟩
      · rw [e80, e81, er]
        refine (leads8_any tD8 mD8 0 [sAt 1] w _ _ _ _ _ _ _ _ _ _ _ _ _ _ (NRep.reads _ _ _ (hT.below hb)) (NRep.reads _ _ _ (hM.below hb)) t8_small (steprd_row hgr rfl (by decide)) (by kernel_rfl)).mono ?_
        rintro e w' ⟨rfl, h⟩
        exact ⟨_, rfl, rfl, h⟩
      · rintro v w' ⟨rfl, h⟩
        exact ⟨h, _, rfl, fun d hd b _ _ => by cases hd; rfl⟩
    | 10, hi =>
      simp only [List.getElem?_toArray, List.getElem?_cons_zero, List.getElem?_cons_succ, Option.some.injEq] at hi
      subst hi
      intro B a w hB hb hk
      obtain ⟨b0, hb0⟩ := hB
      have e84 : a.eval (.tmp 84) = .bool true := hk b0 hb0 84 (by decide)
      have eg : a.eval (.tmp 79) = .bool false := hk b0 hb0 79 (by decide)
      refine ⟨wanted_of rfl rfl eg, opwp_not rfl e84 ?_⟩
      exact ⟨Below.refl _ _, _, rfl, fun d hd b _ _ => by cases hd; rfl⟩
    | 11, hi =>
      simp only [List.getElem?_toArray, List.getElem?_cons_zero, List.getElem?_cons_succ, Option.some.injEq] at hi
      subst hi
      intro B a w hB hb hk
      obtain ⟨b0, hb0⟩ := hB
      have e79 : a.eval (.tmp 79) = .bool false := hk b0 hb0 79 (by decide)
      have e85 : a.eval (.tmp 85) = .bool false := hk b0 hb0 85 (by decide)
      refine ⟨rfl, opwp_pickF rfl e79 e85 ?_⟩
      exact ⟨Below.refl _ _, _, rfl, fun d hd b _ _ => by cases hd; rfl⟩
    | 12, hi =>
      simp only [List.getElem?_toArray, List.getElem?_cons_zero, List.getElem?_cons_succ, Option.some.injEq] at hi
      subst hi
      intro B a w hB hb hk
      obtain ⟨b0, hb0⟩ := hB
      have e86 : a.eval (.tmp 86) = .bool false := hk b0 hb0 86 (by decide)
      refine ⟨rfl, opwp_move rfl e86 ?_⟩
      exact ⟨Below.refl _ _, _, rfl, fun d hd b _ _ => by cases hd; rfl⟩
    | 13, hi =>
      simp only [List.getElem?_toArray, List.getElem?_cons_zero, List.getElem?_cons_succ, Option.some.injEq] at hi
      subst hi
      intro B a w hB hb hk
      obtain ⟨b0, hb0⟩ := hB
      have e6 : a.eval (.tmp 6) = .pointer (some ⟨b6, 0, none⟩) := hk b0 hb0 6 (by decide)
      have eg : a.eval (.tmp 87) = .bool false := hk b0 hb0 87 (by decide)
      refine ⟨wanted_of rfl rfl eg, opwp_load6 rfl e6 (below_row h6 hb) ?_⟩
      exact ⟨Below.refl _ _, _, rfl, fun d hd b _ _ => by cases hd; rfl⟩
    | 14, hi =>
      simp only [List.getElem?_toArray, List.getElem?_cons_zero, List.getElem?_cons_succ, Option.some.injEq] at hi
      subst hi
      intro B a w hB hb hk
      obtain ⟨b0, hb0⟩ := hB
      have eg : a.eval (.tmp 87) = .bool false := hk b0 hb0 87 (by decide)
      refine ⟨wanted_of rfl rfl eg, opwp_call (fun v w' => v = .agg #[.int .i64 3, .int .i64 3, .int .u64 0, .string ⟨#[]⟩, .slice none 0 0, .slice none 0 0] ∧ Below w.heap.size w w') (exec_call [.int .i64 3] Tryz.func35 (by kernel_rfl) rfl rfl rfl) ?_ ?_⟩
      · refine (num8_any 3 w).mono ?_
        rintro e w' ⟨rfl, h⟩
        exact ⟨_, rfl, rfl, h⟩
      · rintro v w' ⟨rfl, h⟩
        exact ⟨h, _, rfl, fun d hd b _ _ => by cases hd; rfl⟩
    | 15, hi =>
      simp only [List.getElem?_toArray, List.getElem?_cons_zero, List.getElem?_cons_succ, Option.some.injEq] at hi
      subst hi
      intro B a w hB hb hk
      obtain ⟨b0, hb0⟩ := hB
      have eg : a.eval (.tmp 87) = .bool false := hk b0 hb0 87 (by decide)
      refine ⟨wanted_of rfl rfl eg, opwp_call (fun v w' => v = .agg #[.string ⟨#[]⟩, .int .i64 1, .bool false] ∧ Below w.heap.size w w') (exec_call [.int .i64 1] Tryz.func30 (by kernel_rfl) rfl rfl rfl) ?_ ?_⟩
      · refine (at8_any 1 w).mono ?_
        rintro e w' ⟨rfl, h⟩
        exact ⟨_, rfl, rfl, h⟩
      · rintro v w' ⟨rfl, h⟩
        exact ⟨h, _, rfl, fun d hd b _ _ => by cases hd; rfl⟩
    | 16, hi =>
      simp only [List.getElem?_toArray, List.getElem?_cons_zero, List.getElem?_cons_succ, Option.some.injEq] at hi
      subst hi
      intro B a w hB hb hk
      obtain ⟨b0, hb0⟩ := hB
      have eg : a.eval (.tmp 87) = .bool false := hk b0 hb0 87 (by decide)
      refine ⟨wanted_of rfl rfl eg, opwp_call (fun v w' => v = .agg #[.string ⟨#[97]⟩, .int .i64 0, .bool true] ∧ Below w.heap.size w w') (exec_call [.string ⟨#[97]⟩] Tryz.func32 (by kernel_rfl) rfl rfl rfl) ?_ ?_⟩
      · refine (by8_any ⟨#[97]⟩ w).mono ?_
        rintro e w' ⟨rfl, h⟩
        exact ⟨_, rfl, rfl, h⟩
      · rintro v w' ⟨rfl, h⟩
        exact ⟨h, _, rfl, fun d hd b _ _ => by cases hd; rfl⟩
    | 17, hi =>
      simp only [List.getElem?_toArray, List.getElem?_cons_zero, List.getElem?_cons_succ, Option.some.injEq] at hi
      subst hi
      intro B a w hB hb hk
      obtain ⟨b0, hb0⟩ := hB
      have eg : a.eval (.tmp 87) = .bool false := hk b0 hb0 87 (by decide)
      refine ⟨wanted_of rfl rfl eg, opwp_call (fun v w' => v = .agg #[.string ⟨#[]⟩, .int .i64 1, .bool false] ∧ Below w.heap.size w w') (exec_call [.int .i64 1] Tryz.func30 (by kernel_rfl) rfl rfl rfl) ?_ ?_⟩
      · refine (at8_any 1 w).mono ?_
        rintro e w' ⟨rfl, h⟩
        exact ⟨_, rfl, rfl, h⟩
      · rintro v w' ⟨rfl, h⟩
        exact ⟨h, _, rfl, fun d hd b _ _ => by cases hd; rfl⟩
    | 18, hi =>
      simp only [List.getElem?_toArray, List.getElem?_cons_zero, List.getElem?_cons_succ, Option.some.injEq] at hi
      subst hi
      intro B a w hB hb hk
      obtain ⟨b0, hb0⟩ := hB
      have e90 : a.eval (.tmp 90) = .agg #[.string ⟨#[]⟩, .int .i64 1, .bool false] := hk b0 hb0 90 (by decide)
      have e91 : a.eval (.tmp 91) = .agg #[.string ⟨#[97]⟩, .int .i64 0, .bool true] := hk b0 hb0 91 (by decide)
      have e92 : a.eval (.tmp 92) = .agg #[.string ⟨#[]⟩, .int .i64 1, .bool false] := hk b0 hb0 92 (by decide)
      have eg : a.eval (.tmp 87) = .bool false := hk b0 hb0 87 (by decide)
      refine ⟨wanted_of rfl rfl eg, opwp_bsS3 rfl e90 e91 e92 ?_⟩
      refine ⟨(Below.refl _ _).alloc (Nat.le_refl _) _, _, rfl, fun d hd b _ hbb => ?_⟩
      cases hd
      rw [World.size_alloc] at hbb
      exact ⟨w.heap.size, rfl, by omega, heap_alloc_new _ _⟩
    | 19, hi =>
      simp only [List.getElem?_toArray, List.getElem?_cons_zero, List.getElem?_cons_succ, Option.some.injEq] at hi
      subst hi
      intro B a w hB hb hk
      obtain ⟨b0, hb0⟩ := hB
      have e88 : a.eval (.tmp 88) = .agg #[.int .i64 10, .int .i64 0, .int .u64 0, .string ⟨#[]⟩, .slice none 0 0, .slice (some ⟨g, 0, none⟩) 2 2] := hk b0 hb0 88 (by decide)
      have e89 : a.eval (.tmp 89) = .agg #[.int .i64 3, .int .i64 3, .int .u64 0, .string ⟨#[]⟩, .slice none 0 0, .slice none 0 0] := hk b0 hb0 89 (by decide)
      obtain ⟨g0, er, hg0, hgr⟩ : ∃ g, a.eval (.tmp 93) = .slice (some ⟨g, 0, none⟩) 3 3 ∧ g ≠ b0 ∧ w.heap[g]? = some (.cells #[.string ⟨#[]⟩, .int .i64 1, .bool false, .string ⟨#[97]⟩, .int .i64 0, .bool true, .string ⟨#[]⟩, .int .i64 1, .bool false] 50 (0, 0)) := hk b0 hb0 93 (by decide)
      have eg : a.eval (.tmp 87) = .bool false := hk b0 hb0 87 (by decide)
      refine ⟨wanted_of rfl rfl eg, opwp_call (fun v w' => v = .bool true ∧ Below w.heap.size w w') (exec_call [a.eval (.tmp 88), a.eval (.tmp 89), .int .i64 0, a.eval (.tmp 93)] Tryz.func31 (by kernel_rfl) rfl rfl rfl) ?_ ?_⟩
      · rw [e88, e89, er]
        refine (leads8_any tD8 (numD 3) 0 [sAt 1, sBy [97], sAt 1] w _ _ _ _ _ _ _ _ _ _ _ _ _ _ (NRep.reads _ _ _ (hT.below hb)) (NRep.reads _ _ _ (num_rep w 3)) t8_small (steprd_row hgr rfl (by decide)) (by kernel_rfl)).mono ?_
        rintro e w' ⟨rfl, h⟩
        exact ⟨_, rfl, rfl, h⟩
      · rintro v w' ⟨rfl, h⟩
        exact ⟨h, _, rfl, fun d hd b _ _ => by cases hd; rfl⟩
    | 20, hi =>
      simp only [List.getElem?_toArray, List.getElem?_cons_zero, List.getElem?_cons_succ, Option.some.injEq] at hi
      subst hi
      intro B a w hB hb hk
      obtain ⟨b0, hb0⟩ := hB
      have e94 : a.eval (.tmp 94) = .bool true := hk b0 hb0 94 (by decide)
      have eg : a.eval (.tmp 87) = .bool false := hk b0 hb0 87 (by decide)
      refine ⟨wanted_of rfl rfl eg, opwp_not rfl e94 ?_⟩
      exact ⟨Below.refl _ _, _, rfl, fun d hd b _ _ => by cases hd; rfl⟩
    | 21, hi =>
      simp only [List.getElem?_toArray, List.getElem?_cons_zero, List.getElem?_cons_succ, Option.some.injEq] at hi
      subst hi
      intro B a w hB hb hk
      obtain ⟨b0, hb0⟩ := hB
      have e87 : a.eval (.tmp 87) = .bool false := hk b0 hb0 87 (by decide)
      have e95 : a.eval (.tmp 95) = .bool false := hk b0 hb0 95 (by decide)
      refine ⟨rfl, opwp_pickF rfl e87 e95 ?_⟩
      exact ⟨Below.refl _ _, _, rfl, fun d hd b _ _ => by cases hd; rfl⟩
    | 22, hi =>
      simp only [List.getElem?_toArray, List.getElem?_cons_zero, List.getElem?_cons_succ, Option.some.injEq] at hi
      subst hi
      intro B a w hB hb hk
      obtain ⟨b0, hb0⟩ := hB
      have e96 : a.eval (.tmp 96) = .bool false := hk b0 hb0 96 (by decide)
      refine ⟨rfl, opwp_move rfl e96 ?_⟩
      exact ⟨Below.refl _ _, _, rfl, fun d hd b _ _ => by cases hd; rfl⟩
    | 23, hi =>
      simp only [List.getElem?_toArray, List.getElem?_cons_zero, List.getElem?_cons_succ, Option.some.injEq] at hi
      subst hi
      intro B a w hB hb hk
      obtain ⟨b0, hb0⟩ := hB
      have e6 : a.eval (.tmp 6) = .pointer (some ⟨b6, 0, none⟩) := hk b0 hb0 6 (by decide)
      have eg : a.eval (.tmp 97) = .bool false := hk b0 hb0 97 (by decide)
      refine ⟨wanted_of rfl rfl eg, opwp_load6 rfl e6 (below_row h6 hb) ?_⟩
      exact ⟨Below.refl _ _, _, rfl, fun d hd b _ _ => by cases hd; rfl⟩
    | 24, hi =>
      simp only [List.getElem?_toArray, List.getElem?_cons_zero, List.getElem?_cons_succ, Option.some.injEq] at hi
      subst hi
      intro B a w hB hb hk
      obtain ⟨b0, hb0⟩ := hB
      have eg : a.eval (.tmp 97) = .bool false := hk b0 hb0 97 (by decide)
      refine ⟨wanted_of rfl rfl eg, opwp_call (fun v w' => v = .agg #[.int .i64 3, .int .i64 1, .int .u64 0, .string ⟨#[]⟩, .slice none 0 0, .slice none 0 0] ∧ Below w.heap.size w w') (exec_call [.int .i64 1] Tryz.func35 (by kernel_rfl) rfl rfl rfl) ?_ ?_⟩
      · refine (num8_any 1 w).mono ?_
        rintro e w' ⟨rfl, h⟩
        exact ⟨_, rfl, rfl, h⟩
      · rintro v w' ⟨rfl, h⟩
        exact ⟨h, _, rfl, fun d hd b _ _ => by cases hd; rfl⟩
    | 25, hi =>
      simp only [List.getElem?_toArray, List.getElem?_cons_zero, List.getElem?_cons_succ, Option.some.injEq] at hi
      subst hi
      intro B a w hB hb hk
      obtain ⟨b0, hb0⟩ := hB
      have eg : a.eval (.tmp 97) = .bool false := hk b0 hb0 97 (by decide)
      refine ⟨wanted_of rfl rfl eg, opwp_call (fun v w' => v = .agg #[.string ⟨#[]⟩, .int .i64 1, .bool false] ∧ Below w.heap.size w w') (exec_call [.int .i64 1] Tryz.func30 (by kernel_rfl) rfl rfl rfl) ?_ ?_⟩
      · refine (at8_any 1 w).mono ?_
        rintro e w' ⟨rfl, h⟩
        exact ⟨_, rfl, rfl, h⟩
      · rintro v w' ⟨rfl, h⟩
        exact ⟨h, _, rfl, fun d hd b _ _ => by cases hd; rfl⟩
    | 26, hi =>
      simp only [List.getElem?_toArray, List.getElem?_cons_zero, List.getElem?_cons_succ, Option.some.injEq] at hi
      subst hi
      intro B a w hB hb hk
      obtain ⟨b0, hb0⟩ := hB
      have eg : a.eval (.tmp 97) = .bool false := hk b0 hb0 97 (by decide)
      refine ⟨wanted_of rfl rfl eg, opwp_call (fun v w' => v = .agg #[.string ⟨#[]⟩, .int .i64 0, .bool false] ∧ Below w.heap.size w w') (exec_call [.int .i64 0] Tryz.func30 (by kernel_rfl) rfl rfl rfl) ?_ ?_⟩
      · refine (at8_any 0 w).mono ?_
        rintro e w' ⟨rfl, h⟩
        exact ⟨_, rfl, rfl, h⟩
      · rintro v w' ⟨rfl, h⟩
        exact ⟨h, _, rfl, fun d hd b _ _ => by cases hd; rfl⟩
    | 27, hi =>
      simp only [List.getElem?_toArray, List.getElem?_cons_zero, List.getElem?_cons_succ, Option.some.injEq] at hi
      subst hi
      intro B a w hB hb hk
      obtain ⟨b0, hb0⟩ := hB
      have e100 : a.eval (.tmp 100) = .agg #[.string ⟨#[]⟩, .int .i64 1, .bool false] := hk b0 hb0 100 (by decide)
      have e101 : a.eval (.tmp 101) = .agg #[.string ⟨#[]⟩, .int .i64 0, .bool false] := hk b0 hb0 101 (by decide)
      have eg : a.eval (.tmp 97) = .bool false := hk b0 hb0 97 (by decide)
      refine ⟨wanted_of rfl rfl eg, opwp_bsS2 rfl e100 e101 ?_⟩
      refine ⟨(Below.refl _ _).alloc (Nat.le_refl _) _, _, rfl, fun d hd b _ hbb => ?_⟩
      cases hd
      rw [World.size_alloc] at hbb
      exact ⟨w.heap.size, rfl, by omega, heap_alloc_new _ _⟩
    | 28, hi =>
      simp only [List.getElem?_toArray, List.getElem?_cons_zero, List.getElem?_cons_succ, Option.some.injEq] at hi
      subst hi
      intro B a w hB hb hk
      obtain ⟨b0, hb0⟩ := hB
      have e98 : a.eval (.tmp 98) = .agg #[.int .i64 10, .int .i64 0, .int .u64 0, .string ⟨#[]⟩, .slice none 0 0, .slice (some ⟨g, 0, none⟩) 2 2] := hk b0 hb0 98 (by decide)
      have e99 : a.eval (.tmp 99) = .agg #[.int .i64 3, .int .i64 1, .int .u64 0, .string ⟨#[]⟩, .slice none 0 0, .slice none 0 0] := hk b0 hb0 99 (by decide)
      obtain ⟨g0, er, hg0, hgr⟩ : ∃ g, a.eval (.tmp 102) = .slice (some ⟨g, 0, none⟩) 2 2 ∧ g ≠ b0 ∧ w.heap[g]? = some (.cells #[.string ⟨#[]⟩, .int .i64 1, .bool false, .string ⟨#[]⟩, .int .i64 0, .bool false] 50 (0, 0)) := hk b0 hb0 102 (by decide)
      have eg : a.eval (.tmp 97) = .bool false := hk b0 hb0 97 (by decide)
      refine ⟨wanted_of rfl rfl eg, opwp_call (fun v w' => v = .bool true ∧ Below w.heap.size w w') (exec_call [a.eval (.tmp 98), a.eval (.tmp 99), .int .i64 0, a.eval (.tmp 102)] Tryz.func31 (by kernel_rfl) rfl rfl rfl) ?_ ?_⟩
      · rw [e98, e99, er]
        refine (leads8_any tD8 (numD 1) 0 [sAt 1, sAt 0] w _ _ _ _ _ _ _ _ _ _ _ _ _ _ (NRep.reads _ _ _ (hT.below hb)) (NRep.reads _ _ _ (num_rep w 1)) t8_small (steprd_row hgr rfl (by decide)) (by kernel_rfl)).mono ?_
        rintro e w' ⟨rfl, h⟩
        exact ⟨_, rfl, rfl, h⟩
      · rintro v w' ⟨rfl, h⟩
        exact ⟨h, _, rfl, fun d hd b _ _ => by cases hd; rfl⟩
    | 29, hi =>
      simp only [List.getElem?_toArray, List.getElem?_cons_zero, List.getElem?_cons_succ, Option.some.injEq] at hi
      subst hi
      intro B a w hB hb hk
      obtain ⟨b0, hb0⟩ := hB
      have e103 : a.eval (.tmp 103) = .bool true := hk b0 hb0 103 (by decide)
      have eg : a.eval (.tmp 97) = .bool false := hk b0 hb0 97 (by decide)
      refine ⟨wanted_of rfl rfl eg, opwp_not rfl e103 ?_⟩
      exact ⟨Below.refl _ _, _, rfl, fun d hd b _ _ => by cases hd; rfl⟩
    | 30, hi =>
      simp only [List.getElem?_toArray, List.getElem?_cons_zero, List.getElem?_cons_succ, Option.some.injEq] at hi
      subst hi
      intro B a w hB hb hk
      obtain ⟨b0, hb0⟩ := hB
      have e97 : a.eval (.tmp 97) = .bool false := hk b0 hb0 97 (by decide)
      have e104 : a.eval (.tmp 104) = .bool false := hk b0 hb0 104 (by decide)
      refine ⟨rfl, opwp_pickF rfl e97 e104 ?_⟩
      exact ⟨Below.refl _ _, _, rfl, fun d hd b _ _ => by cases hd; rfl⟩
    | 31, hi =>
      simp only [List.getElem?_toArray, List.getElem?_cons_zero, List.getElem?_cons_succ, Option.some.injEq] at hi
      subst hi
      intro B a w hB hb hk
      obtain ⟨b0, hb0⟩ := hB
      have e105 : a.eval (.tmp 105) = .bool false := hk b0 hb0 105 (by decide)
      refine ⟨rfl, opwp_move rfl e105 ?_⟩
      exact ⟨Below.refl _ _, _, rfl, fun d hd b _ _ => by cases hd; rfl⟩
    | 32, hi =>
      simp only [List.getElem?_toArray, List.getElem?_cons_zero, List.getElem?_cons_succ, Option.some.injEq] at hi
      subst hi
      intro B a w hB hb hk
      obtain ⟨b0, hb0⟩ := hB
      have e6 : a.eval (.tmp 6) = .pointer (some ⟨b6, 0, none⟩) := hk b0 hb0 6 (by decide)
      have eg : a.eval (.tmp 106) = .bool false := hk b0 hb0 106 (by decide)
      refine ⟨wanted_of rfl rfl eg, opwp_load6 rfl e6 (below_row h6 hb) ?_⟩
      exact ⟨Below.refl _ _, _, rfl, fun d hd b _ _ => by cases hd; rfl⟩
    | 33, hi =>
      simp only [List.getElem?_toArray, List.getElem?_cons_zero, List.getElem?_cons_succ, Option.some.injEq] at hi
      subst hi
      intro B a w hB hb hk
      obtain ⟨b0, hb0⟩ := hB
      have e7 : a.eval (.tmp 7) = .pointer (some ⟨P7, 0, none⟩) := hk b0 hb0 7 (by decide)
      have eg : a.eval (.tmp 106) = .bool false := hk b0 hb0 106 (by decide)
      refine ⟨wanted_of rfl rfl eg, opwp_load6 rfl e7 (below_row h7 hb) ?_⟩
      exact ⟨Below.refl _ _, _, rfl, fun d hd b _ _ => by cases hd; rfl⟩
    | 34, hi =>
      simp only [List.getElem?_toArray, List.getElem?_cons_zero, List.getElem?_cons_succ, Option.some.injEq] at hi
      subst hi
      intro B a w hB hb hk
      obtain ⟨b0, hb0⟩ := hB
      have eg : a.eval (.tmp 106) = .bool false := hk b0 hb0 106 (by decide)
      refine ⟨wanted_of rfl rfl eg, opwp_call (fun v w' => v = .agg #[.string ⟨#[]⟩, .int .i64 1, .bool false] ∧ Below w.heap.size w w') (exec_call [.int .i64 1] Tryz.func30 (by kernel_rfl) rfl rfl rfl) ?_ ?_⟩
      · refine (at8_any 1 w).mono ?_
        rintro e w' ⟨rfl, h⟩
        exact ⟨_, rfl, rfl, h⟩
      · rintro v w' ⟨rfl, h⟩
        exact ⟨h, _, rfl, fun d hd b _ _ => by cases hd; rfl⟩
    | 35, hi =>
      simp only [List.getElem?_toArray, List.getElem?_cons_zero, List.getElem?_cons_succ, Option.some.injEq] at hi
      subst hi
      intro B a w hB hb hk
      obtain ⟨b0, hb0⟩ := hB
      have eg : a.eval (.tmp 106) = .bool false := hk b0 hb0 106 (by decide)
      refine ⟨wanted_of rfl rfl eg, opwp_call (fun v w' => v = .agg #[.string ⟨#[99]⟩, .int .i64 0, .bool true] ∧ Below w.heap.size w w') (exec_call [.string ⟨#[99]⟩] Tryz.func32 (by kernel_rfl) rfl rfl rfl) ?_ ?_⟩
      · refine (by8_any ⟨#[99]⟩ w).mono ?_
        rintro e w' ⟨rfl, h⟩
        exact ⟨_, rfl, rfl, h⟩
      · rintro v w' ⟨rfl, h⟩
        exact ⟨h, _, rfl, fun d hd b _ _ => by cases hd; rfl⟩
    | 36, hi =>
      simp only [List.getElem?_toArray, List.getElem?_cons_zero, List.getElem?_cons_succ, Option.some.injEq] at hi
      subst hi
      intro B a w hB hb hk
      obtain ⟨b0, hb0⟩ := hB
      have e109 : a.eval (.tmp 109) = .agg #[.string ⟨#[]⟩, .int .i64 1, .bool false] := hk b0 hb0 109 (by decide)
      have e110 : a.eval (.tmp 110) = .agg #[.string ⟨#[99]⟩, .int .i64 0, .bool true] := hk b0 hb0 110 (by decide)
      have eg : a.eval (.tmp 106) = .bool false := hk b0 hb0 106 (by decide)
      refine ⟨wanted_of rfl rfl eg, opwp_bsS2 rfl e109 e110 ?_⟩
      refine ⟨(Below.refl _ _).alloc (Nat.le_refl _) _, _, rfl, fun d hd b _ hbb => ?_⟩
      cases hd
      rw [World.size_alloc] at hbb
      exact ⟨w.heap.size, rfl, by omega, heap_alloc_new _ _⟩
    | 37, hi =>
      simp only [List.getElem?_toArray, List.getElem?_cons_zero, List.getElem?_cons_succ, Option.some.injEq] at hi
      subst hi
      intro B a w hB hb hk
      obtain ⟨b0, hb0⟩ := hB
      have e107 : a.eval (.tmp 107) = .agg #[.int .i64 10, .int .i64 0, .int .u64 0, .string ⟨#[]⟩, .slice none 0 0, .slice (some ⟨g, 0, none⟩) 2 2] := hk b0 hb0 107 (by decide)
      have e108 : a.eval (.tmp 108) = .agg #[.int .i64 0, .int .i64 0, .int .u64 0, .string ⟨#[]⟩, .slice none 0 0, .slice none 0 0] := hk b0 hb0 108 (by decide)
      obtain ⟨g0, er, hg0, hgr⟩ : ∃ g, a.eval (.tmp 111) = .slice (some ⟨g, 0, none⟩) 2 2 ∧ g ≠ b0 ∧ w.heap[g]? = some (.cells #[.string ⟨#[]⟩, .int .i64 1, .bool false, .string ⟨#[99]⟩, .int .i64 0, .bool true] 50 (0, 0)) := hk b0 hb0 111 (by decide)
      have eg : a.eval (.tmp 106) = .bool false := hk b0 hb0 106 (by decide)
      refine ⟨wanted_of rfl rfl eg, opwp_call (fun v w' => v = .bool true ∧ Below w.heap.size w w') (exec_call [a.eval (.tmp 107), a.eval (.tmp 108), .int .i64 80, a.eval (.tmp 111)] Tryz.func31 (by kernel_rfl) rfl rfl rfl) ?_ ?_⟩
      · rw [e107, e108, er]
        refine (leads8_any tD8 zT 80 [sAt 1, sBy [99]] w _ _ _ _ _ _ _ _ _ _ _ _ _ _ (NRep.reads _ _ _ (hT.below hb)) (NRep.reads _ _ _ (nrep_zero w)) t8_small (steprd_row hgr rfl (by decide)) (by kernel_rfl)).mono ?_
        rintro e w' ⟨rfl, h⟩
        exact ⟨_, rfl, rfl, h⟩
      · rintro v w' ⟨rfl, h⟩
        exact ⟨h, _, rfl, fun d hd b _ _ => by cases hd; rfl⟩
    | 38, hi =>
      simp only [List.getElem?_toArray, List.getElem?_cons_zero, List.getElem?_cons_succ, Option.some.injEq] at hi
      subst hi
      intro B a w hB hb hk
      obtain ⟨b0, hb0⟩ := hB
      have e112 : a.eval (.tmp 112) = .bool true := hk b0 hb0 112 (by decide)
      have eg : a.eval (.tmp 106) = .bool false := hk b0 hb0 106 (by decide)
      refine ⟨wanted_of rfl rfl eg, opwp_not rfl e112 ?_⟩
      exact ⟨Below.refl _ _, _, rfl, fun d hd b _ _ => by cases hd; rfl⟩
    | 39, hi =>
      simp only [List.getElem?_toArray, List.getElem?_cons_zero, List.getElem?_cons_succ, Option.some.injEq] at hi
      subst hi
      intro B a w hB hb hk
      obtain ⟨b0, hb0⟩ := hB
      have e106 : a.eval (.tmp 106) = .bool false := hk b0 hb0 106 (by decide)
      have e113 : a.eval (.tmp 113) = .bool false := hk b0 hb0 113 (by decide)
      refine ⟨rfl, opwp_pickF rfl e106 e113 ?_⟩
      exact ⟨Below.refl _ _, _, rfl, fun d hd b _ _ => by cases hd; rfl⟩
    | 40, hi =>
      simp only [List.getElem?_toArray, List.getElem?_cons_zero, List.getElem?_cons_succ, Option.some.injEq] at hi
      subst hi
      intro B a w hB hb hk
      obtain ⟨b0, hb0⟩ := hB
      have e114 : a.eval (.tmp 114) = .bool false := hk b0 hb0 114 (by decide)
      refine ⟨rfl, opwp_move rfl e114 ?_⟩
      exact ⟨Below.refl _ _, _, rfl, fun d hd b _ _ => by cases hd; rfl⟩
    | 41, hi =>
      simp only [List.getElem?_toArray, List.getElem?_cons_zero, List.getElem?_cons_succ, Option.some.injEq] at hi
      subst hi
      intro B a w hB hb hk
      obtain ⟨b0, hb0⟩ := hB
      have e6 : a.eval (.tmp 6) = .pointer (some ⟨b6, 0, none⟩) := hk b0 hb0 6 (by decide)
      have eg : a.eval (.tmp 115) = .bool false := hk b0 hb0 115 (by decide)
      refine ⟨wanted_of rfl rfl eg, opwp_load6 rfl e6 (below_row h6 hb) ?_⟩
      exact ⟨Below.refl _ _, _, rfl, fun d hd b _ _ => by cases hd; rfl⟩
    | 42, hi =>
      simp only [List.getElem?_toArray, List.getElem?_cons_zero, List.getElem?_cons_succ, Option.some.injEq] at hi
      subst hi
      intro B a w hB hb hk
      obtain ⟨b0, hb0⟩ := hB
      have e7 : a.eval (.tmp 7) = .pointer (some ⟨P7, 0, none⟩) := hk b0 hb0 7 (by decide)
      have eg : a.eval (.tmp 115) = .bool false := hk b0 hb0 115 (by decide)
      refine ⟨wanted_of rfl rfl eg, opwp_load6 rfl e7 (below_row h7 hb) ?_⟩
      exact ⟨Below.refl _ _, _, rfl, fun d hd b _ _ => by cases hd; rfl⟩
    | 43, hi =>
      simp only [List.getElem?_toArray, List.getElem?_cons_zero, List.getElem?_cons_succ, Option.some.injEq] at hi
      subst hi
      intro B a w hB hb hk
      obtain ⟨b0, hb0⟩ := hB
      have eg : a.eval (.tmp 115) = .bool false := hk b0 hb0 115 (by decide)
      refine ⟨wanted_of rfl rfl eg, opwp_call (fun v w' => v = .agg #[.string ⟨#[]⟩, .int .i64 0, .bool false] ∧ Below w.heap.size w w') (exec_call [.int .i64 0] Tryz.func30 (by kernel_rfl) rfl rfl rfl) ?_ ?_⟩
      · refine (at8_any 0 w).mono ?_
        rintro e w' ⟨rfl, h⟩
        exact ⟨_, rfl, rfl, h⟩
      · rintro v w' ⟨rfl, h⟩
        exact ⟨h, _, rfl, fun d hd b _ _ => by cases hd; rfl⟩
    | 44, hi =>
      simp only [List.getElem?_toArray, List.getElem?_cons_zero, List.getElem?_cons_succ, Option.some.injEq] at hi
      subst hi
      intro B a w hB hb hk
      obtain ⟨b0, hb0⟩ := hB
      have eg : a.eval (.tmp 115) = .bool false := hk b0 hb0 115 (by decide)
      refine ⟨wanted_of rfl rfl eg, opwp_call (fun v w' => v = .agg #[.string ⟨#[]⟩, .int .i64 0, .bool false] ∧ Below w.heap.size w w') (exec_call [.int .i64 0] Tryz.func30 (by kernel_rfl) rfl rfl rfl) ?_ ?_⟩
      · refine (at8_any 0 w).mono ?_
        rintro e w' ⟨rfl, h⟩
        exact ⟨_, rfl, rfl, h⟩
      · rintro v w' ⟨rfl, h⟩
        exact ⟨h, _, rfl, fun d hd b _ _ => by cases hd; rfl⟩
    | 45, hi =>
      simp only [List.getElem?_toArray, List.getElem?_cons_zero, List.getElem?_cons_succ, Option.some.injEq] at hi
      subst hi
      intro B a w hB hb hk
      obtain ⟨b0, hb0⟩ := hB
      have e118 : a.eval (.tmp 118) = .agg #[.string ⟨#[]⟩, .int .i64 0, .bool false] := hk b0 hb0 118 (by decide)
      have e119 : a.eval (.tmp 119) = .agg #[.string ⟨#[]⟩, .int .i64 0, .bool false] := hk b0 hb0 119 (by decide)
      have eg : a.eval (.tmp 115) = .bool false := hk b0 hb0 115 (by decide)
      refine ⟨wanted_of rfl rfl eg, opwp_bsS2 rfl e118 e119 ?_⟩
      refine ⟨(Below.refl _ _).alloc (Nat.le_refl _) _, _, rfl, fun d hd b _ hbb => ?_⟩
      cases hd
      rw [World.size_alloc] at hbb
      exact ⟨w.heap.size, rfl, by omega, heap_alloc_new _ _⟩
    | 46, hi =>
      simp only [List.getElem?_toArray, List.getElem?_cons_zero, List.getElem?_cons_succ, Option.some.injEq] at hi
      subst hi
      intro B a w hB hb hk
      obtain ⟨b0, hb0⟩ := hB
      have e116 : a.eval (.tmp 116) = .agg #[.int .i64 10, .int .i64 0, .int .u64 0, .string ⟨#[]⟩, .slice none 0 0, .slice (some ⟨g, 0, none⟩) 2 2] := hk b0 hb0 116 (by decide)
      have e117 : a.eval (.tmp 117) = .agg #[.int .i64 0, .int .i64 0, .int .u64 0, .string ⟨#[]⟩, .slice none 0 0, .slice none 0 0] := hk b0 hb0 117 (by decide)
      obtain ⟨g0, er, hg0, hgr⟩ : ∃ g, a.eval (.tmp 120) = .slice (some ⟨g, 0, none⟩) 2 2 ∧ g ≠ b0 ∧ w.heap[g]? = some (.cells #[.string ⟨#[]⟩, .int .i64 0, .bool false, .string ⟨#[]⟩, .int .i64 0, .bool false] 50 (0, 0)) := hk b0 hb0 120 (by decide)
      have eg : a.eval (.tmp 115) = .bool false := hk b0 hb0 115 (by decide)
      refine ⟨wanted_of rfl rfl eg, opwp_call (fun v w' => v = .bool true ∧ Below w.heap.size w w') (exec_call [a.eval (.tmp 116), a.eval (.tmp 117), .int .i64 80, a.eval (.tmp 120)] Tryz.func31 (by kernel_rfl) rfl rfl rfl) ?_ ?_⟩
      · rw [e116, e117, er]
        refine (leads8_any tD8 zT 80 [sAt 0, sAt 0] w _ _ _ _ _ _ _ _ _ _ _ _ _ _ (NRep.reads _ _ _ (hT.below hb)) (NRep.reads _ _ _ (nrep_zero w)) t8_small (steprd_row hgr rfl (by decide)) (by kernel_rfl)).mono ?_
        rintro e w' ⟨rfl, h⟩
        exact ⟨_, rfl, rfl, h⟩
      · rintro v w' ⟨rfl, h⟩
        exact ⟨h, _, rfl, fun d hd b _ _ => by cases hd; rfl⟩
    | 47, hi =>
      simp only [List.getElem?_toArray, List.getElem?_cons_zero, List.getElem?_cons_succ, Option.some.injEq] at hi
      subst hi
      intro B a w hB hb hk
      obtain ⟨b0, hb0⟩ := hB
      have e121 : a.eval (.tmp 121) = .bool true := hk b0 hb0 121 (by decide)
      have eg : a.eval (.tmp 115) = .bool false := hk b0 hb0 115 (by decide)
      refine ⟨wanted_of rfl rfl eg, opwp_not rfl e121 ?_⟩
      exact ⟨Below.refl _ _, _, rfl, fun d hd b _ _ => by cases hd; rfl⟩
    | 48, hi =>
      simp only [List.getElem?_toArray, List.getElem?_cons_zero, List.getElem?_cons_succ, Option.some.injEq] at hi
      subst hi
      intro B a w hB hb hk
      obtain ⟨b0, hb0⟩ := hB
      have e115 : a.eval (.tmp 115) = .bool false := hk b0 hb0 115 (by decide)
      have e122 : a.eval (.tmp 122) = .bool false := hk b0 hb0 122 (by decide)
      refine ⟨rfl, opwp_pickF rfl e115 e122 ?_⟩
      exact ⟨Below.refl _ _, _, rfl, fun d hd b _ _ => by cases hd; rfl⟩
    | 49, hi =>
      simp only [List.getElem?_toArray, List.getElem?_cons_zero, List.getElem?_cons_succ, Option.some.injEq] at hi
      subst hi
      intro B a w hB hb hk
      obtain ⟨b0, hb0⟩ := hB
      have e123 : a.eval (.tmp 123) = .bool false := hk b0 hb0 123 (by decide)
      refine ⟨rfl, opwp_move rfl e123 ?_⟩
      exact ⟨Below.refl _ _, _, rfl, fun d hd b _ _ => by cases hd; rfl⟩
    | 50, hi =>
      simp only [List.getElem?_toArray, List.getElem?_cons_zero, List.getElem?_cons_succ, Option.some.injEq] at hi
      subst hi
      intro B a w hB hb hk
      obtain ⟨b0, hb0⟩ := hB
      have e6 : a.eval (.tmp 6) = .pointer (some ⟨b6, 0, none⟩) := hk b0 hb0 6 (by decide)
      have eg : a.eval (.tmp 124) = .bool false := hk b0 hb0 124 (by decide)
      refine ⟨wanted_of rfl rfl eg, opwp_load6 rfl e6 (below_row h6 hb) ?_⟩
      exact ⟨Below.refl _ _, _, rfl, fun d hd b _ _ => by cases hd; rfl⟩
    | 51, hi =>
      simp only [List.getElem?_toArray, List.getElem?_cons_zero, List.getElem?_cons_succ, Option.some.injEq] at hi
      subst hi
      intro B a w hB hb hk
      obtain ⟨b0, hb0⟩ := hB
      have e7 : a.eval (.tmp 7) = .pointer (some ⟨P7, 0, none⟩) := hk b0 hb0 7 (by decide)
      have eg : a.eval (.tmp 124) = .bool false := hk b0 hb0 124 (by decide)
      refine ⟨wanted_of rfl rfl eg, opwp_load6 rfl e7 (below_row h7 hb) ?_⟩
      exact ⟨Below.refl _ _, _, rfl, fun d hd b _ _ => by cases hd; rfl⟩
    | 52, hi =>
      simp only [List.getElem?_toArray, List.getElem?_cons_zero, List.getElem?_cons_succ, Option.some.injEq] at hi
      subst hi
      intro B a w hB hb hk
      obtain ⟨b0, hb0⟩ := hB
      have eg : a.eval (.tmp 124) = .bool false := hk b0 hb0 124 (by decide)
      refine ⟨wanted_of rfl rfl eg, opwp_call (fun v w' => v = .agg #[.string ⟨#[]⟩, .int .i64 2, .bool false] ∧ Below w.heap.size w w') (exec_call [.int .i64 2] Tryz.func30 (by kernel_rfl) rfl rfl rfl) ?_ ?_⟩
      · refine (at8_any 2 w).mono ?_
        rintro e w' ⟨rfl, h⟩
        exact ⟨_, rfl, rfl, h⟩
      · rintro v w' ⟨rfl, h⟩
        exact ⟨h, _, rfl, fun d hd b _ _ => by cases hd; rfl⟩
    | 53, hi =>
      simp only [List.getElem?_toArray, List.getElem?_cons_zero, List.getElem?_cons_succ, Option.some.injEq] at hi
      subst hi
      intro B a w hB hb hk
      obtain ⟨b0, hb0⟩ := hB
      have e127 : a.eval (.tmp 127) = .agg #[.string ⟨#[]⟩, .int .i64 2, .bool false] := hk b0 hb0 127 (by decide)
      have eg : a.eval (.tmp 124) = .bool false := hk b0 hb0 124 (by decide)
      refine ⟨wanted_of rfl rfl eg, opwp_bsS1 rfl e127 ?_⟩
      refine ⟨(Below.refl _ _).alloc (Nat.le_refl _) _, _, rfl, fun d hd b _ hbb => ?_⟩
      cases hd
      rw [World.size_alloc] at hbb
      exact ⟨w.heap.size, rfl, by omega, heap_alloc_new _ _⟩
    | 54, hi =>
      simp only [List.getElem?_toArray, List.getElem?_cons_zero, List.getElem?_cons_succ, Option.some.injEq] at hi
      subst hi
      intro B a w hB hb hk
      obtain ⟨b0, hb0⟩ := hB
      have e125 : a.eval (.tmp 125) = .agg #[.int .i64 10, .int .i64 0, .int .u64 0, .string ⟨#[]⟩, .slice none 0 0, .slice (some ⟨g, 0, none⟩) 2 2] := hk b0 hb0 125 (by decide)
      have e126 : a.eval (.tmp 126) = .agg #[.int .i64 0, .int .i64 0, .int .u64 0, .string ⟨#[]⟩, .slice none 0 0, .slice none 0 0] := hk b0 hb0 126 (by decide)
      obtain ⟨g0, er, hg0, hgr⟩ : ∃ g, a.eval (.tmp 128) = .slice (some ⟨g, 0, none⟩) 1 1 ∧ g ≠ b0 ∧ w.heap[g]? = some (.cells #[.string ⟨#[]⟩, .int .i64 2, .bool false] 50 (0, 0)) := hk b0 hb0 128 (by decide)
      have eg : a.eval (.tmp 124) = .bool false := hk b0 hb0 124 (by decide)
      refine ⟨wanted_of rfl rfl eg, opwp_call (fun v w' => v = .bool true ∧ Below w.heap.size w w') (exec_call [a.eval (.tmp 125), a.eval (.tmp 126), .int .i64 80, a.eval (.tmp 128)] Tryz.func31 (by kernel_rfl) rfl rfl rfl) ?_ ?_⟩
      · rw [e125, e126, er]
        refine (leads8_any tD8 zT 80 [sAt 2] w _ _ _ _ _ _ _ _ _ _ _ _ _ _ (NRep.reads _ _ _ (hT.below hb)) (NRep.reads _ _ _ (nrep_zero w)) t8_small (steprd_row hgr rfl (by decide)) (by kernel_rfl)).mono ?_
        rintro e w' ⟨rfl, h⟩
        exact ⟨_, rfl, rfl, h⟩
      · rintro v w' ⟨rfl, h⟩
        exact ⟨h, _, rfl, fun d hd b _ _ => by cases hd; rfl⟩
    | 55, hi =>
      simp only [List.getElem?_toArray, List.getElem?_cons_zero, List.getElem?_cons_succ, Option.some.injEq] at hi
      subst hi
      intro B a w hB hb hk
      obtain ⟨b0, hb0⟩ := hB
      have e129 : a.eval (.tmp 129) = .bool true := hk b0 hb0 129 (by decide)
      have eg : a.eval (.tmp 124) = .bool false := hk b0 hb0 124 (by decide)
      refine ⟨wanted_of rfl rfl eg, opwp_not rfl e129 ?_⟩
      exact ⟨Below.refl _ _, _, rfl, fun d hd b _ _ => by cases hd; rfl⟩
    | 56, hi =>
      simp only [List.getElem?_toArray, List.getElem?_cons_zero, List.getElem?_cons_succ, Option.some.injEq] at hi
      subst hi
      intro B a w hB hb hk
      obtain ⟨b0, hb0⟩ := hB
      have e124 : a.eval (.tmp 124) = .bool false := hk b0 hb0 124 (by decide)
      have e130 : a.eval (.tmp 130) = .bool false := hk b0 hb0 130 (by decide)
      refine ⟨rfl, opwp_pickF rfl e124 e130 ?_⟩
      exact ⟨Below.refl _ _, _, rfl, fun d hd b _ _ => by cases hd; rfl⟩
    | k + 57, hi => cases hi
  rintro ⟨T, D⟩ w10 hB hD hz hp
  obtain rfl : D = [] := hD
  revert T
  refine lit171 ?_
  intro x0 x1 x2 x3 x4 x5 x6 x7 x8 x9 x10 x11 x12 x13 x14 x15 x16 x17 x18 x19 x20 x21 x22 x23 x24 x25 x26 x27 x28 x29 x30 x31 x32 x33 x34 x35 x36 x37 x38 x39 x40 x41 x42 x43 x44 x45 x46 x47 x48 x49 x50 x51 x52 x53 x54 x55 x56 x57 x58 x59 x60 x61 x62 x63 x64 x65 x66 x67 x68 x69 x70 x71 x72 x73 x74 x75 x76 x77 x78 x79 x80 x81 x82 x83 x84 x85 x86 x87 x88 x89 x90 x91 x92 x93 x94 x95 x96 x97 x98 x99 x100 x101 x102 x103 x104 x105 x106 x107 x108 x109 x110 x111 x112 x113 x114 x115 x116 x117 x118 x119 x120 x121 x122 x123 x124 x125 x126 x127 x128 x129 x130 x131 x132 x133 x134 x135 x136 x137 x138 x139 x140 x141 x142 x143 x144 x145 x146 x147 x148 x149 x150 x151 x152 x153 x154 x155 x156 x157 x158 x159 x160 x161 x162 x163 x164 x165 x166 x167 x168 x169 x170 hp
  have e5 : x5 = .pointer (some ⟨P5, 0, none⟩) := hp _ (Nat.le_refl _) 5
  have e6 : x6 = .pointer (some ⟨b6, 0, none⟩) := hp _ (Nat.le_refl _) 6
  have e7 : x7 = .pointer (some ⟨P7, 0, none⟩) := hp _ (Nat.le_refl _) 7
  have e131 : x131 = .bool false := hp _ (Nat.le_refl _) 131
  subst e5 e6 e7 e131
  have HTa := Lib.hid (hT.below hB)
  have HL10 := Lib.hid (hL.next hB)
  have H6a := Lib.hid (below_row h6 hB)
  have H7a := Lib.hid (below_row h7 hB)
  clear hp hL hT hM h5 h6 h7 hB
  go_upto_region 12 with fail
  refine wp_named (fun wn => LW w0 wn ∧ NRep wn tD8 [.int .i64 10, .int .i64 0, .int .u64 0, .string ⟨#[]⟩, .slice none 0 0, .slice (some ⟨g, 0, none⟩) 2 2] [g, bk, b1, b2] ∧ wn.heap[b6]? = some (.cells #[.int .i64 10, .int .i64 0, .int .u64 0, .string ⟨#[]⟩, .slice none 0 0, .slice (some ⟨g, 0, none⟩) 2 2] 38 (0, 0)) ∧ wn.heap[P7]? = some (.cells zCells 38 (0, 0))) ⟨HL10.out, HTa.out, H6a.out, H7a.out⟩ ?_
  clear HTa HL10 H6a H7a
  rintro w12b ⟨hL, hT, h6, h7⟩
  refine wp_region_each1 (n := 171) (ia := 10) (is_ := 11) (posts12 b6 P7 bk b1 g) blk12 (by kernel_rfl) (by kernel_rfl) rfl (posts12_st b6 P7 bk b1 g) blk12_st ?_ rfl rfl rfl (fun a w K hK => opwp_allocN rfl a w K hK) (fun _ _ => rfl) (fun w => heap_alloc_new _ _) rfl rfl ?_ (by kernel_rfl) ?_ ?_
  · intro b hb t ht
    unfold posts12
    split
    · rfl
    · rfl
    · exact absurd rfl (ht 0 _ rfl)
    · exact absurd rfl (ht 1 _ rfl)
    · exact absurd rfl (ht 2 _ rfl)
    · exact absurd rfl (ht 3 _ rfl)
    · exact absurd rfl (ht 4 _ rfl)
    · exact absurd rfl (ht 5 _ rfl)
    · exact absurd rfl (ht 6 _ rfl)
    · exact absurd rfl (ht 7 _ rfl)
    · exact absurd rfl (ht 8 _ rfl)
    · exact absurd rfl (ht 9 _ rfl)
    · exact absurd rfl (ht 10 _ rfl)
    · exact absurd rfl (ht 12 _ rfl)
    · trivial
  · intro b a w hB hb1 hb2 hk hblk
    refine ⟨rfl, ?_⟩
    have ep : a.eval (.tmp 8) = .pointer (some ⟨b, 0, none⟩) := hk 8 (by decide)
    obtain ⟨kd, nn, uu, s, A, m, c, A', m', c', bs, ev, hn, hbn⟩ : NVp w (vecD [numD 5, tabD [[98], [97]] [numD 1, vecD [numD 9, numD 3]]]) b (a.eval (.tmp 140)) := hk 140 (by decide)
    refine opwp_storeN rfl rfl ep ev hblk ?_
    intro w' q1 q2 q3 q4
    exact ⟨rfl, q2, q3, q4 w12b hb1 hB, kd, nn, uu, s, A, m, c, A', m', c', bs, q1, hn.ext q2 hbn⟩
  · intro i o hi hne1 hne2
    match i, hi, hne1, hne2 with
    | 0, hi, _, _ =>
      simp only [List.getElem?_toArray, List.getElem?_cons_zero, List.getElem?_cons_succ, Option.some.injEq] at hi
      subst hi
      intro B a w hB hb hk
      obtain ⟨b0, hb0⟩ := hB
      have e6 : a.eval (.tmp 6) = .pointer (some ⟨b6, 0, none⟩) := hk b0 hb0 6 (by decide)
      refine ⟨rfl, opwp_load6 rfl e6 (below_row h6 hb) ?_⟩
      exact ⟨Below.refl _ _, _, rfl, fun d hd b _ _ => by cases hd; rfl⟩
    | 1, hi, _, _ =>
      simp only [List.getElem?_toArray, List.getElem?_cons_zero, List.getElem?_cons_succ, Option.some.injEq] at hi
      subst hi
      intro B a w hB hb hk
      obtain ⟨b0, hb0⟩ := hB
      refine ⟨rfl, opwp_call (fun v w' => v = .agg #[.string ⟨#[]⟩, .int .i64 1, .bool false] ∧ Below w.heap.size w w') (exec_call [.int .i64 1] Tryz.func30 (by kernel_rfl) rfl rfl rfl) ?_ ?_⟩
      · refine (at8_any 1 w).mono ?_
        rintro e w' ⟨rfl, h⟩
        exact ⟨_, rfl, rfl, h⟩
      · rintro v w' ⟨rfl, h⟩
        exact ⟨h, _, rfl, fun d hd b _ _ => by cases hd; rfl⟩
    | 2, hi, _, _ =>
      simp only [List.getElem?_toArray, List.getElem?_cons_zero, List.getElem?_cons_succ, Option.some.injEq] at hi
      subst hi
      intro B a w hB hb hk
      obtain ⟨b0, hb0⟩ := hB
      refine ⟨rfl, opwp_call (fun v w' => v = .agg #[.string ⟨#[97]⟩, .int .i64 0, .bool true] ∧ Below w.heap.size w w') (exec_call [.string ⟨#[97]⟩] Tryz.func32 (by kernel_rfl) rfl rfl rfl) ?_ ?_⟩
      · refine (by8_any ⟨#[97]⟩ w).mono ?_
        rintro e w' ⟨rfl, h⟩
        exact ⟨_, rfl, rfl, h⟩
      · rintro v w' ⟨rfl, h⟩
        exact ⟨h, _, rfl, fun d hd b _ _ => by cases hd; rfl⟩
    | 3, hi, _, _ =>
      simp only [List.getElem?_toArray, List.getElem?_cons_zero, List.getElem?_cons_succ, Option.some.injEq] at hi
      subst hi
      intro B a w hB hb hk
      obtain ⟨b0, hb0⟩ := hB
      refine ⟨rfl, opwp_call (fun v w' => v = .agg #[.string ⟨#[]⟩, .int .i64 0, .bool false] ∧ Below w.heap.size w w') (exec_call [.int .i64 0] Tryz.func30 (by kernel_rfl) rfl rfl rfl) ?_ ?_⟩
      · refine (at8_any 0 w).mono ?_
        rintro e w' ⟨rfl, h⟩
        exact ⟨_, rfl, rfl, h⟩
      · rintro v w' ⟨rfl, h⟩
        exact ⟨h, _, rfl, fun d hd b _ _ => by cases hd; rfl⟩
    | 4, hi, _, _ =>
      simp only [List.getElem?_toArray, List.getElem?_cons_zero, List.getElem?_cons_succ, Option.some.injEq] at hi
      subst hi
      intro B a w hB hb hk
      obtain ⟨b0, hb0⟩ := hB
      have e134 : a.eval (.tmp 134) = .agg #[.string ⟨#[]⟩, .int .i64 1, .bool false] := hk b0 hb0 134 (by decide)
      have e135 : a.eval (.tmp 135) = .agg #[.string ⟨#[97]⟩, .int .i64 0, .bool true] := hk b0 hb0 135 (by decide)
      have e136 : a.eval (.tmp 136) = .agg #[.string ⟨#[]⟩, .int .i64 0, .bool false] := hk b0 hb0 136 (by decide)
      refine ⟨rfl, opwp_bsS3 rfl e134 e135 e136 ?_⟩
      refine ⟨(Below.refl _ _).alloc (Nat.le_refl _) _, _, rfl, fun d hd b _ hbb => ?_⟩
      cases hd
      rw [World.size_alloc] at hbb
      exact ⟨w.heap.size, rfl, by omega, heap_alloc_new _ _⟩
    | 5, hi, _, _ =>
      simp only [List.getElem?_toArray, List.getElem?_cons_zero, List.getElem?_cons_succ, Option.some.injEq] at hi
      subst hi
      intro B a w hB hb hk
      obtain ⟨b0, hb0⟩ := hB
      refine ⟨rfl, opwp_call (fun v w' => v = .agg #[.int .i64 3, .int .i64 9, .int .u64 0, .string ⟨#[]⟩, .slice none 0 0, .slice none 0 0] ∧ Below w.heap.size w w') (exec_call [.int .i64 9] Tryz.func35 (by kernel_rfl) rfl rfl rfl) ?_ ?_⟩
      · refine (num8_any 9 w).mono ?_
        rintro e w' ⟨rfl, h⟩
        exact ⟨_, rfl, rfl, h⟩
      · rintro v w' ⟨rfl, h⟩
        exact ⟨h, _, rfl, fun d hd b _ _ => by cases hd; rfl⟩
    | 6, hi, _, _ =>
      simp only [List.getElem?_toArray, List.getElem?_cons_zero, List.getElem?_cons_succ, Option.some.injEq] at hi
      subst hi
      intro B a w hB hb hk
      obtain ⟨b0, hb0⟩ := hB
      have e133 : a.eval (.tmp 133) = .agg #[.int .i64 10, .int .i64 0, .int .u64 0, .string ⟨#[]⟩, .slice none 0 0, .slice (some ⟨g, 0, none⟩) 2 2] := hk b0 hb0 133 (by decide)
      have e138 : a.eval (.tmp 138) = .agg #[.int .i64 3, .int .i64 9, .int .u64 0, .string ⟨#[]⟩, .slice none 0 0, .slice none 0 0] := hk b0 hb0 138 (by decide)
      obtain ⟨g0, er, hg0, hgr⟩ : ∃ g, a.eval (.tmp 137) = .slice (some ⟨g, 0, none⟩) 3 3 ∧ g ≠ b0 ∧ w.heap[g]? = some (.cells #[.string ⟨#[]⟩, .int .i64 1, .bool false, .string ⟨#[97]⟩, .int .i64 0, .bool true, .string ⟨#[]⟩, .int .i64 0, .bool false] 50 (0, 0)) := hk b0 hb0 137 (by decide)
      refine ⟨rfl, opwp_call (fun v w' => Below w.heap.size w w' ∧ ∀ b, B b → (b < w.heap.size ∨ w'.heap.size ≤ b) → SVp w' (vecD [numD 5, tabD [[98], [97]] [numD 1, vecD [numD 9, numD 3]]]) 0 b v) (exec_call [a.eval (.tmp 133), a.eval (.tmp 137), a.eval (.tmp 138)] Tryz.func26 (by kernel_rfl) rfl rfl rfl) ?_ ?_⟩
      · rw [e133, e138, er]
        refine (set_any [sAt 1, sBy [97], sAt 0] tD8 (numD 9) w _ _ _ _ _ _ _ _ _ _ _ _ _ _ _ _ (hT.below hb) (num_rep w 9) t8_small (num_small 9) t8_wf num9_wf (of_decide_eq_true (by kernel_rfl)) (steprd_row hgr rfl (by decide)) (by decide)).mono ?_
        rintro e w' ⟨⟨v, rfl, hf⟩, h⟩
        rw [show setR tD8 [sAt 1, sBy [97], sAt 0] (numD 9) = ((vecD [numD 5, tabD [[98], [97]] [numD 1, vecD [numD 9, numD 3]]]), 0) by kernel_rfl] at hf ⊢
        exact ⟨_, rfl, h, fun b _ hbb => ⟨v, rfl, fresh_nvp hf hbb⟩⟩
      · rintro v w' ⟨h, hv⟩
        exact ⟨h, _, rfl, fun d hd b hbB hbb => by cases hd; exact hv b hbB hbb⟩
    | 7, hi, _, _ =>
      simp only [List.getElem?_toArray, List.getElem?_cons_zero, List.getElem?_cons_succ, Option.some.injEq] at hi
      subst hi
      intro B a w hB hb hk
      obtain ⟨b0, hb0⟩ := hB
      have h0 : ∀ b, B b → SVp w (vecD [numD 5, tabD [[98], [97]] [numD 1, vecD [numD 9, numD 3]]]) 0 b (a.eval (.tmp 139)) := fun b hb => hk b hb 139 (by decide)
      refine ⟨rfl, opwp_move rfl rfl ?_⟩
      exact ⟨Below.refl _ _, _, rfl, fun d hd b hbB _ => by cases hd; exact h0 b hbB⟩
    | 8, hi, _, _ =>
      simp only [List.getElem?_toArray, List.getElem?_cons_zero, List.getElem?_cons_succ, Option.some.injEq] at hi
      subst hi
      intro B a w hB hb hk
      obtain ⟨b0, hb0⟩ := hB
      have h0 : ∀ b, B b → SVp w (vecD [numD 5, tabD [[98], [97]] [numD 1, vecD [numD 9, numD 3]]]) 0 b (a.eval (.tmp 132)) := fun b hb => hk b hb 132 (by decide)
      obtain ⟨u, eu, -⟩ := h0 b0 hb0
      refine ⟨rfl, opwp_ext u rfl eu rfl ?_⟩
      refine ⟨Below.refl _ _, _, rfl, fun d hd b hbB _ => ?_⟩
      cases hd
      obtain ⟨u', eu', hu⟩ := h0 b hbB
      rw [eu] at eu'
      cases eu'
      exact hu
    | 9, hi, _, _ =>
      simp only [List.getElem?_toArray, List.getElem?_cons_zero, List.getElem?_cons_succ, Option.some.injEq] at hi
      subst hi
      intro B a w hB hb hk
      obtain ⟨b0, hb0⟩ := hB
      obtain ⟨u, eu, -⟩ : SVp w (vecD [numD 5, tabD [[98], [97]] [numD 1, vecD [numD 9, numD 3]]]) 0 b0 (a.eval (.tmp 132)) := hk b0 hb0 132 (by decide)
      refine ⟨rfl, opwp_ext (.int .i64 0) rfl eu rfl ?_⟩
      exact ⟨Below.refl _ _, _, rfl, fun d hd b _ _ => by cases hd; rfl⟩
    | 10, hi, h, _ => exact absurd rfl h
    | 11, hi, _, h => exact absurd rfl h
    | 12, hi, _, _ =>
      simp only [List.getElem?_toArray, List.getElem?_cons_zero, List.getElem?_cons_succ, Option.some.injEq] at hi
      subst hi
      intro B a w hB hb hk
      obtain ⟨b0, hb0⟩ := hB
      have e141 : a.eval (.tmp 141) = .int .i64 0 := hk b0 hb0 141 (by decide)
      refine ⟨rfl, opwp_assign rfl e141 ?_⟩
      exact ⟨Below.refl _ _, _, rfl, fun d hd b _ _ => by cases hd; rfl⟩
    | k + 13, hi, _, _ => cases hi
  rintro b ⟨T, D⟩ w13b hB hD hz hb1 hb2 hp hblk
  obtain rfl : D = [] := hD
  revert T
  refine lit171 ?_
  intro x0 x1 x2 x3 x4 x5 x6 x7 x8 x9 x10 x11 x12 x13 x14 x15 x16 x17 x18 x19 x20 x21 x22 x23 x24 x25 x26 x27 x28 x29 x30 x31 x32 x33 x34 x35 x36 x37 x38 x39 x40 x41 x42 x43 x44 x45 x46 x47 x48 x49 x50 x51 x52 x53 x54 x55 x56 x57 x58 x59 x60 x61 x62 x63 x64 x65 x66 x67 x68 x69 x70 x71 x72 x73 x74 x75 x76 x77 x78 x79 x80 x81 x82 x83 x84 x85 x86 x87 x88 x89 x90 x91 x92 x93 x94 x95 x96 x97 x98 x99 x100 x101 x102 x103 x104 x105 x106 x107 x108 x109 x110 x111 x112 x113 x114 x115 x116 x117 x118 x119 x120 x121 x122 x123 x124 x125 x126 x127 x128 x129 x130 x131 x132 x133 x134 x135 x136 x137 x138 x139 x140 x141 x142 x143 x144 x145 x146 x147 x148 x149 x150 x151 x152 x153 x154 x155 x156 x157 x158 x159 x160 x161 x162 x163 x164 x165 x166 x167 x168 x169 x170 hp
  have e6 : x6 = .pointer (some ⟨b6, 0, none⟩) := hp 6
  have e7 : x7 = .pointer (some ⟨P7, 0, none⟩) := hp 7
  have e8 : x8 = .pointer (some ⟨b, 0, none⟩) := hp 8
  have e9 : x9 = .int .i64 0 := hp 9
  subst e6 e7 e8 e9
  generalize b = b8 at *
  have HTb := Lib.hid (hT.below hB)
  have HLb := Lib.hid (hL.next hB)
  have H6b := Lib.hid (below_row h6 hB)
  have H7b := Lib.hid (below_row h7 hB)
  have H8b := Lib.hid hblk
  clear hp hL hT h6 h7 hB hblk hb1 hb2
  go_upto_region 13 with fail
  refine wp_named (fun wn => LW w0 wn ∧ NRep wn tD8 [.int .i64 10, .int .i64 0, .int .u64 0, .string ⟨#[]⟩, .slice none 0 0, .slice (some ⟨g, 0, none⟩) 2 2] [g, bk, b1, b2] ∧ wn.heap[b6]? = some (.cells #[.int .i64 10, .int .i64 0, .int .u64 0, .string ⟨#[]⟩, .slice none 0 0, .slice (some ⟨g, 0, none⟩) 2 2] 38 (0, 0)) ∧ wn.heap[P7]? = some (.cells zCells 38 (0, 0)) ∧ blk12 b8 true wn) ⟨HLb.out, HTb.out, H6b.out, H7b.out, H8b.out⟩ ?_
  clear HTb HLb H6b H7b H8b
  rintro w13c ⟨hL, hT, h6, h7, h8⟩
  refine wp_region_each1 (n := 171) (ia := 8) (is_ := 9) (posts13 b6 P7 b8 bk b1 g) blk13 (by kernel_rfl) (by kernel_rfl) rfl (posts13_st b6 P7 b8 bk b1 g) blk13_st ?_ rfl rfl rfl (fun a w K hK => opwp_allocN rfl a w K hK) (fun _ _ => rfl) (fun w => heap_alloc_new _ _) rfl rfl ?_ (by kernel_rfl) ?_ ?_
  · intro b hb t ht
    unfold posts13
    split
    · rfl
    · rfl
    · rfl
    · rfl
    · exact absurd rfl (ht 0 _ rfl)
    · exact absurd rfl (ht 1 _ rfl)
    · exact absurd rfl (ht 2 _ rfl)
    · exact absurd rfl (ht 3 _ rfl)
    · exact absurd rfl (ht 4 _ rfl)
    · exact absurd rfl (ht 5 _ rfl)
    · exact absurd rfl (ht 6 _ rfl)
    · exact absurd rfl (ht 7 _ rfl)
    · exact absurd rfl (ht 8 _ rfl)
    · exact absurd rfl (ht 10 _ rfl)
    · trivial
  · intro b a w hB hb1 hb2 hk hblk
    refine ⟨rfl, ?_⟩
    have ep : a.eval (.tmp 10) = .pointer (some ⟨b, 0, none⟩) := hk 10 (by decide)
    obtain ⟨kd, nn, uu, s, A, m, c, A', m', c', bs, ev, hn, hbn⟩ : NVp w zT b (a.eval (.tmp 148)) := hk 148 (by decide)
    refine opwp_storeN rfl rfl ep ev hblk ?_
    intro w' q1 q2 q3 q4
    exact ⟨rfl, q2, q3, q4 w13c hb1 hB, kd, nn, uu, s, A, m, c, A', m', c', bs, q1, hn.ext q2 hbn⟩
  · intro i o hi hne1 hne2
    match i, hi, hne1, hne2 with
    | 0, hi, _, _ =>
      simp only [List.getElem?_toArray, List.getElem?_cons_zero, List.getElem?_cons_succ, Option.some.injEq] at hi
      subst hi
      intro B a w hB hb hk
      obtain ⟨b0, hb0⟩ := hB
      have e6 : a.eval (.tmp 6) = .pointer (some ⟨b6, 0, none⟩) := hk b0 hb0 6 (by decide)
      refine ⟨rfl, opwp_load6 rfl e6 (below_row h6 hb) ?_⟩
      exact ⟨Below.refl _ _, _, rfl, fun d hd b _ _ => by cases hd; rfl⟩
    | 1, hi, _, _ =>
      simp only [List.getElem?_toArray, List.getElem?_cons_zero, List.getElem?_cons_succ, Option.some.injEq] at hi
      subst hi
      intro B a w hB hb hk
      obtain ⟨b0, hb0⟩ := hB
      refine ⟨rfl, opwp_call (fun v w' => v = .agg #[.string ⟨#[]⟩, .int .i64 0, .bool false] ∧ Below w.heap.size w w') (exec_call [.int .i64 0] Tryz.func30 (by kernel_rfl) rfl rfl rfl) ?_ ?_⟩
      · refine (at8_any 0 w).mono ?_
        rintro e w' ⟨rfl, h⟩
        exact ⟨_, rfl, rfl, h⟩
      · rintro v w' ⟨rfl, h⟩
        exact ⟨h, _, rfl, fun d hd b _ _ => by cases hd; rfl⟩
    | 2, hi, _, _ =>
      simp only [List.getElem?_toArray, List.getElem?_cons_zero, List.getElem?_cons_succ, Option.some.injEq] at hi
      subst hi
      intro B a w hB hb hk
      obtain ⟨b0, hb0⟩ := hB
      have e144 : a.eval (.tmp 144) = .agg #[.string ⟨#[]⟩, .int .i64 0, .bool false] := hk b0 hb0 144 (by decide)
      refine ⟨rfl, opwp_bsS1 rfl e144 ?_⟩
      refine ⟨(Below.refl _ _).alloc (Nat.le_refl _) _, _, rfl, fun d hd b _ hbb => ?_⟩
      cases hd
      rw [World.size_alloc] at hbb
      exact ⟨w.heap.size, rfl, by omega, heap_alloc_new _ _⟩
    | 3, hi, _, _ =>
      simp only [List.getElem?_toArray, List.getElem?_cons_zero, List.getElem?_cons_succ, Option.some.injEq] at hi
      subst hi
      intro B a w hB hb hk
      obtain ⟨b0, hb0⟩ := hB
      have e7 : a.eval (.tmp 7) = .pointer (some ⟨P7, 0, none⟩) := hk b0 hb0 7 (by decide)
      refine ⟨rfl, opwp_load6 rfl e7 (below_row h7 hb) ?_⟩
      exact ⟨Below.refl _ _, _, rfl, fun d hd b _ _ => by cases hd; rfl⟩
    | 4, hi, _, _ =>
      simp only [List.getElem?_toArray, List.getElem?_cons_zero, List.getElem?_cons_succ, Option.some.injEq] at hi
      subst hi
      intro B a w hB hb hk
      obtain ⟨b0, hb0⟩ := hB
      have e143 : a.eval (.tmp 143) = .agg #[.int .i64 10, .int .i64 0, .int .u64 0, .string ⟨#[]⟩, .slice none 0 0, .slice (some ⟨g, 0, none⟩) 2 2] := hk b0 hb0 143 (by decide)
      have e146 : a.eval (.tmp 146) = .agg #[.int .i64 0, .int .i64 0, .int .u64 0, .string ⟨#[]⟩, .slice none 0 0, .slice none 0 0] := hk b0 hb0 146 (by decide)
      obtain ⟨g0, er, hg0, hgr⟩ : ∃ g, a.eval (.tmp 145) = .slice (some ⟨g, 0, none⟩) 1 1 ∧ g ≠ b0 ∧ w.heap[g]? = some (.cells #[.string ⟨#[]⟩, .int .i64 0, .bool false] 50 (0, 0)) := hk b0 hb0 145 (by decide)
      refine ⟨rfl, opwp_call (fun v w' => Below w.heap.size w w' ∧ ∀ b, B b → (b < w.heap.size ∨ w'.heap.size ≤ b) → SVp w' zT 60 b v) (exec_call [a.eval (.tmp 143), a.eval (.tmp 145), a.eval (.tmp 146)] Tryz.func26 (by kernel_rfl) rfl rfl rfl) ?_ ?_⟩
      · rw [e143, e146, er]
        refine (set_any [sAt 0] tD8 zT w _ _ _ _ _ _ _ _ _ _ _ _ _ _ _ _ (hT.below hb) (nrep_zero w) t8_small small_zero t8_wf wf_zero (of_decide_eq_true (by kernel_rfl)) (steprd_row hgr rfl (by decide)) (by decide)).mono ?_
        rintro e w' ⟨⟨v, rfl, hf⟩, h⟩
        rw [show setR tD8 [sAt 0] zT = (zT, 60) by kernel_rfl] at hf ⊢
        exact ⟨_, rfl, h, fun b _ hbb => ⟨v, rfl, fresh_nvp hf hbb⟩⟩
      · rintro v w' ⟨h, hv⟩
        exact ⟨h, _, rfl, fun d hd b hbB hbb => by cases hd; exact hv b hbB hbb⟩
    | 5, hi, _, _ =>
      simp only [List.getElem?_toArray, List.getElem?_cons_zero, List.getElem?_cons_succ, Option.some.injEq] at hi
      subst hi
      intro B a w hB hb hk
      obtain ⟨b0, hb0⟩ := hB
      have h0 : ∀ b, B b → SVp w zT 60 b (a.eval (.tmp 147)) := fun b hb => hk b hb 147 (by decide)
      refine ⟨rfl, opwp_move rfl rfl ?_⟩
      exact ⟨Below.refl _ _, _, rfl, fun d hd b hbB _ => by cases hd; exact h0 b hbB⟩
    | 6, hi, _, _ =>
      simp only [List.getElem?_toArray, List.getElem?_cons_zero, List.getElem?_cons_succ, Option.some.injEq] at hi
      subst hi
      intro B a w hB hb hk
      obtain ⟨b0, hb0⟩ := hB
      have h0 : ∀ b, B b → SVp w zT 60 b (a.eval (.tmp 142)) := fun b hb => hk b hb 142 (by decide)
      obtain ⟨u, eu, -⟩ := h0 b0 hb0
      refine ⟨rfl, opwp_ext u rfl eu rfl ?_⟩
      refine ⟨Below.refl _ _, _, rfl, fun d hd b hbB _ => ?_⟩
      cases hd
      obtain ⟨u', eu', hu⟩ := h0 b hbB
      rw [eu] at eu'
      cases eu'
      exact hu
    | 7, hi, _, _ =>
      simp only [List.getElem?_toArray, List.getElem?_cons_zero, List.getElem?_cons_succ, Option.some.injEq] at hi
      subst hi
      intro B a w hB hb hk
      obtain ⟨b0, hb0⟩ := hB
      obtain ⟨u, eu, -⟩ : SVp w zT 60 b0 (a.eval (.tmp 142)) := hk b0 hb0 142 (by decide)
      refine ⟨rfl, opwp_ext (.int .i64 60) rfl eu rfl ?_⟩
      exact ⟨Below.refl _ _, _, rfl, fun d hd b _ _ => by cases hd; rfl⟩
    | 8, hi, h, _ => exact absurd rfl h
    | 9, hi, _, h => exact absurd rfl h
    | 10, hi, _, _ =>
      simp only [List.getElem?_toArray, List.getElem?_cons_zero, List.getElem?_cons_succ, Option.some.injEq] at hi
      subst hi
      intro B a w hB hb hk
      obtain ⟨b0, hb0⟩ := hB
      have e149 : a.eval (.tmp 149) = .int .i64 60 := hk b0 hb0 149 (by decide)
      refine ⟨rfl, opwp_assign rfl e149 ?_⟩
      exact ⟨Below.refl _ _, _, rfl, fun d hd b _ _ => by cases hd; rfl⟩
    | k + 11, hi, _, _ => cases hi
  rintro b ⟨T, D⟩ w14a hB hD hz hb1 hb2 hp hblk
  obtain rfl : D = [] := hD
  revert T
  refine lit171 ?_
  intro x0 x1 x2 x3 x4 x5 x6 x7 x8 x9 x10 x11 x12 x13 x14 x15 x16 x17 x18 x19 x20 x21 x22 x23 x24 x25 x26 x27 x28 x29 x30 x31 x32 x33 x34 x35 x36 x37 x38 x39 x40 x41 x42 x43 x44 x45 x46 x47 x48 x49 x50 x51 x52 x53 x54 x55 x56 x57 x58 x59 x60 x61 x62 x63 x64 x65 x66 x67 x68 x69 x70 x71 x72 x73 x74 x75 x76 x77 x78 x79 x80 x81 x82 x83 x84 x85 x86 x87 x88 x89 x90 x91 x92 x93 x94 x95 x96 x97 x98 x99 x100 x101 x102 x103 x104 x105 x106 x107 x108 x109 x110 x111 x112 x113 x114 x115 x116 x117 x118 x119 x120 x121 x122 x123 x124 x125 x126 x127 x128 x129 x130 x131 x132 x133 x134 x135 x136 x137 x138 x139 x140 x141 x142 x143 x144 x145 x146 x147 x148 x149 x150 x151 x152 x153 x154 x155 x156 x157 x158 x159 x160 x161 x162 x163 x164 x165 x166 x167 x168 x169 x170 hp
  have e8 : x8 = .pointer (some ⟨b8, 0, none⟩) := hp 8
  have e9 : x9 = .int .i64 0 := hp 9
  have e11 : x11 = .int .i64 60 := hp 11
  subst e8 e9 e11
  obtain ⟨kd, nn, uu, s, A, m, c, A', m', c', bs, h8c, h8n⟩ := h8
  have HLb := Lib.hid (hL.next hB)
  have H8b := Lib.hid (below_row h8c hB)
  have H8n := Lib.hid (h8n.below hB)
  clear hp hL hT h6 h7 hB hblk hb1 hb2 h8c h8n
  go_upto_region 14 with fail
  refine wp_named (fun wn => LW w0 wn ∧ wn.heap[b8]? = some (.cells #[.int .i64 kd, .int .i64 nn, .int .u64 uu, .string s, .slice A m c, .slice A' m' c'] 38 (0, 0)) ∧ NRep wn (vecD [numD 5, tabD [[98], [97]] [numD 1, vecD [numD 9, numD 3]]]) [.int .i64 kd, .int .i64 nn, .int .u64 uu, .string s, .slice A m c, .slice A' m' c'] bs) ⟨HLb.out, H8b.out, H8n.out⟩ ?_
  clear HLb H8b H8n
  rintro w14 ⟨hL, h8, hN8⟩
  refine wp_region_each (n := 171) (posts14 b8 kd nn uu s A m c A' m' c') (by kernel_rfl) (by kernel_rfl) rfl (posts14_st b8 kd nn uu s A m c A' m' c') ?_ ?_ ?_
  · intro b hb t ht
    unfold posts14
    split
    · rfl
    · rfl
    · rfl
    · exact absurd rfl (ht 0 _ rfl)
    · exact absurd rfl (ht 1 _ rfl)
    · exact absurd rfl (ht 2 _ rfl)
    · exact absurd rfl (ht 3 _ rfl)
    · exact absurd rfl (ht 4 _ rfl)
    · exact absurd rfl (ht 5 _ rfl)
    · exact absurd rfl (ht 6 _ rfl)
    · exact absurd rfl (ht 7 _ rfl)
    · exact absurd rfl (ht 8 _ rfl)
    · exact absurd rfl (ht 9 _ rfl)
    · exact absurd rfl (ht 10 _ rfl)
    · exact absurd rfl (ht 11 _ rfl)
    · exact absurd rfl (ht 12 _ rfl)
    · exact absurd rfl (ht 13 _ rfl)
    · exact absurd rfl (ht 14 _ rfl)
    · exact absurd rfl (ht 15 _ rfl)
    · exact absurd rfl (ht 16 _ rfl)
    · exact absurd rfl (ht 17 _ rfl)
    · exact absurd rfl (ht 18 _ rfl)
    · exact absurd rfl (ht 19 _ rfl)
    · exact absurd rfl (ht 20 _ rfl)
    · exact absurd rfl (ht 21 _ rfl)
    · trivial
  · intro i o hi
    match i, hi with
    | 0, hi =>
      simp only [List.getElem?_toArray, List.getElem?_cons_zero, List.getElem?_cons_succ, Option.some.injEq] at hi
      subst hi
      intro B a w hB hb hk
      obtain ⟨b0, hb0⟩ := hB
      have e8 : a.eval (.tmp 8) = .pointer (some ⟨b8, 0, none⟩) := hk b0 hb0 8 (by decide)
      refine ⟨rfl, opwp_load6 rfl e8 (below_row h8 hb) ?_⟩
      exact ⟨Below.refl _ _, _, rfl, fun d hd b _ _ => by cases hd; rfl⟩
    | 1, hi =>
      simp only [List.getElem?_toArray, List.getElem?_cons_zero, List.getElem?_cons_succ, Option.some.injEq] at hi
      subst hi
      intro B a w hB hb hk
      obtain ⟨b0, hb0⟩ := hB
      refine ⟨rfl, opwp_call (fun v w' => v = .agg #[.int .i64 3, .int .i64 5, .int .u64 0, .string ⟨#[]⟩, .slice none 0 0, .slice none 0 0] ∧ Below w.heap.size w w') (exec_call [.int .i64 5] Tryz.func35 (by kernel_rfl) rfl rfl rfl) ?_ ?_⟩
      · refine (num8_any 5 w).mono ?_
        rintro e w' ⟨rfl, h⟩
        exact ⟨_, rfl, rfl, h⟩
      · rintro v w' ⟨rfl, h⟩
        exact ⟨h, _, rfl, fun d hd b _ _ => by cases hd; rfl⟩
    | 2, hi =>
      simp only [List.getElem?_toArray, List.getElem?_cons_zero, List.getElem?_cons_succ, Option.some.injEq] at hi
      subst hi
      intro B a w hB hb hk
      obtain ⟨b0, hb0⟩ := hB
      refine ⟨rfl, opwp_bsT2 rfl ?_⟩
      refine ⟨(Below.refl _ _).alloc (Nat.le_refl _) _, _, rfl, fun d hd b _ hbb => ?_⟩
      cases hd
      rw [World.size_alloc] at hbb
      exact ⟨w.heap.size, rfl, by omega, heap_alloc_new _ _⟩
    | 3, hi =>
      simp only [List.getElem?_toArray, List.getElem?_cons_zero, List.getElem?_cons_succ, Option.some.injEq] at hi
      subst hi
      intro B a w hB hb hk
      obtain ⟨b0, hb0⟩ := hB
      refine ⟨rfl, opwp_call (fun v w' => v = .agg #[.int .i64 3, .int .i64 1, .int .u64 0, .string ⟨#[]⟩, .slice none 0 0, .slice none 0 0] ∧ Below w.heap.size w w') (exec_call [.int .i64 1] Tryz.func35 (by kernel_rfl) rfl rfl rfl) ?_ ?_⟩
      · refine (num8_any 1 w).mono ?_
        rintro e w' ⟨rfl, h⟩
        exact ⟨_, rfl, rfl, h⟩
      · rintro v w' ⟨rfl, h⟩
        exact ⟨h, _, rfl, fun d hd b _ _ => by cases hd; rfl⟩
    | 4, hi =>
      simp only [List.getElem?_toArray, List.getElem?_cons_zero, List.getElem?_cons_succ, Option.some.injEq] at hi
      subst hi
      intro B a w hB hb hk
      obtain ⟨b0, hb0⟩ := hB
      refine ⟨rfl, opwp_call (fun v w' => v = .agg #[.int .i64 3, .int .i64 9, .int .u64 0, .string ⟨#[]⟩, .slice none 0 0, .slice none 0 0] ∧ Below w.heap.size w w') (exec_call [.int .i64 9] Tryz.func35 (by kernel_rfl) rfl rfl rfl) ?_ ?_⟩
      · refine (num8_any 9 w).mono ?_
        rintro e w' ⟨rfl, h⟩
        exact ⟨_, rfl, rfl, h⟩
      · rintro v w' ⟨rfl, h⟩
        exact ⟨h, _, rfl, fun d hd b _ _ => by cases hd; rfl⟩
    | 5, hi =>
      simp only [List.getElem?_toArray, List.getElem?_cons_zero, List.getElem?_cons_succ, Option.some.injEq] at hi
      subst hi
      intro B a w hB hb hk
      obtain ⟨b0, hb0⟩ := hB
      refine ⟨rfl, opwp_call (fun v w' => v = .agg #[.int .i64 3, .int .i64 3, .int .u64 0, .string ⟨#[]⟩, .slice none 0 0, .slice none 0 0] ∧ Below w.heap.size w w') (exec_call [.int .i64 3] Tryz.func35 (by kernel_rfl) rfl rfl rfl) ?_ ?_⟩
      · refine (num8_any 3 w).mono ?_
        rintro e w' ⟨rfl, h⟩
        exact ⟨_, rfl, rfl, h⟩
      · rintro v w' ⟨rfl, h⟩
        exact ⟨h, _, rfl, fun d hd b _ _ => by cases hd; rfl⟩
    | 6, hi =>
      simp only [List.getElem?_toArray, List.getElem?_cons_zero, List.getElem?_cons_succ, Option.some.injEq] at hi
      subst hi
      intro B a w hB hb hk
      obtain ⟨b0, hb0⟩ := hB
      have f154 : ∀ b, B b → NVp w (numD 9) b (a.eval (.tmp 154)) := fun b hb => by rw [show a.eval (.tmp 154) = .agg #[.int .i64 3, .int .i64 9, .int .u64 0, .string ⟨#[]⟩, .slice none 0 0, .slice none 0 0] from hk b hb 154 (by decide)]; exact num_nvp w 9 b
      have f155 : ∀ b, B b → NVp w (numD 3) b (a.eval (.tmp 155)) := fun b hb => by rw [show a.eval (.tmp 155) = .agg #[.int .i64 3, .int .i64 3, .int .u64 0, .string ⟨#[]⟩, .slice none 0 0, .slice none 0 0] from hk b hb 155 (by decide)]; exact num_nvp w 3 b
      refine ⟨rfl, st_bsN2 B ⟨b0, hb0⟩ rfl f154 f155 ?_⟩
      intro v w' h hv
      exact ⟨h, v, rfl, fun d hd b hbB hbb => by cases hd; exact hv b hbB hbb⟩
    | 7, hi =>
      simp only [List.getElem?_toArray, List.getElem?_cons_zero, List.getElem?_cons_succ, Option.some.injEq] at hi
      subst hi
      intro B a w hB hb hk
      obtain ⟨b0, hb0⟩ := hB
      have f156 : ∀ b, B b → RVp w [numD 9, numD 3] 2 b (a.eval (.tmp 156)) := fun b hb => hk b hb 156 (by decide)
      refine ⟨rfl, opwp_call (fun v w' => Below w.heap.size w w' ∧ ∀ b, B b → NVp w' (vecD [numD 9, numD 3]) b v) (exec_call [a.eval (.tmp 156)] Tryz.func36 (by kernel_rfl) rfl rfl rfl) (st_vec B ⟨b0, hb0⟩ rfl (by decide) f156) ?_⟩
      rintro v w' ⟨h, hv⟩
      exact ⟨h, _, rfl, fun d hd b hbB _ => by cases hd; exact hv b hbB⟩
    | 8, hi =>
      simp only [List.getElem?_toArray, List.getElem?_cons_zero, List.getElem?_cons_succ, Option.some.injEq] at hi
      subst hi
      intro B a w hB hb hk
      obtain ⟨b0, hb0⟩ := hB
      have f153 : ∀ b, B b → NVp w (numD 1) b (a.eval (.tmp 153)) := fun b hb => by rw [show a.eval (.tmp 153) = .agg #[.int .i64 3, .int .i64 1, .int .u64 0, .string ⟨#[]⟩, .slice none 0 0, .slice none 0 0] from hk b hb 153 (by decide)]; exact num_nvp w 1 b
      have f157 : ∀ b, B b → NVp w (vecD [numD 9, numD 3]) b (a.eval (.tmp 157)) := fun b hb => hk b hb 157 (by decide)
      refine ⟨rfl, st_bsN2 B ⟨b0, hb0⟩ rfl f153 f157 ?_⟩
      intro v w' h hv
      exact ⟨h, v, rfl, fun d hd b hbB hbb => by cases hd; exact hv b hbB hbb⟩
    | 9, hi =>
      simp only [List.getElem?_toArray, List.getElem?_cons_zero, List.getElem?_cons_succ, Option.some.injEq] at hi
      subst hi
      intro B a w hB hb hk
      obtain ⟨b0, hb0⟩ := hB
      have f158 : ∀ b, B b → RVp w [numD 1, (vecD [numD 9, numD 3])] 2 b (a.eval (.tmp 158)) := fun b hb => hk b hb 158 (by decide)
      refine ⟨rfl, opwp_call (fun v w' => Below w.heap.size w w' ∧ ∀ b, B b → NVp w' (tabD [[98], [97]] [numD 1, (vecD [numD 9, numD 3])]) b v) (exec_call [a.eval (.tmp 152), a.eval (.tmp 158)] Tryz.func34 (by kernel_rfl) rfl rfl rfl) (st_tab (ck := #[.string ⟨#[98]⟩, .string ⟨#[97]⟩]) B ⟨b0, hb0⟩ rfl rfl rfl (by decide) (fun b hb => hk b hb 152 (by decide)) f158) ?_⟩
      rintro v w' ⟨h, hv⟩
      exact ⟨h, _, rfl, fun d hd b hbB _ => by cases hd; exact hv b hbB⟩
    | 10, hi =>
      simp only [List.getElem?_toArray, List.getElem?_cons_zero, List.getElem?_cons_succ, Option.some.injEq] at hi
      subst hi
      intro B a w hB hb hk
      obtain ⟨b0, hb0⟩ := hB
      have f151 : ∀ b, B b → NVp w (numD 5) b (a.eval (.tmp 151)) := fun b hb => by rw [show a.eval (.tmp 151) = .agg #[.int .i64 3, .int .i64 5, .int .u64 0, .string ⟨#[]⟩, .slice none 0 0, .slice none 0 0] from hk b hb 151 (by decide)]; exact num_nvp w 5 b
      have f159 : ∀ b, B b → NVp w (tabD [[98], [97]] [numD 1, vecD [numD 9, numD 3]]) b (a.eval (.tmp 159)) := fun b hb => hk b hb 159 (by decide)
      refine ⟨rfl, st_bsN2 B ⟨b0, hb0⟩ rfl f151 f159 ?_⟩
      intro v w' h hv
      exact ⟨h, v, rfl, fun d hd b hbB hbb => by cases hd; exact hv b hbB hbb⟩
    | 11, hi =>
      simp only [List.getElem?_toArray, List.getElem?_cons_zero, List.getElem?_cons_succ, Option.some.injEq] at hi
      subst hi
      intro B a w hB hb hk
      obtain ⟨b0, hb0⟩ := hB
      have f160 : ∀ b, B b → RVp w [numD 5, (tabD [[98], [97]] [numD 1, vecD [numD 9, numD 3]])] 2 b (a.eval (.tmp 160)) := fun b hb => hk b hb 160 (by decide)
      refine ⟨rfl, opwp_call (fun v w' => Below w.heap.size w w' ∧ ∀ b, B b → NVp w' (vecD [numD 5, (tabD [[98], [97]] [numD 1, vecD [numD 9, numD 3]])]) b v) (exec_call [a.eval (.tmp 160)] Tryz.func36 (by kernel_rfl) rfl rfl rfl) (st_vec B ⟨b0, hb0⟩ rfl (by decide) f160) ?_⟩
      rintro v w' ⟨h, hv⟩
      exact ⟨h, _, rfl, fun d hd b hbB _ => by cases hd; exact hv b hbB⟩
    | 12, hi =>
      simp only [List.getElem?_toArray, List.getElem?_cons_zero, List.getElem?_cons_succ, Option.some.injEq] at hi
      subst hi
      intro B a w hB hb hk
      obtain ⟨b0, hb0⟩ := hB
      have e150 : a.eval (.tmp 150) = .agg #[.int .i64 kd, .int .i64 nn, .int .u64 uu, .string s, .slice A m c, .slice A' m' c'] := hk b0 hb0 150 (by decide)
      have f161 : ∀ b, B b → NVp w (vecD [numD 5, tabD [[98], [97]] [numD 1, vecD [numD 9, numD 3]]]) b (a.eval (.tmp 161)) := fun b hb => hk b hb 161 (by decide)
      obtain ⟨_, _, _, _, _, _, _, _, _, _, bs1, ew, hn1, -⟩ := f161 b0 hb0
      refine ⟨rfl, opwp_call (fun v w' => v = .bool true ∧ Below w.heap.size w w') (exec_call [a.eval (.tmp 150), a.eval (.tmp 161)] Tryz.func24 (by kernel_rfl) rfl rfl rfl) ?_ ?_⟩
      · rw [e150, ew]
        refine (eqnodeR_true (vecD [numD 5, tabD [[98], [97]] [numD 1, vecD [numD 9, numD 3]]]) w w _ _ _ _ _ _ _ _ _ _ _ _ (Below.refl _ _) (NRep.reads _ _ _ (hN8.below hb)) (NRep.reads _ _ _ hn1)).mono ?_
        rintro e w' ⟨rfl, h⟩
        exact ⟨_, rfl, rfl, h⟩
      · rintro v w' ⟨rfl, h⟩
        exact ⟨h, _, rfl, fun d hd b _ _ => by cases hd; rfl⟩
    | 13, hi =>
      simp only [List.getElem?_toArray, List.getElem?_cons_zero, List.getElem?_cons_succ, Option.some.injEq] at hi
      subst hi
      intro B a w hB hb hk
      obtain ⟨b0, hb0⟩ := hB
      have e162 : a.eval (.tmp 162) = .bool true := hk b0 hb0 162 (by decide)
      refine ⟨rfl, opwp_move rfl e162 ?_⟩
      exact ⟨Below.refl _ _, _, rfl, fun d hd b _ _ => by cases hd; rfl⟩
    | 14, hi =>
      simp only [List.getElem?_toArray, List.getElem?_cons_zero, List.getElem?_cons_succ, Option.some.injEq] at hi
      subst hi
      intro B a w hB hb hk
      obtain ⟨b0, hb0⟩ := hB
      have eg : a.eval (.tmp 163) = .bool true := hk b0 hb0 163 (by decide)
      have e9 : a.eval (.tmp 9) = .int .i64 0 := hk b0 hb0 9 (by decide)
      refine ⟨wanted_of rfl rfl eg, opwp_move rfl e9 ?_⟩
      exact ⟨Below.refl _ _, _, rfl, fun d hd b _ _ => by cases hd; rfl⟩
    | 15, hi =>
      simp only [List.getElem?_toArray, List.getElem?_cons_zero, List.getElem?_cons_succ, Option.some.injEq] at hi
      subst hi
      intro B a w hB hb hk
      obtain ⟨b0, hb0⟩ := hB
      have eg : a.eval (.tmp 163) = .bool true := hk b0 hb0 163 (by decide)
      have e164 : a.eval (.tmp 164) = .int .i64 0 := hk b0 hb0 164 (by decide)
      refine ⟨wanted_of rfl rfl eg, opwp_eqE rfl e164 ?_⟩
      exact ⟨Below.refl _ _, _, rfl, fun d hd b _ _ => by cases hd; rfl⟩
    | 16, hi =>
      simp only [List.getElem?_toArray, List.getElem?_cons_zero, List.getElem?_cons_succ, Option.some.injEq] at hi
      subst hi
      intro B a w hB hb hk
      obtain ⟨b0, hb0⟩ := hB
      have e163 : a.eval (.tmp 163) = .bool true := hk b0 hb0 163 (by decide)
      have e165 : a.eval (.tmp 165) = .bool true := hk b0 hb0 165 (by decide)
      refine ⟨rfl, opwp_pickT rfl e163 e165 ?_⟩
      exact ⟨Below.refl _ _, _, rfl, fun d hd b _ _ => by cases hd; rfl⟩
    | 17, hi =>
      simp only [List.getElem?_toArray, List.getElem?_cons_zero, List.getElem?_cons_succ, Option.some.injEq] at hi
      subst hi
      intro B a w hB hb hk
      obtain ⟨b0, hb0⟩ := hB
      have e166 : a.eval (.tmp 166) = .bool true := hk b0 hb0 166 (by decide)
      refine ⟨rfl, opwp_move rfl e166 ?_⟩
      exact ⟨Below.refl _ _, _, rfl, fun d hd b _ _ => by cases hd; rfl⟩
    | 18, hi =>
      simp only [List.getElem?_toArray, List.getElem?_cons_zero, List.getElem?_cons_succ, Option.some.injEq] at hi
      subst hi
      intro B a w hB hb hk
      obtain ⟨b0, hb0⟩ := hB
      have eg : a.eval (.tmp 167) = .bool true := hk b0 hb0 167 (by decide)
      have e11 : a.eval (.tmp 11) = .int .i64 60 := hk b0 hb0 11 (by decide)
      refine ⟨wanted_of rfl rfl eg, opwp_move rfl e11 ?_⟩
      exact ⟨Below.refl _ _, _, rfl, fun d hd b _ _ => by cases hd; rfl⟩
    | 19, hi =>
      simp only [List.getElem?_toArray, List.getElem?_cons_zero, List.getElem?_cons_succ, Option.some.injEq] at hi
      subst hi
      intro B a w hB hb hk
      obtain ⟨b0, hb0⟩ := hB
      have eg : a.eval (.tmp 167) = .bool true := hk b0 hb0 167 (by decide)
      have e168 : a.eval (.tmp 168) = .int .i64 60 := hk b0 hb0 168 (by decide)
      refine ⟨wanted_of rfl rfl eg, opwp_eqE rfl e168 ?_⟩
      exact ⟨Below.refl _ _, _, rfl, fun d hd b _ _ => by cases hd; rfl⟩
    | 20, hi =>
      simp only [List.getElem?_toArray, List.getElem?_cons_zero, List.getElem?_cons_succ, Option.some.injEq] at hi
      subst hi
      intro B a w hB hb hk
      obtain ⟨b0, hb0⟩ := hB
      have e167 : a.eval (.tmp 167) = .bool true := hk b0 hb0 167 (by decide)
      have e169 : a.eval (.tmp 169) = .bool true := hk b0 hb0 169 (by decide)
      refine ⟨rfl, opwp_pickT rfl e167 e169 ?_⟩
      exact ⟨Below.refl _ _, _, rfl, fun d hd b _ _ => by cases hd; rfl⟩
    | 21, hi =>
      simp only [List.getElem?_toArray, List.getElem?_cons_zero, List.getElem?_cons_succ, Option.some.injEq] at hi
      subst hi
      intro B a w hB hb hk
      obtain ⟨b0, hb0⟩ := hB
      have e170 : a.eval (.tmp 170) = .bool true := hk b0 hb0 170 (by decide)
      refine ⟨rfl, opwp_assign rfl e170 ?_⟩
      exact ⟨Below.refl _ _, _, rfl, fun d hd b _ _ => by cases hd; rfl⟩
    | k + 22, hi => cases hi
  rintro ⟨T, D⟩ w15 hB hD hz hp
  obtain rfl : D = [] := hD
  revert T
  refine lit171 ?_
  intro x0 x1 x2 x3 x4 x5 x6 x7 x8 x9 x10 x11 x12 x13 x14 x15 x16 x17 x18 x19 x20 x21 x22 x23 x24 x25 x26 x27 x28 x29 x30 x31 x32 x33 x34 x35 x36 x37 x38 x39 x40 x41 x42 x43 x44 x45 x46 x47 x48 x49 x50 x51 x52 x53 x54 x55 x56 x57 x58 x59 x60 x61 x62 x63 x64 x65 x66 x67 x68 x69 x70 x71 x72 x73 x74 x75 x76 x77 x78 x79 x80 x81 x82 x83 x84 x85 x86 x87 x88 x89 x90 x91 x92 x93 x94 x95 x96 x97 x98 x99 x100 x101 x102 x103 x104 x105 x106 x107 x108 x109 x110 x111 x112 x113 x114 x115 x116 x117 x118 x119 x120 x121 x122 x123 x124 x125 x126 x127 x128 x129 x130 x131 x132 x133 x134 x135 x136 x137 x138 x139 x140 x141 x142 x143 x144 x145 x146 x147 x148 x149 x150 x151 x152 x153 x154 x155 x156 x157 x158 x159 x160 x161 x162 x163 x164 x165 x166 x167 x168 x169 x170 hp
  have e0 : x0 = .bool true := hp _ (Nat.le_refl _) 0
  subst e0
  have HLb := Lib.hid (hL.next hB)
  clear hp hL h8 hN8 hB
  go_wp2_with fail
  go_ret
  exact ⟨rfl, HLb.out⟩
end
end Go.Proofs.YtlblddeemkefkaaGreatDoor
