/- The walks of lex.reader's one, over, token and of lex.wrong. -/
import Derived.Test.YtccmhhmdenfecaaGreatDoorLb
import Derived.Test.YtccmhhmdenfecaaGreatDoorT0
import Derived.Deep.RegionLaw
import Derived.Deep.LoopGhost
import Derived.Handy
import Derived.IntWalk
import Derived.WalkSmall
import Derived.Shelf.Strings.SlTrimAscii
namespace Go.Proofs.YtccmhhmdenfecaaGreatDoor
set_option linter.unusedVariables false
set_option linter.unusedSimpArgs false
open Go.RowKit Go.Shelf
theorem Tch.mono {B B' : Nat} {T T' : List Nat} {a b : World} (h : Tch B T a b) (hB : B' ≤ B) (hT : ∀ x ∈ T, x < B' → x ∈ T') : Tch B' T' a b :=
  ⟨h.os, h.tape, h.output, h.size, fun i hi hn => h.block i (by omega) fun hx => hn (hT i hx hi)⟩
theorem _root_.Go.Below.tch {B : Nat} {T : List Nat} {w w' : World} (h : Below B w w') : Tch B T w w' := ⟨h.os, h.tape, h.output, h.size, fun i hi _ => h.block i hi⟩
theorem Tch.below {B : Nat} {T : List Nat} {w w' : World} (h : Tch B T w w') (hT : ∀ x ∈ T, B ≤ x) : Below B w w' := ⟨h.os, h.tape, h.output, h.size, fun i hi => h.block i hi fun hx => by have := hT i hx; omega⟩
theorem Tch.set {B : Nat} {T : List Nat} {a w : World} (h : Tch B T a w) {p : Addr} (hp : p.block ∈ T ∨ B ≤ p.block) (u : Value) : Tch B T a (w.setCell p u) :=
  h.trans (by
    have hb := (Below.refl 0 w).setCell (p := p) (Nat.zero_le _) u
    exact ⟨hb.os, hb.tape, hb.output, hb.size, fun i hi hn => Below.heap_setCell _ _ _ _ (by rintro rfl; rcases hp with hp | hp; exact hn hp; omega)⟩)
theorem Tch.call {B : Nat} {T : List Nat} {a w w1 : World} (h : Tch B T a w) (k : Tch w.heap.size T w w1) (hB : B ≤ w.heap.size) : Tch B T a w1 := h.trans (k.mono hB fun _ h _ => h)
theorem Tch.quiet {B : Nat} {T : List Nat} {a w w1 : World} (h : Tch B T a w) (k : Below w.heap.size w w1) (hB : B ≤ w.heap.size) : Tch B T a w1 := h.trans (Below.tch (k.mono hB))
theorem Tch.row {B : Nat} {T : List Nat} {w w1 : World} {g : Nat} {o : Obj} (h : Tch B T w w1) (hg : w.heap[g]? = some o) (hB : g < B) (hn : g ∉ T) : w1.heap[g]? = some o := (h.block g hB hn).trans hg
/-- A string cut out of a string. -/
theorem sub_run (l : List UInt8) (i j : Nat) (hij : i ≤ j) (hj : j ≤ l.length) (W : World) : (Instr.slice 9 (.string ⟨l.toArray⟩) (some (.int .i64 i)) (some (.int .i64 j)) none).run Tryz.prog W = .ok (.string ⟨((l.drop i).take (j - i)).toArray⟩) W := by
  refine (run_slice_string W 9 ⟨l.toArray⟩ .i64 .i64 i j Tryz.underlying9 (by omega) (by omega) (by simp [ByteArray.size]; omega)).trans ?_
  have e : (⟨l.toArray⟩ : ByteArray).extract i j = ⟨((l.drop i).take (j - i)).toArray⟩ := by
    apply ByteArray.ext
    rw [ByteArray.data_extract]
    apply Array.toList_inj.1
    simp
  simp only [Int.toNat_natCast, e]
theorem sub_from (l : List UInt8) (i : Nat) (hi : i ≤ l.length) (W : World) : (Instr.slice 9 (.string ⟨l.toArray⟩) (some (.int .i64 i)) none none).run Tryz.prog W = .ok (.string ⟨(l.drop i).toArray⟩) W := by
  refine (run_slice_string_l (w := W) (t := 9) (s := ⟨l.toArray⟩) Tryz.underlying9 .i64 i (by omega) (by simp [ByteArray.size]; omega)).trans ?_
  have e : (⟨l.toArray⟩ : ByteArray).extract i (⟨l.toArray⟩ : ByteArray).size = ⟨(l.drop i).toArray⟩ := by
    apply ByteArray.ext
    rw [ByteArray.data_extract]
    apply Array.toList_inj.1
    simp [ByteArray.size]
    rw [List.take_of_length_le (by rw [List.length_drop]; exact Nat.le_refl _)]
  simp only [Int.toNat_natCast, e]
/-- The lexer's reader lies in the block R. -/
def LRow (w : World) (R : Nat) (l : List UInt8) (k f : Int) : Prop := w.heap[R]? = some (.cells #[strV l, .int .i64 k, .int .i64 f] 118 (0, 0))
theorem LRow.cells {w : World} {R : Nat} {l : List UInt8} {k f : Int} (h : LRow w R l k f) : w.cell? ⟨R, 0, none⟩ = some (strV l) ∧ w.cell? ⟨R, 1, none⟩ = some (.int .i64 k) ∧ w.cell? ⟨R, 2, none⟩ = some (.int .i64 f) ∧ (∀ i, w.frozen? ⟨R, i, none⟩ = false) := by
  refine ⟨?_, ?_, ?_, fun i => ?_⟩
  all_goals first | (rw [Lib.cell_of_heap h]; rfl) | exact Lib.frozen_of_heap h i
theorem LRow.lt {w : World} {R : Nat} {l : List UInt8} {k f : Int} (h : LRow w R l k f) : R < w.heap.size := row_lt h
theorem LRow.at_ {w : World} {R : Nat} {l : List UInt8} {k f : Int} (h : LRow w R l k f) (k' : Int) : LRow (w.setCell ⟨R, 1, none⟩ (.int .i64 k')) R l k' f := row_set 1 _ h
theorem LRow.from {w : World} {R : Nat} {l : List UInt8} {k f : Int} (h : LRow w R l k f) (f' : Int) : LRow (w.setCell ⟨R, 2, none⟩ (.int .i64 f')) R l k f' := row_set 2 _ h
theorem idx_mem (l : List UInt8) (c : UInt8) : (Lib.indexByte l c = -1 ∧ l.contains c = false) ∨ (0 ≤ Lib.indexByte l c ∧ l.contains c = true) := by
  induction l with
  | nil => exact .inl ⟨rfl, rfl⟩
  | cons b l ih =>
    rw [Lib.indexByte, List.contains_cons]
    by_cases h : b = c
    · subst h; simp
    · have h1 : (b == c) = false := by simpa using h
      have h2 : (c == b) = false := by simpa using Ne.symm h
      rw [h1, h2]
      rcases ih with ⟨a, b⟩ | ⟨a, b⟩
      · left; rw [a, b]; exact ⟨by simp, by simp⟩
      · right
        have : (Lib.indexByte l c == -1) = false := by simp; omega
        rw [this, b]
        simp; omega
/-- Whether the byte at k is one of some. -/
def oneB (l some_ : List UInt8) (k : Nat) : Bool := decide (k < l.length) && some_.contains (l.getD k 0)
def oneN (l some_ : List UInt8) (k : Nat) : Nat := if oneB l some_ k = true then 1 else 0
/-- What one hands back and leaves. -/
def OnePost (R : Nat) (w : World) (l : List UInt8) (f : Int) (b : Bool) (k : Nat) (e : Ending) (w' : World) : Prop := e = .returned (.bool b) ∧ Tch w.heap.size [R] w w' ∧ LRow w' R l k f
set_option maxHeartbeats 4000000 in
set_option maxRecDepth 100000 in
theorem one_any (l some_ : List UInt8) (k : Nat) (f : Int) (R : Nat) (w : World) (h : LRow w R l k f) (hl : l.length ≤ 1073741824) :
    Calls Tryz.prog 103 #[.pointer (some ⟨R, 0, none⟩), strV some_] w (OnePost R w l f (oneB l some_ k) (k + oneN l some_ k)) := by
  have hRw := h.lt
  obtain ⟨c0, c1, -, cf⟩ := h.cells
  have f1 := cf 1
  clear cf
  unfold strV at c0 ⊢
  have Hh := Lib.hid h
  clear h
  have hs : (⟨l.toArray⟩ : ByteArray).size = l.length := by simp [ByteArray.size]
  by_cases hk : k < l.length
  · have hlt : decide (k < l.length) = true := by simpa using hk
    have hltz : (k : Int) < (l.length : Int) := by omega
    have hidx : (⟨l.toArray⟩ : ByteArray)[k]'(by omega) = l.getD k 0 := by
      show l.toArray[k] = _
      simp [List.getD_eq_getElem?_getD, hk]
    have HI := fun W => (Tryz.strings_IndexByte ⟨some_.toArray⟩ ((l.getD k 0).toNat : Int) W).mono fun e w' h => And.intro h.1 h.2
    have hcn : (((l.getD k 0).toNat : Int).toNat).toUInt8 = l.getD k 0 := by simp
    rw [hcn] at HI
    have hone : oneB l some_ k = some_.contains (l.getD k 0) := by unfold oneB; rw [hlt, Bool.true_and]
    have q1 : IntKind.i64.wrap ((k : Int) + 1) = k + 1 := IntWalk.i64_in _ (by omega)
    rcases idx_mem some_ (l.getD k 0) with ⟨i1, i2⟩ | ⟨i1, i2⟩
    · rw [i2] at hone
      have hN : oneN l some_ k = 0 := by unfold oneN; rw [hone]; rfl
      rw [hone, hN]
      rw [show (⟨some_.toArray⟩ : ByteArray).data.toList = some_ from rfl, i1] at HI
      clear i1 i2 hone hN hcn hlt q1
      generalize l.getD k 0 = c at *
      have HI2 := Lib.hid HI
      clear HI
      go_enter Tryz.func103, Tryz.ntmps103
      go_wp2_with fail
      go_quiet ((go_at_call 79; exact Calls.quiet_of_same (HI2.out _)))
      go_wp2_with fail
      go_ret
      exact ⟨rfl, (Tch.refl _ _ w).drewN _, Hh.out⟩
    · rw [i2] at hone
      have hN : oneN l some_ k = 1 := by unfold oneN; rw [hone]; rfl
      rw [hone, hN]
      rw [show (⟨some_.toArray⟩ : ByteArray).data.toList = some_ from rfl] at HI
      generalize Lib.indexByte some_ (l.getD k 0) = y at *
      clear i2 hone hN hcn hlt
      generalize l.getD k 0 = c at *
      have HI2 := Lib.hid HI
      clear HI
      go_enter Tryz.func103, Tryz.ntmps103
      go_wp2_with fail
      go_quiet ((go_at_call 79; exact Calls.quiet_of_same (HI2.out _)))
      go_wp2_with fail
      go_ret
      exact ⟨rfl, ((Tch.refl _ _ w).drewN _).set (.inl (by simp)) _, (show LRow (w.drewN _) R l k f from Hh.out).at_ _⟩
  · have hlt : decide (k < l.length) = false := by simpa using hk
    have hone : oneB l some_ k = false := by unfold oneB; rw [hlt]; rfl
    have hN : oneN l some_ k = 0 := by unfold oneN; rw [hone]; rfl
    rw [hone, hN]
    clear hone hN hk
    go_enter Tryz.func103, Tryz.ntmps103
    go_wp2_with fail
    go_quiet (fail)
    go_wp2_with fail
    go_ret
    exact ⟨rfl, (Tch.refl _ _ w).drewN _, Hh.out⟩
/-- How many bytes from k on are of some. -/
def overN (l some_ : List UInt8) (k : Nat) : Nat := ((l.drop k).takeWhile (some_.contains ·)).length
theorem overN_le (l some_ : List UInt8) (k : Nat) : overN l some_ k ≤ l.length - k := by
  unfold overN
  have := (List.takeWhile_sublist (l := l.drop k) (some_.contains ·)).length_le
  rw [List.length_drop] at this
  exact this
theorem trim_len (l cs : List UInt8) (k : Nat) : (Lib.trimLeftS (l.drop k) cs).length = l.length - k - overN l cs k := by
  unfold Lib.trimLeftS overN
  have h1 := congrArg List.length (List.takeWhile_append_dropWhile (p := (cs.contains ·)) (l := l.drop k))
  rw [List.length_append, List.length_drop] at h1
  omega
set_option maxHeartbeats 4000000 in
set_option maxRecDepth 100000 in
theorem over_any (l cs : List UInt8) (k : Nat) (f : Int) (R : Nat) (w : World) (h : LRow w R l k f) (hk : k ≤ l.length) (hl : l.length ≤ 1073741824) (hcs : cs.length ≤ 100) (ha : ∀ (j : Nat) b, cs[j]? = some b → b.toNat < 128) :
    Calls Tryz.prog 68 #[.pointer (some ⟨R, 0, none⟩), strV cs] w (OnePost R w l f (decide (0 < overN l cs k)) (k + overN l cs k)) := by
  have hRw := h.lt
  obtain ⟨c0, c1, -, cf⟩ := h.cells
  have f1 := cf 1
  clear cf
  unfold strV at c0 ⊢
  have Hh := Lib.hid h
  clear h
  have hs : (⟨l.toArray⟩ : ByteArray).size = l.length := by simp [ByteArray.size]
  have hsl : (⟨l.toArray⟩ : ByteArray).extract k l.length = ⟨(l.drop k).toArray⟩ := by
    apply ByteArray.ext
    simp [ByteArray.data_extract]
    rw [List.take_of_length_le (by rw [List.length_drop]; exact Nat.le_refl _)]
  have HT := Lib.hid fun W => Any.strings_TrimLeft_laid Tryz.lays161 (by kernel_rfl) ⟨(l.drop k).toArray⟩ ⟨cs.toArray⟩ W (by simp [ByteArray.size]; omega) ha
  have hn := trim_len l cs k
  have hle := overN_le l cs k
  have hdl : (l.drop k).length = l.length - k := List.length_drop
  dsimp only at HT
  generalize overN l cs k = n at *
  generalize Lib.trimLeftS (l.drop k) cs = t at *
  generalize l.drop k = d at *
  have hs1 : (⟨d.toArray⟩ : ByteArray).size = d.length := by simp [ByteArray.size]
  have hs2 : (⟨t.toArray⟩ : ByteArray).size = t.length := by simp [ByteArray.size]
  have q1 : IntKind.i64.wrap ((d.length : Int) - t.length) = n := by rw [IntWalk.i64_in _ (by omega)]; omega
  have q2 : IntKind.i64.wrap ((k : Int) + n) = k + n := IntWalk.i64_in _ (by omega)
  have Q := Lib.hid (And.intro hdl hn)
  clear hdl hn ha
  go_enter Tryz.func68, Tryz.ntmps68
  go_wp2_with fail
  go_quiet (fail)
  go_wp2_with fail
  refine (HT.out _).mono ?_
  rintro e w1 ⟨rfl, hb⟩
  have hR1 : LRow w1 R l k f := hb.block _ hRw |>.trans Hh.out
  obtain ⟨c0', c1', -, cf'⟩ := hR1.cells
  have f1' := cf' 1
  have H1 := Lib.hid hR1
  have HB := Lib.hid hb
  clear cf' hR1 hb
  go_wp2_with fail
  go_ret
  exact ⟨rfl, (((Tch.refl _ _ w).drewN _).quiet HB.out (by simp)).set (.inl (by simp)) _, H1.out.at_ _⟩
/-- A token, and a token with its errno, as values. -/
def tokV (t : Tok) : Value := .agg #[.int .i64 t.kind, .int .i64 t.from_, .int .i64 t.to_, .int .i64 t.n, .int .u64 t.u, strV t.text]
def trV (r : TR) : Value := .tuple #[tokV r.1, .int .i64 r.2]
set_option maxHeartbeats 4000000 in
set_option maxRecDepth 100000 in
theorem wrong_any (a e : Int) (w : World) : Calls Tryz.prog 67 #[.int .i64 a, .int .i64 e] w fun o w' => o = .returned (trV (wrongT a e)) ∧ Below w.heap.size w w' := by
  go_enter Tryz.func67, Tryz.ntmps67
  go_wp2_with fail
  refine bodyPost_ret (v := trV (wrongT a e)) (by simp [results, Tryz.results67, go_sem, trV, tokV, wrongT, strV]) rfl ?_
  exact ⟨rfl, (Below.refl _ _).alloc (Nat.le_refl _) _⟩
set_option maxHeartbeats 4000000 in
set_option maxRecDepth 100000 in
theorem token_any (l : List UInt8) (t : Tok) (k f : Int) (R : Nat) (w : World) (h : LRow w R l k f) :
    Calls Tryz.prog 69 #[.pointer (some ⟨R, 0, none⟩), tokV t] w fun o w' => o = .returned (trV ({ t with from_ := f, to_ := k }, 0)) ∧ Below w.heap.size w w' := by
  have hRw := h.lt
  obtain ⟨c0, c1, c2, cf⟩ := h.cells
  clear cf c0 h
  unfold tokV strV
  go_enter Tryz.func69, Tryz.ntmps69
  go_wp2_with fail
  go_region
  go_wp2_with fail
  refine bodyPost_ret (v := trV ({ t with from_ := f, to_ := k }, 0)) (by simp [results, Tryz.results69, go_sem, trV, tokV, strV]) rfl ?_
  exact ⟨rfl, (((Below.refl _ _).alloc (Nat.le_refl _) _).alloc (by simp) _).drew⟩
end Go.Proofs.YtccmhhmdenfecaaGreatDoor
