/- The walks of verify.looker's tell and step. -/
import Derived.Test.YtmpflnlajakibaaAa
import Derived.Test.YtmpflnlajakibaaA7
namespace Go.Proofs.Ytmpflnlajakibaa
set_option linter.unusedVariables false
set_option linter.unusedSimpArgs false
open Go.RowKit
/-- Of the blocks that were there only those in S may have changed. -/
structure Touch (S : List Nat) (w w' : World) : Prop where
  os : w'.os = w.os
  tape : w'.tape = w.tape
  output : w'.output = w.output
  size : w.heap.size ≤ w'.heap.size
  block : ∀ i, i < w.heap.size → i ∉ S → w'.heap[i]? = w.heap[i]?
theorem Touch.refl (S : List Nat) (w : World) : Touch S w w := ⟨rfl, rfl, rfl, Nat.le_refl _, fun _ _ _ => rfl⟩
theorem Touch.trans {S : List Nat} {a b c : World} (h : Touch S a b) (k : Touch S b c) : Touch S a c :=
  ⟨k.os.trans h.os, k.tape.trans h.tape, k.output.trans h.output, Nat.le_trans h.size k.size, fun i hi hs => (k.block i (Nat.lt_of_lt_of_le hi h.size) hs).trans (h.block i hi hs)⟩
theorem Touch.quiet {S : List Nat} {w w' : World} (h : Below w.heap.size w w') : Touch S w w' := ⟨h.os, h.tape, h.output, h.size, fun i hi _ => h.block i hi⟩
theorem Touch.mono {S S' : List Nat} {w w' : World} (h : Touch S w w') (hs : ∀ x ∈ S, x ∈ S') : Touch S' w w' := ⟨h.os, h.tape, h.output, h.size, fun i hi hn => h.block i hi fun hx => hn (hs i hx)⟩
theorem Touch.setCell (w : World) (b o : Nat) (v : Value) : Touch [b] w (w.setCell ⟨b, o, none⟩ v) :=
  ⟨rfl, rfl, rfl, by simp, fun i _ hs => heap_setCell_other _ _ _ _ (by simpa using hs)⟩
theorem Touch.drew (w : World) (S : List Nat) : Touch S w w.drew := ⟨rfl, rfl, rfl, Nat.le_refl _, fun _ _ _ => rfl⟩
/-- The looker's cells. -/
def lkCells (bv : Value) (deep left steps : Int) (hm cm : Nat) (at_ e : Int) : Array Value :=
  #[bv, .int .i64 deep, .int .i64 left, .int .i64 steps, .map (some hm), .map (some cm), .int .i64 at_, .int .i64 e]
def tellE (e x : Int) : Int := if e = 0 then x else e
def tellA (e at_ a : Int) : Int := if e = 0 then a else at_
theorem tell_any (lk hm cm : Nat) (bv : Value) (deep left steps at_ e a x : Int) (w : World) (hr : w.heap[lk]? = some (.cells (lkCells bv deep left steps hm cm at_ e) 64 (0, 0))) :
    Calls Try.prog 45 #[.pointer (some ⟨lk, 0, none⟩), .int .i64 a, .int .i64 x] w fun en w' =>
      en = .returned (.bool (tellE e x == 0)) ∧ w'.heap[lk]? = some (.cells (lkCells bv deep left steps hm cm (tellA e at_ a) (tellE e x)) 64 (0, 0)) ∧ Touch [lk] w w' := by
  have Hr := Lib.hid hr
  have c7 : w.cell? ⟨lk, 7, none⟩ = some (.int .i64 e) := cell_of_row _ _ _ _ _ _ hr
  have c6 : w.cell? ⟨lk, 6, none⟩ = some (.int .i64 at_) := cell_of_row _ _ _ _ _ _ hr
  have f6 := frozen_of_row _ _ 6 _ _ hr
  have f7 := frozen_of_row _ _ 7 _ _ hr
  clear hr
  by_cases he : e = 0
  · subst he
    have e1 : tellE 0 x = x := by simp [tellE]
    have e2 : tellA 0 at_ a = a := by simp [tellA]
    rw [e1, e2]; clear e1 e2
    go_enter Try.func45, Try.ntmps45
    go_wp2
    go_returns
    exact ⟨rfl, heap_setCell_same _ _ _ _ _ _ (heap_setCell_same _ _ _ _ _ _ Hr.out), (Touch.setCell _ _ _ _).trans (Touch.setCell _ _ _ _)⟩
  · have he' : (e == 0) = false := by simpa using he
    have e1 : tellE e x = e := by simp [tellE, he]
    have e2 : tellA e at_ a = at_ := by simp [tellA, he]
    rw [e1, e2, he']; clear e1 e2 he
    go_enter Try.func45, Try.ntmps45
    go_wp2
    go_returns
    exact ⟨rfl, Hr.out, Touch.refl _ _⟩
theorem step_ok (lk hm cm : Nat) (bv : Value) (deep left steps at_ m a : Int) (w : World) (hr : w.heap[lk]? = some (.cells (lkCells bv deep left steps hm cm at_ 0) 64 (0, 0)))
    (h1 : 0 ≤ m) (h2 : m ≤ left) (h3 : left ≤ 1073741824) (h4 : 0 ≤ steps) (h5 : steps ≤ 1073741824) :
    Calls Try.prog 44 #[.pointer (some ⟨lk, 0, none⟩), .int .i64 m, .int .i64 a] w fun en w' =>
      en = .returned (.bool true) ∧ w'.heap[lk]? = some (.cells (lkCells bv deep (left - m) (steps + m) hm cm at_ 0) 64 (0, 0)) ∧ Touch [lk] w w' := by
  have Hr := Lib.hid hr
  have c2 : w.cell? ⟨lk, 2, none⟩ = some (.int .i64 left) := cell_of_row _ _ _ _ _ _ hr
  have c3 : w.cell? ⟨lk, 3, none⟩ = some (.int .i64 steps) := cell_of_row _ _ _ _ _ _ hr
  have c7 : w.cell? ⟨lk, 7, none⟩ = some (.int .i64 0) := cell_of_row _ _ _ _ _ _ hr
  have f2 := frozen_of_row _ _ 2 _ _ hr
  have f3 := frozen_of_row _ _ 3 _ _ hr
  clear hr
  have hlt : ¬ left < m := by omega
  have w1 : IntKind.i64.wrap (left - m) = left - m := IntWalk.i64_in _ (by omega)
  have w2 : IntKind.i64.wrap (steps + m) = steps + m := IntWalk.i64_in _ (by omega)
  go_enter Try.func44, Try.ntmps44
  go_wp2
  go_region
  all_goals go_wp2
  go_returns
  exact ⟨rfl, heap_setCell_same _ _ _ _ _ _ (heap_setCell_same _ _ _ _ _ _ Hr.out), ((Touch.setCell _ _ _ _).trans (Touch.setCell _ _ _ _)).trans (Touch.drew _ _)⟩
theorem step_no (lk hm cm : Nat) (bv : Value) (deep left steps at_ e m a : Int) (w : World) (hr : w.heap[lk]? = some (.cells (lkCells bv deep left steps hm cm at_ e) 64 (0, 0)))
    (h : e ≠ 0 ∨ left < m) :
    Calls Try.prog 44 #[.pointer (some ⟨lk, 0, none⟩), .int .i64 m, .int .i64 a] w fun en w' =>
      en = .returned (.bool false) ∧ w'.heap[lk]? = some (.cells (lkCells bv deep left steps hm cm (tellA e at_ a) (tellE e 290)) 64 (0, 0)) ∧ Touch [lk] w w' := by
  have Hr := Lib.hid hr
  have c2 : w.cell? ⟨lk, 2, none⟩ = some (.int .i64 left) := cell_of_row _ _ _ _ _ _ hr
  have c7 : w.cell? ⟨lk, 7, none⟩ = some (.int .i64 e) := cell_of_row _ _ _ _ _ _ hr
  clear hr
  have ht : (tellE e 290 == 0) = false := by
    unfold tellE; split
    · rfl
    · simpa using ‹¬ e = 0›
  by_cases he : e = 0
  · have hlt : left < m := by rcases h with h | h; exact absurd he h; exact h
    subst he
    clear h
    go_enter Try.func44, Try.ntmps44
    go_wp2_with (go_at_call 45; refine (tell_any lk hm cm bv deep left steps at_ 0 a 290 _ Hr.out).mono ?_; rintro en w1 ⟨rfl, hr1, ht1⟩)
    go_returns
    exact ⟨rfl, hr1, ht1⟩
  · have he' : (e != 0) = true := by simpa using he
    clear h
    go_enter Try.func44, Try.ntmps44
    go_wp2_with (go_at_call 45; refine (tell_any lk hm cm bv deep left steps at_ e a 290 _ Hr.out).mono ?_; rintro en w1 ⟨rfl, hr1, ht1⟩)
    go_returns
    exact ⟨rfl, hr1, ht1⟩
end Go.Proofs.Ytmpflnlajakibaa
