/- The walk of Bring. -/
import Derived.Test.YtmpflnlajakibaaIn
namespace Go.Proofs.Ytmpflnlajakibaa
set_option linter.unusedVariables false
set_option linter.unusedSimpArgs false
open Go.RowKit
def bringV (i n : Int) : Int := if Int.tmod i n < 0 then Int.tmod i n + n else Int.tmod i n
theorem bringV_bd (i : Int) {n : Int} (h : 0 < n) : 0 ≤ bringV i n ∧ bringV i n < n := by
  have h1 : Int.tmod i n < n := Int.tmod_lt_of_pos i h
  have h2 : -n < Int.tmod i n := by
    have := Int.tmod_lt_of_pos (-i) h
    rw [Int.neg_tmod] at this
    omega
  unfold bringV
  split <;> omega
theorem bring_any (i n : Int) (w : World) (h0 : 0 < n) (h1 : n ≤ 1073741824) : Calls Try.prog 16 #[.int .i64 i, .int .i64 n] w fun e w' => e = .returned (.int .i64 (bringV i n)) ∧ w = w' := by
  have h5 : Int.tmod i n < n := Int.tmod_lt_of_pos i h0
  have h6 : -n < Int.tmod i n := by
    have := Int.tmod_lt_of_pos (-i) h0
    rw [Int.neg_tmod] at this
    omega
  have hw : IntKind.i64.wrap (Int.tmod i n) = Int.tmod i n := IntWalk.i64_in _ (by omega)
  have hne : (n == 0) = false := by simp; omega
  have hne2 : ¬ n = 0 := by omega
  unfold bringV
  by_cases hs : Int.tmod i n < 0
  · have hw2 : IntKind.i64.wrap (Int.tmod i n + n) = Int.tmod i n + n := IntWalk.i64_in _ (by omega)
    have hw3 : wrap64 (Int.tmod i n + n) = Int.tmod i n + n := by rw [← IntWalk.i64_left]; exact hw2
    rw [if_pos hs]
    go_enter Try.func16, Try.ntmps16
    go_wp2
    go_returns
    exact ⟨rfl, rfl⟩
  · rw [if_neg hs]
    go_enter Try.func16, Try.ntmps16
    go_wp2
    go_returns
    exact ⟨rfl, rfl⟩
end Go.Proofs.Ytmpflnlajakibaa
