/- The law of the depth: its walk. -/
import Derived.Test.YtmpflnlajakibaaGive
namespace Go.Proofs.Ytmpflnlajakibaa
set_option linter.unusedVariables false
set_option linter.unusedSimpArgs false
open Go.RowKit
def bringV (i n : Int) : Int := if Int.tmod i n < 0 then Int.tmod i n + n else Int.tmod i n
theorem bringV_bd (i : Int) {n : Int} (h : 0 < n) : 0 ≤ bringV i n ∧ bringV i n < n := by
  have h1 : Int.tmod i n < n := Int.tmod_lt_of_pos i h
  have h2 : -n < Int.tmod i n := by
    have := Int.tmod_lt_of_pos (-i) h
    rw [Int.neg_tmod] at this
    omega
  unfold bringV
  split <;> omega
theorem bring_any (i n : Int) (w : World) (h0 : 0 < n) (h1 : n ≤ 1073741824) : Calls Try.prog 16 #[.int .i64 i, .int .i64 n] w fun e w' => e = .returned (.int .i64 (bringV i n)) ∧ w = w' := by
  have h5 : Int.tmod i n < n := Int.tmod_lt_of_pos i h0
  have h6 : -n < Int.tmod i n := by
    have := Int.tmod_lt_of_pos (-i) h0
    rw [Int.neg_tmod] at this
    omega
  have hw : IntKind.i64.wrap (Int.tmod i n) = Int.tmod i n := IntWalk.i64_in _ (by omega)
  have hne : (n == 0) = false := by simp; omega
  have hne2 : ¬ n = 0 := by omega
  unfold bringV
  by_cases hs : Int.tmod i n < 0
  · have hw2 : IntKind.i64.wrap (Int.tmod i n + n) = Int.tmod i n + n := IntWalk.i64_in _ (by omega)
    have hw3 : wrap64 (Int.tmod i n + n) = Int.tmod i n + n := by rw [← IntWalk.i64_left]; exact hw2
    rw [if_pos hs]
    go_enter Try.func16, Try.ntmps16
    go_wp2
    go_returns
    exact ⟨rfl, rfl⟩
  · rw [if_neg hs]
    go_enter Try.func16, Try.ntmps16
    go_wp2
    go_returns
    exact ⟨rfl, rfl⟩
def CheckIs2 (v : Value) (D : List UInt8) (dp B x1 x2 x3 x4 : Int) : Prop := ∀ W, Byt W v D → Calls Try.prog 12 #[v, .int .i64 dp, .int .i64 B] W fun en w' => en = .returned (.tuple #[.agg #[.int .i64 x1, .int .i64 x2, .int .i64 x3], .int .i64 x4]) ∧ Below W.heap.size W w'
theorem checkIs2 {v : Value} {D : List UInt8} {dp B : Int} (hB : B ≤ 1073741824) : CheckIs2 v D dp B (checkM D dp B).1.1 (checkM D dp B).1.2.1 (checkM D dp B).1.2.2 (checkM D dp B).2 :=
  fun W hW => check_byt v D W hW dp B hB
set_option maxHeartbeats 4000000 in
theorem deep_walk (a0 : Option Addr) (len0 cap0 : Nat) (z0 : List Int) (a1 : Int) (w : World) (w0 : IsRow .u8 w a0 len0 cap0 z0) :
    Calls Try.prog 6 #[.slice a0 len0 cap0, .int .i64 a1] w fun e w' => e = .returned (.bool true) ∧ Below w.heap.size w w' := by
  obtain ⟨k, c, L, hk, hL, hk5, hsl, hcp⟩ := front 500 (by omega) w0
  have hsl' : ∀ W : World, (Instr.slice 22 (.slice a0 len0 cap0) none (some (.int .i64 (min (len0 : Int) 500))) none).run Try.prog W = .ok (.slice a0 k c) W := hsl
  have HCP := Lib.hid hcp
  have HK := Lib.hid hk
  clear hcp hk hsl
  obtain ⟨l1, l2⟩ := depth_law L 64 (bringV a1 ((checkM L 64 1048576).1.2.2 + 3)) 1048576
  have HX := fun v => Lib.hid (checkIs2 (v := v) (D := L) (dp := 64) (B := 1048576) (by omega))
  have HB := fun v (d : Int) => Lib.hid (checkIs2 (v := v) (D := L) (dp := d) (B := 1048576) (by omega))
  generalize hx : checkM L 64 1048576 = x at *
  obtain ⟨⟨x1, x2, x3⟩, x4⟩ := x
  simp only at l1 l2 HX
  have HX' := Lib.hid HX
  clear HX hx w0 HK
  by_cases h4 : x4 = 0
  · subst h4
    clear l1
    obtain ⟨l3, l4, l5, l6⟩ := l2 rfl
    have hw3 : IntKind.i64.wrap (x3 + 3) = x3 + 3 := IntWalk.i64_in _ (by omega)
    obtain ⟨d1, d2⟩ := bringV_bd a1 (n := x3 + 3) (by omega)
    have HBR := Lib.hid (fun W => bring_any a1 (x3 + 3) W (by omega) (by omega))
    generalize bringV a1 (x3 + 3) = d at *
    have HB := fun v => HB v d
    generalize hy : checkM L d 1048576 = y at *
    obtain ⟨⟨y1, y2, y3⟩, y4⟩ := y
    simp only at HB l5 l6
    by_cases hle : x3 ≤ d
    · have hle' : ¬ d < x3 := by omega
      have l5 := l5 hle
      injection l5 with l5 l51
      injection l5 with l5 l52
      injection l52 with l52 l53
      subst l5; subst l51; subst l52; subst l53
      have HB' := Lib.hid HB
      clear HB l2 l6
      go_enter Try.func6, Try.ntmps6
      go_wp2_with fail
      refine (HCP.out _ (by (repeat' (first | (with_reducible exact Below.refl _ _) | (with_reducible assumption) | (with_reducible refine Below.alloc ?_ ?_ _) | (with_reducible refine Below.drew ?_) | (with_reducible refine below_drewN ?_ _) | (with_reducible refine Below.setCell ?_ ?_ _) | (with_reducible refine below_call (by assumption) ?_ ?_) | (with_reducible exact Nat.le_refl _) | omega | (simp only [World.size_alloc, World.size_setCell, World.size_drew]; omega) | (simp; omega))))).mono ?_
      rintro e w1 ⟨⟨v, rfl, hv⟩, hb1⟩
      have hz1 := hb1.size
      go_wp2_with fail
      refine ((HX'.out v).out _ (hv.below (by (repeat' (first | (with_reducible exact Below.refl _ _) | (with_reducible assumption) | (with_reducible refine Below.alloc ?_ ?_ _) | (with_reducible refine Below.drew ?_) | (with_reducible refine below_drewN ?_ _) | (with_reducible refine Below.setCell ?_ ?_ _) | (with_reducible refine below_call (by assumption) ?_ ?_) | (with_reducible exact Nat.le_refl _) | omega | (simp only [World.size_alloc, World.size_setCell, World.size_drew]; omega) | (simp; omega)))))).mono ?_
      rintro e w2 ⟨rfl, hb2⟩
      have hz2 := hb2.size
      go_wp2_with fail
      refine (HBR.out _).mono ?_
      rintro e w9 ⟨rfl, rfl⟩
      go_wp2_with fail
      refine ((HB'.out v).out _ (hv.below (by (repeat' (first | (with_reducible exact Below.refl _ _) | (with_reducible assumption) | (with_reducible refine Below.alloc ?_ ?_ _) | (with_reducible refine Below.drew ?_) | (with_reducible refine below_drewN ?_ _) | (with_reducible refine Below.setCell ?_ ?_ _) | (with_reducible refine below_call (by assumption) ?_ ?_) | (with_reducible exact Nat.le_refl _) | omega | (simp only [World.size_alloc, World.size_setCell, World.size_drew]; omega) | (simp; omega)))))).mono ?_
      rintro e w3 ⟨rfl, hb3⟩
      obtain ⟨hc3, -, -⟩ := bcell hb3
      have hz3 := hb3.size
      simp only [World.size_alloc] at hz3
      have g2_3 : w2.heap.size < w3.heap.size := by omega
      have k2_3 : w2.heap.size < w3.heap.size + 1 := by omega
      go_wp2_with fail
      refine (works_any _).mono ?_
      rintro e w4 ⟨rfl, hb4⟩
      go_wp2
      go_returns
      exact ⟨rfl, by (repeat' (first | (with_reducible exact Below.refl _ _) | (with_reducible assumption) | (with_reducible refine Below.alloc ?_ ?_ _) | (with_reducible refine Below.drew ?_) | (with_reducible refine below_drewN ?_ _) | (with_reducible refine Below.setCell ?_ ?_ _) | (with_reducible refine below_call (by assumption) ?_ ?_) | (with_reducible exact Nat.le_refl _) | omega | (simp only [World.size_alloc, World.size_setCell, World.size_drew]; omega) | (simp; omega)))⟩
    · have hle' : d < x3 := by omega
      obtain ⟨rfl, rfl⟩ := l6 hle'
      have HB' := Lib.hid HB
      clear HB l2 l5
      go_enter Try.func6, Try.ntmps6
      go_wp2_with fail
      refine (HCP.out _ (by (repeat' (first | (with_reducible exact Below.refl _ _) | (with_reducible assumption) | (with_reducible refine Below.alloc ?_ ?_ _) | (with_reducible refine Below.drew ?_) | (with_reducible refine below_drewN ?_ _) | (with_reducible refine Below.setCell ?_ ?_ _) | (with_reducible refine below_call (by assumption) ?_ ?_) | (with_reducible exact Nat.le_refl _) | omega | (simp only [World.size_alloc, World.size_setCell, World.size_drew]; omega) | (simp; omega))))).mono ?_
      rintro e w1 ⟨⟨v, rfl, hv⟩, hb1⟩
      have hz1 := hb1.size
      go_wp2_with fail
      refine ((HX'.out v).out _ (hv.below (by (repeat' (first | (with_reducible exact Below.refl _ _) | (with_reducible assumption) | (with_reducible refine Below.alloc ?_ ?_ _) | (with_reducible refine Below.drew ?_) | (with_reducible refine below_drewN ?_ _) | (with_reducible refine Below.setCell ?_ ?_ _) | (with_reducible refine below_call (by assumption) ?_ ?_) | (with_reducible exact Nat.le_refl _) | omega | (simp only [World.size_alloc, World.size_setCell, World.size_drew]; omega) | (simp; omega)))))).mono ?_
      rintro e w2 ⟨rfl, hb2⟩
      have hz2 := hb2.size
      go_wp2_with fail
      refine (HBR.out _).mono ?_
      rintro e w9 ⟨rfl, rfl⟩
      go_wp2_with fail
      refine ((HB'.out v).out _ (hv.below (by (repeat' (first | (with_reducible exact Below.refl _ _) | (with_reducible assumption) | (with_reducible refine Below.alloc ?_ ?_ _) | (with_reducible refine Below.drew ?_) | (with_reducible refine below_drewN ?_ _) | (with_reducible refine Below.setCell ?_ ?_ _) | (with_reducible refine below_call (by assumption) ?_ ?_) | (with_reducible exact Nat.le_refl _) | omega | (simp only [World.size_alloc, World.size_setCell, World.size_drew]; omega) | (simp; omega)))))).mono ?_
      rintro e w3 ⟨rfl, hb3⟩
      obtain ⟨hc3, -, -⟩ := bcell hb3
      have hz3 := hb3.size
      simp only [World.size_alloc] at hz3
      have g2_3 : w2.heap.size < w3.heap.size := by omega
      have k2_3 : w2.heap.size < w3.heap.size + 1 := by omega
      go_wp2_with fail
      refine (works_any _).mono ?_
      rintro e w4 ⟨rfl, hb4⟩
      go_wp2
      go_returns
      exact ⟨rfl, by (repeat' (first | (with_reducible exact Below.refl _ _) | (with_reducible assumption) | (with_reducible refine Below.alloc ?_ ?_ _) | (with_reducible refine Below.drew ?_) | (with_reducible refine below_drewN ?_ _) | (with_reducible refine Below.setCell ?_ ?_ _) | (with_reducible refine below_call (by assumption) ?_ ?_) | (with_reducible exact Nat.le_refl _) | omega | (simp only [World.size_alloc, World.size_setCell, World.size_drew]; omega) | (simp; omega)))⟩
  · obtain rfl := l1 h4
    have h4' : (x4 == 0) = false := by simpa using h4
    have h4n : (x4 != 0) = true := by simpa using h4
    clear l2 HB
    go_enter Try.func6, Try.ntmps6
    go_wp2_with fail
    refine (HCP.out _ (by (repeat' (first | (with_reducible exact Below.refl _ _) | (with_reducible assumption) | (with_reducible refine Below.alloc ?_ ?_ _) | (with_reducible refine Below.drew ?_) | (with_reducible refine below_drewN ?_ _) | (with_reducible refine Below.setCell ?_ ?_ _) | (with_reducible refine below_call (by assumption) ?_ ?_) | (with_reducible exact Nat.le_refl _) | omega | (simp only [World.size_alloc, World.size_setCell, World.size_drew]; omega) | (simp; omega))))).mono ?_
    rintro e w1 ⟨⟨v, rfl, hv⟩, hb1⟩
    have hz1 := hb1.size
    go_wp2_with fail
    refine ((HX'.out v).out _ (hv.below (by (repeat' (first | (with_reducible exact Below.refl _ _) | (with_reducible assumption) | (with_reducible refine Below.alloc ?_ ?_ _) | (with_reducible refine Below.drew ?_) | (with_reducible refine below_drewN ?_ _) | (with_reducible refine Below.setCell ?_ ?_ _) | (with_reducible refine below_call (by assumption) ?_ ?_) | (with_reducible exact Nat.le_refl _) | omega | (simp only [World.size_alloc, World.size_setCell, World.size_drew]; omega) | (simp; omega)))))).mono ?_
    rintro e w2 ⟨rfl, hb2⟩
    have hz2 := hb2.size
    go_wp2_with fail
    refine (works_any _).mono ?_
    rintro e w4 ⟨rfl, hb4⟩
    go_wp2
    go_returns
    exact ⟨rfl, by (repeat' (first | (with_reducible exact Below.refl _ _) | (with_reducible assumption) | (with_reducible refine Below.alloc ?_ ?_ _) | (with_reducible refine Below.drew ?_) | (with_reducible refine below_drewN ?_ _) | (with_reducible refine Below.setCell ?_ ?_ _) | (with_reducible refine below_call (by assumption) ?_ ?_) | (with_reducible exact Nat.le_refl _) | omega | (simp only [World.size_alloc, World.size_setCell, World.size_drew]; omega) | (simp; omega)))⟩
end Go.Proofs.Ytmpflnlajakibaa
