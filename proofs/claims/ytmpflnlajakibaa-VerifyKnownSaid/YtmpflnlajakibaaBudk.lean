/- The law of the budget: its walk. -/
import Derived.Test.YtmpflnlajakibaaB4
import Derived.Test.YtmpflnlajakibaaBl
namespace Go.Proofs.Ytmpflnlajakibaa
set_option linter.unusedVariables false
set_option linter.unusedSimpArgs false
open Go.RowKit
def CheckIs (v : Value) (D : List UInt8) (dp B x1 x2 x3 x4 : Int) : Prop := ∀ W, Byt W v D → Calls Try.prog 12 #[v, .int .i64 dp, .int .i64 B] W fun en w' => en = .returned (.tuple #[.agg #[.int .i64 x1, .int .i64 x2, .int .i64 x3], .int .i64 x4]) ∧ Below W.heap.size W w'
theorem checkIs {v : Value} {D : List UInt8} {dp B : Int} (hB : B ≤ 1073741824) : CheckIs v D dp B (checkM D dp B).1.1 (checkM D dp B).1.2.1 (checkM D dp B).1.2.2 (checkM D dp B).2 :=
  fun W hW => check_byt v D W hW dp B hB
set_option maxHeartbeats 4000000 in
theorem bud_core (a0 : Option Addr) (len0 cap0 : Nat) (a1 : Int) (a2 : Int) (w : World) (hF : FrontOk 500 w a0 len0 cap0) :
    Calls Try.prog 4 #[.slice a0 len0 cap0, .int .i64 a1, .int .i64 a2] w fun e w' => e = .returned (.bool true) ∧ Below w.heap.size w w' := by
  obtain ⟨k, c, L, hk, hL, hk5, hsl, hcp, -⟩ := hF
  have hsl' : ∀ W : World, (Instr.slice 22 (.slice a0 len0 cap0) none (some (.int .i64 (min (len0 : Int) 500))) none).run Try.prog W = .ok (.slice a0 k c) W := hsl
  have HCP := Lib.hid hcp
  have HK := Lib.hid hk
  clear hcp hk hsl
  obtain ⟨m, hm⟩ : ∃ m, min a2 4000 = m := ⟨_, rfl⟩
  obtain ⟨M, hM⟩ : ∃ M, max m 0 = M := ⟨_, rfl⟩
  have m1 : m ≤ 4000 := by omega
  have M1 : M ≤ 4000 := by omega
  have M0 : 0 ≤ M := by omega
  obtain ⟨l1, l2, l3, l4⟩ := budget_law L (by omega) a1 m
  rw [hM] at l2 l3
  have hMc : m ≤ M := by omega
  have HX := fun v => Lib.hid (checkIs (v := v) (D := L) (dp := a1) (B := m) (by omega))
  have HY := fun v => Lib.hid (checkIs (v := v) (D := L) (dp := a1) (B := M + 600) (by omega))
  generalize checkM L a1 (M + 600) = y at HY l3
  have HB := fun v (B : Int) (hB : B ≤ 1073741824) => Lib.hid (checkIs (v := v) (D := L) (dp := a1) (B := B) hB)
  generalize hx : checkM L a1 m = x at *
  obtain ⟨⟨x1, x2, x3⟩, x4⟩ := x
  obtain ⟨⟨y1, y2, y3⟩, y4⟩ := y
  simp only at l1 l2 l3 l4 HX HY
  have HX' := Lib.hid HX
  have HY' := Lib.hid HY
  clear HX HY hx hL hk5 HK hMc
  have x0 : ¬ x1 < 0 := by omega
  have x5 : ¬ M < x1 := by omega
  by_cases h290 : x4 = 290
  · subst h290
    clear HB l4
    have l3 := l3 rfl
    by_cases hy : y4 = 290
    · subst hy
      have hyx : x1 < y1 := by omega
      clear l3
      go_enter Try.func4, Try.ntmps4
      go_wp2_with fail
      refine (HCP.out _ (by (repeat' first | (with_reducible first | exact zb0 _ _ | assumption | refine zb1 ?_ ?_ _ | refine zb2 ?_ | refine zb3 ?_ _ | refine zb4 ?_ ?_ _ | refine zb5 (by assumption) ?_ ?_ | exact zb6 _) | omega | (simp <;> omega)))).mono ?_
      rintro e w1 ⟨⟨v, rfl, hv⟩, hb1⟩
      have hz1 := hb1.size
      go_wp2_with fail
      refine ((HX'.out v).out _ (hv.below (by (repeat' first | (with_reducible first | exact zb0 _ _ | assumption | refine zb1 ?_ ?_ _ | refine zb2 ?_ | refine zb3 ?_ _ | refine zb4 ?_ ?_ _ | refine zb5 (by assumption) ?_ ?_ | exact zb6 _) | omega | (simp <;> omega))))).mono ?_
      rintro e w2 ⟨rfl, hb2⟩
      have hz2 := hb2.size
      go_wp2_with fail
      refine ((HY'.out v).out _ (hv.below (by (repeat' first | (with_reducible first | exact zb0 _ _ | assumption | refine zb1 ?_ ?_ _ | refine zb2 ?_ | refine zb3 ?_ _ | refine zb4 ?_ ?_ _ | refine zb5 (by assumption) ?_ ?_ | exact zb6 _) | omega | (simp <;> omega))))).mono ?_
      rintro e w3 ⟨rfl, hb3⟩
      obtain ⟨hc3, -, -⟩ := bcell hb3
      have hz3 := hb3.size
      simp only [World.size_alloc] at hz3
      have g3 : w2.heap.size < w3.heap.size := by omega
      go_wp2_with fail
      refine (works_any _).mono ?_
      rintro e w4 ⟨rfl, hb4⟩
      go_wp2
      go_returns
      exact ⟨rfl, by (repeat' first | (with_reducible first | exact zb0 _ _ | assumption | refine zb1 ?_ ?_ _ | refine zb2 ?_ | refine zb3 ?_ _ | refine zb4 ?_ ?_ _ | refine zb5 (by assumption) ?_ ?_ | exact zb6 _) | omega | (simp <;> omega))⟩
    · obtain ⟨-, hyx⟩ : y4 ≠ 290 ∧ x1 ≤ y1 := by omega
      have hy' : (y4 != 290) = true := by simpa using hy
      clear l3 hy
      go_enter Try.func4, Try.ntmps4
      go_wp2_with fail
      refine (HCP.out _ (by (repeat' first | (with_reducible first | exact zb0 _ _ | assumption | refine zb1 ?_ ?_ _ | refine zb2 ?_ | refine zb3 ?_ _ | refine zb4 ?_ ?_ _ | refine zb5 (by assumption) ?_ ?_ | exact zb6 _) | omega | (simp <;> omega)))).mono ?_
      rintro e w1 ⟨⟨v, rfl, hv⟩, hb1⟩
      have hz1 := hb1.size
      go_wp2_with fail
      refine ((HX'.out v).out _ (hv.below (by (repeat' first | (with_reducible first | exact zb0 _ _ | assumption | refine zb1 ?_ ?_ _ | refine zb2 ?_ | refine zb3 ?_ _ | refine zb4 ?_ ?_ _ | refine zb5 (by assumption) ?_ ?_ | exact zb6 _) | omega | (simp <;> omega))))).mono ?_
      rintro e w2 ⟨rfl, hb2⟩
      have hz2 := hb2.size
      go_wp2_with fail
      refine ((HY'.out v).out _ (hv.below (by (repeat' first | (with_reducible first | exact zb0 _ _ | assumption | refine zb1 ?_ ?_ _ | refine zb2 ?_ | refine zb3 ?_ _ | refine zb4 ?_ ?_ _ | refine zb5 (by assumption) ?_ ?_ | exact zb6 _) | omega | (simp <;> omega))))).mono ?_
      rintro e w3 ⟨rfl, hb3⟩
      obtain ⟨hc3, -, -⟩ := bcell hb3
      have hz3 := hb3.size
      simp only [World.size_alloc] at hz3
      have g2_3 : w2.heap.size < w3.heap.size := by omega
      have k2_3 : w2.heap.size < w3.heap.size + 1 := by omega
      go_wp2_with fail
      go_returns
      exact ⟨rfl, by (repeat' first | (with_reducible first | exact zb0 _ _ | assumption | refine zb1 ?_ ?_ _ | refine zb2 ?_ | refine zb3 ?_ _ | refine zb4 ?_ ?_ _ | refine zb5 (by assumption) ?_ ?_ | exact zb6 _) | omega | (simp <;> omega))⟩
  · obtain ⟨l5, l6⟩ := l4 h290
    have h290' : (x4 == 290) = false := by simpa using h290
    have HX1 : ∀ v, CheckIs v L a1 x1 x1 x2 x3 x4 := fun v => by
      have := (HB v x1 (by omega)).out
      rw [l5 x1 (Int.le_refl _)] at this
      exact this
    have HX2 : ∀ v, CheckIs v L a1 1073741824 x1 x2 x3 x4 := fun v => by
      have := (HB v 1073741824 (by omega)).out
      rw [l5 1073741824 (by omega)] at this
      exact this
    have HX1' := Lib.hid HX1
    have HX2' := Lib.hid HX2
    clear HX1 HX2 l5 l3 h290 l4 HY'
    by_cases hp : x1 = 0
    · subst hp
      clear HB l6
      go_enter Try.func4, Try.ntmps4
      go_wp2_with fail
      refine (HCP.out _ (by (repeat' first | (with_reducible first | exact zb0 _ _ | assumption | refine zb1 ?_ ?_ _ | refine zb2 ?_ | refine zb3 ?_ _ | refine zb4 ?_ ?_ _ | refine zb5 (by assumption) ?_ ?_ | exact zb6 _) | omega | (simp <;> omega)))).mono ?_
      rintro e w1 ⟨⟨v, rfl, hv⟩, hb1⟩
      have hz1 := hb1.size
      go_wp2_with fail
      refine ((HX'.out v).out _ (hv.below (by (repeat' first | (with_reducible first | exact zb0 _ _ | assumption | refine zb1 ?_ ?_ _ | refine zb2 ?_ | refine zb3 ?_ _ | refine zb4 ?_ ?_ _ | refine zb5 (by assumption) ?_ ?_ | exact zb6 _) | omega | (simp <;> omega))))).mono ?_
      rintro e w2 ⟨rfl, hb2⟩
      have hz2 := hb2.size
      go_wp2_with fail
      refine (HX1'.out v _ (hv.below (by (repeat' first | (with_reducible first | exact zb0 _ _ | assumption | refine zb1 ?_ ?_ _ | refine zb2 ?_ | refine zb3 ?_ _ | refine zb4 ?_ ?_ _ | refine zb5 (by assumption) ?_ ?_ | exact zb6 _) | omega | (simp <;> omega))))).mono ?_
      rintro e w3 ⟨rfl, hb3⟩
      obtain ⟨hc3, -, -⟩ := bcell hb3
      have hz3 := hb3.size
      simp only [World.size_alloc] at hz3
      have g2_3 : w2.heap.size < w3.heap.size := by omega
      have k2_3 : w2.heap.size < w3.heap.size + 1 := by omega
      go_wp2_with fail
      refine (HX2'.out v _ (hv.below (by (repeat' first | (with_reducible first | exact zb0 _ _ | assumption | refine zb1 ?_ ?_ _ | refine zb2 ?_ | refine zb3 ?_ _ | refine zb4 ?_ ?_ _ | refine zb5 (by assumption) ?_ ?_ | exact zb6 _) | omega | (simp <;> omega))))).mono ?_
      rintro e w4 ⟨rfl, hb4⟩
      obtain ⟨hc4, -, -⟩ := bcell hb4
      have hz4 := hb4.size
      simp only [World.size_alloc] at hz4
      have g2_4 : w2.heap.size < w4.heap.size := by omega
      have k2_4 : w2.heap.size < w4.heap.size + 1 := by omega
      have g3_4 : w3.heap.size < w4.heap.size := by omega
      have k3_4 : w3.heap.size < w4.heap.size + 1 := by omega
      go_wp2_with fail
      refine (works_any _).mono ?_
      rintro e w9 ⟨rfl, hb9⟩
      go_wp2
      go_returns
      exact ⟨rfl, by (repeat' first | (with_reducible first | exact zb0 _ _ | assumption | refine zb1 ?_ ?_ _ | refine zb2 ?_ | refine zb3 ?_ _ | refine zb4 ?_ ?_ _ | refine zb5 (by assumption) ?_ ?_ | exact zb6 _) | omega | (simp <;> omega))⟩
    · have hp0 : (x1 == 0) = false := by simpa using hp
      obtain ⟨l7, l8⟩ := l6 (by omega)
      have HU := fun v => (HB v (x1 - 1) (by omega)).out
      generalize checkM L a1 (x1 - 1) = u at HU l7 l8
      obtain ⟨⟨u1, u2, u3⟩, u4⟩ := u
      simp only at HU l7 l8
      subst l7
      have HU' := Lib.hid HU
      clear HB l6 hp HU
      go_enter Try.func4, Try.ntmps4
      go_wp2_with fail
      refine (HCP.out _ (by (repeat' first | (with_reducible first | exact zb0 _ _ | assumption | refine zb1 ?_ ?_ _ | refine zb2 ?_ | refine zb3 ?_ _ | refine zb4 ?_ ?_ _ | refine zb5 (by assumption) ?_ ?_ | exact zb6 _) | omega | (simp <;> omega)))).mono ?_
      rintro e w1 ⟨⟨v, rfl, hv⟩, hb1⟩
      have hz1 := hb1.size
      go_wp2_with fail
      refine ((HX'.out v).out _ (hv.below (by (repeat' first | (with_reducible first | exact zb0 _ _ | assumption | refine zb1 ?_ ?_ _ | refine zb2 ?_ | refine zb3 ?_ _ | refine zb4 ?_ ?_ _ | refine zb5 (by assumption) ?_ ?_ | exact zb6 _) | omega | (simp <;> omega))))).mono ?_
      rintro e w2 ⟨rfl, hb2⟩
      have hz2 := hb2.size
      go_wp2_with fail
      refine (HX1'.out v _ (hv.below (by (repeat' first | (with_reducible first | exact zb0 _ _ | assumption | refine zb1 ?_ ?_ _ | refine zb2 ?_ | refine zb3 ?_ _ | refine zb4 ?_ ?_ _ | refine zb5 (by assumption) ?_ ?_ | exact zb6 _) | omega | (simp <;> omega))))).mono ?_
      rintro e w3 ⟨rfl, hb3⟩
      obtain ⟨hc3, -, -⟩ := bcell hb3
      have hz3 := hb3.size
      simp only [World.size_alloc] at hz3
      have g2_3 : w2.heap.size < w3.heap.size := by omega
      have k2_3 : w2.heap.size < w3.heap.size + 1 := by omega
      go_wp2_with fail
      refine (HX2'.out v _ (hv.below (by (repeat' first | (with_reducible first | exact zb0 _ _ | assumption | refine zb1 ?_ ?_ _ | refine zb2 ?_ | refine zb3 ?_ _ | refine zb4 ?_ ?_ _ | refine zb5 (by assumption) ?_ ?_ | exact zb6 _) | omega | (simp <;> omega))))).mono ?_
      rintro e w4 ⟨rfl, hb4⟩
      obtain ⟨hc4, -, -⟩ := bcell hb4
      have hz4 := hb4.size
      simp only [World.size_alloc] at hz4
      have g2_4 : w2.heap.size < w4.heap.size := by omega
      have k2_4 : w2.heap.size < w4.heap.size + 1 := by omega
      have g3_4 : w3.heap.size < w4.heap.size := by omega
      have k3_4 : w3.heap.size < w4.heap.size + 1 := by omega
      go_wp2_with fail
      refine (HU'.out v _ (hv.below (by (repeat' first | (with_reducible first | exact zb0 _ _ | assumption | refine zb1 ?_ ?_ _ | refine zb2 ?_ | refine zb3 ?_ _ | refine zb4 ?_ ?_ _ | refine zb5 (by assumption) ?_ ?_ | exact zb6 _) | omega | (simp <;> omega))))).mono ?_
      rintro e w5 ⟨rfl, hb5⟩
      obtain ⟨hc5, -, -⟩ := bcell hb5
      have hz5 := hb5.size
      simp only [World.size_alloc] at hz5
      have g2_5 : w2.heap.size < w5.heap.size := by omega
      have k2_5 : w2.heap.size < w5.heap.size + 1 := by omega
      have g3_5 : w3.heap.size < w5.heap.size := by omega
      have k3_5 : w3.heap.size < w5.heap.size + 1 := by omega
      have g4_5 : w4.heap.size < w5.heap.size := by omega
      have k4_5 : w4.heap.size < w5.heap.size + 1 := by omega
      go_wp2_with fail
      refine (works_any _).mono ?_
      rintro e w9 ⟨rfl, hb9⟩
      go_wp2
      go_returns
      exact ⟨rfl, by (repeat' first | (with_reducible first | exact zb0 _ _ | assumption | refine zb1 ?_ ?_ _ | refine zb2 ?_ | refine zb3 ?_ _ | refine zb4 ?_ ?_ _ | refine zb5 (by assumption) ?_ ?_ | exact zb6 _) | omega | (simp <;> omega))⟩
end Go.Proofs.Ytmpflnlajakibaa
