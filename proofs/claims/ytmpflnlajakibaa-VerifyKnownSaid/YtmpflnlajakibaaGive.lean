/- gives, works. -/
import Derived.Test.YtmpflnlajakibaaB6
namespace Go.Proofs.Ytmpflnlajakibaa
set_option linter.unusedVariables false
set_option linter.unusedSimpArgs false
open Go.RowKit
def givesB (D : List UInt8) (dp budget s a h e : Int) : Bool := decide (checkM D dp budget = ((s, a, h), e))
set_option maxHeartbeats 1000000 in
theorem gives_any (v : Value) (D : List UInt8) (w : World) (hv : Byt w v D) (dp budget s a h e : Int) (hb : budget ≤ 1073741824) :
    Calls Try.prog 17 #[v, .int .i64 dp, .int .i64 budget, .int .i64 s, .int .i64 a, .int .i64 h, .int .i64 e] w fun en w' => en = .returned (.bool (givesB D dp budget s a h e)) ∧ Below w.heap.size w w' := by
  have Hv := Lib.hid hv
  clear hv
  unfold givesB
  obtain ⟨⟨⟨x1, x2, x3⟩, x4⟩, hx⟩ : ∃ x, checkM D dp budget = x := ⟨_, rfl⟩
  have HC := Lib.hid (fun W (hW : Byt W v D) => check_byt v D W hW dp budget hb)
  rw [hx] at HC
  rw [hx]
  clear hx
  simp only [repV] at HC
  go_enter Try.func17, Try.ntmps17
  go_wp2_with (go_at_call 12; refine (HC.out _ (Hv.out.below (by (repeat' first | (with_reducible first | exact zb0 _ _ | assumption | refine zb1 ?_ ?_ _ | refine zb2 ?_ | refine zb3 ?_ _ | refine zb4 ?_ ?_ _ | refine zb5 (by assumption) ?_ ?_ | exact zb6 _) | omega | (simp only [zsz]; omega) | (simp; omega))))).mono ?_; rintro e w1 ⟨rfl, hb1⟩; obtain ⟨hc1, hf1, hl1⟩ := bcell hb1; (try simp only [zdz] at hc1 hf1 hl1); have hz1 := hb1.size; (try simp only [zsz] at hz1); (try have g0 : w.heap.size < w1.heap.size := by omega); (try have g1 : w.heap.size + 1 < w1.heap.size := by omega); (try have g2 : w.heap.size + 2 < w1.heap.size := by omega); (try have gb : b < w1.heap.size := by omega); (try have g3 : w.heap.size + 3 < w1.heap.size := by omega); (try have hbb : Below w.heap.size w w1 := by (repeat' first | (with_reducible first | exact zb0 _ _ | assumption | refine zb1 ?_ ?_ _ | refine zb2 ?_ | refine zb3 ?_ _ | refine zb4 ?_ ?_ _ | refine zb5 (by assumption) ?_ ?_ | exact zb6 _) | omega | (simp only [zsz]; omega) | (simp; omega))); (try obtain ⟨hco, hfo, _⟩ := bcell hbb); (try have hb1 := hb1))
  all_goals go_returns
  all_goals exact ⟨by simp [*, Bool.beq_eq_decide_eq], by (repeat' first | (with_reducible first | exact zb0 _ _ | assumption | refine zb1 ?_ ?_ _ | refine zb2 ?_ | refine zb3 ?_ _ | refine zb4 ?_ ?_ _ | refine zb5 (by assumption) ?_ ?_ | exact zb6 _) | omega | (simp only [zsz]; omega) | (simp; omega))⟩
set_option maxRecDepth 100000 in
theorem ex_gives : givesB exD 64 99 9 0 2 0 = true ∧ givesB exD 64 9 9 0 2 0 = true ∧ givesB exD 64 8 8 11 0 290 = true ∧ givesB exD 64 3 2 5 0 290 = true ∧ givesB exD 64 0 0 14 0 290 = true ∧ givesB exD 1 99 8 10 0 61 = true ∧
    givesB [4, 1] 64 9 0 0 0 210 = true ∧ givesB [5, 12, 1] 64 9 0 1 0 20 = true ∧ givesB exD6 64 99 5 6 0 215 = true ∧ givesB [0, 2, 1, 2, 40, 40, 4, 40, 1] 64 99 3 0 2 0 = true := by
  decide +kernel
theorem gives_ok (v : Value) (D : List UInt8) (w : World) (hv : Byt w v D) (dp budget s a h e : Int) (hb : budget ≤ 1073741824) (hg : givesB D dp budget s a h e = true) :
    Calls Try.prog 17 #[v, .int .i64 dp, .int .i64 budget, .int .i64 s, .int .i64 a, .int .i64 h, .int .i64 e] w fun en w' => en = .returned (.bool true) ∧ Below w.heap.size w w' := by
  have := gives_any v D w hv dp budget s a h e hb
  rwa [hg] at this
theorem Doc.byt {w : World} {b o cap n : Nat} {L : List UInt8} (h : Doc w b o n cap L) : Byt w (.slice (some ⟨b, o, none⟩) n cap) L := by
  obtain rfl := h.len
  exact .inr ⟨b, o, cap, rfl, h⟩
set_option maxHeartbeats 4000000 in
set_option maxRecDepth 100000 in
theorem works_any (w : World) : Calls Try.prog 15 #[] w fun e w' => e = .returned (.bool true) ∧ Below w.heap.size w w' := by
  obtain ⟨g1, g2, g3, g4, g5, g6, g7, g8, g9, g10⟩ := ex_gives
  have G1 := Lib.hid g1
  have G2 := Lib.hid g2
  have G3 := Lib.hid g3
  have G4 := Lib.hid g4
  have G5 := Lib.hid g5
  have G6 := Lib.hid g6
  have G7 := Lib.hid g7
  have G8 := Lib.hid g8
  have G9 := Lib.hid g9
  have G10 := Lib.hid g10
  clear g1 g2 g3 g4 g5 g6 g7 g8 g9 g10
  go_enter Try.func15, Try.ntmps15
  go_wp2_with fail
  refine (example_0 _).mono ?_; rintro e w1 ⟨⟨rfl, hd⟩, hb1⟩; have hz1 := hb1.size; (try simp only [World.size_alloc] at hz1)
  go_upto_region 2 with (go_at_call 18; refine (example_0 _).mono ?_; rintro e w1 ⟨⟨rfl, hd⟩, hb1⟩)
  go_wp2_with fail
  refine (gives_ok _ exD _ (hd.byt.below (by (repeat' first | (with_reducible first | exact zb0 _ _ | assumption | refine zb1 ?_ ?_ _ | refine zb2 ?_ | refine zb3 ?_ _ | refine zb4 ?_ ?_ _ | refine zb5 (by assumption) ?_ ?_ | exact zb6 _) | omega | (simp only [zsz]; omega) | (simp; omega)))) 64 99 9 0 2 0 (by decide) G1.out).mono ?_; rintro e w2 ⟨rfl, hb2⟩; have hz2 := hb2.size; (try simp only [World.size_alloc] at hz2)
  go_wp2_with fail
  refine (gives_ok _ exD _ (hd.byt.below (by (repeat' first | (with_reducible first | exact zb0 _ _ | assumption | refine zb1 ?_ ?_ _ | refine zb2 ?_ | refine zb3 ?_ _ | refine zb4 ?_ ?_ _ | refine zb5 (by assumption) ?_ ?_ | exact zb6 _) | omega | (simp only [zsz]; omega) | (simp; omega)))) 64 9 9 0 2 0 (by decide) G2.out).mono ?_; rintro e w3 ⟨rfl, hb3⟩; have hz3 := hb3.size; (try simp only [World.size_alloc] at hz3)
  go_wp2_with fail
  refine (gives_ok _ exD _ (hd.byt.below (by (repeat' first | (with_reducible first | exact zb0 _ _ | assumption | refine zb1 ?_ ?_ _ | refine zb2 ?_ | refine zb3 ?_ _ | refine zb4 ?_ ?_ _ | refine zb5 (by assumption) ?_ ?_ | exact zb6 _) | omega | (simp only [zsz]; omega) | (simp; omega)))) 64 8 8 11 0 290 (by decide) G3.out).mono ?_; rintro e w4 ⟨rfl, hb4⟩; have hz4 := hb4.size; (try simp only [World.size_alloc] at hz4)
  go_wp2_with fail
  refine (gives_ok _ exD _ (hd.byt.below (by (repeat' first | (with_reducible first | exact zb0 _ _ | assumption | refine zb1 ?_ ?_ _ | refine zb2 ?_ | refine zb3 ?_ _ | refine zb4 ?_ ?_ _ | refine zb5 (by assumption) ?_ ?_ | exact zb6 _) | omega | (simp only [zsz]; omega) | (simp; omega)))) 64 3 2 5 0 290 (by decide) G4.out).mono ?_; rintro e w5 ⟨rfl, hb5⟩; have hz5 := hb5.size; (try simp only [World.size_alloc] at hz5)
  go_wp2_with fail
  refine (gives_ok _ exD _ (hd.byt.below (by (repeat' first | (with_reducible first | exact zb0 _ _ | assumption | refine zb1 ?_ ?_ _ | refine zb2 ?_ | refine zb3 ?_ _ | refine zb4 ?_ ?_ _ | refine zb5 (by assumption) ?_ ?_ | exact zb6 _) | omega | (simp only [zsz]; omega) | (simp; omega)))) 64 0 0 14 0 290 (by decide) G5.out).mono ?_; rintro e w6 ⟨rfl, hb6⟩; have hz6 := hb6.size; (try simp only [World.size_alloc] at hz6)
  go_wp2_with fail
  refine (gives_ok _ exD _ (hd.byt.below (by (repeat' first | (with_reducible first | exact zb0 _ _ | assumption | refine zb1 ?_ ?_ _ | refine zb2 ?_ | refine zb3 ?_ _ | refine zb4 ?_ ?_ _ | refine zb5 (by assumption) ?_ ?_ | exact zb6 _) | omega | (simp only [zsz]; omega) | (simp; omega)))) 1 99 8 10 0 61 (by decide) G6.out).mono ?_; rintro e w7 ⟨rfl, hb7⟩; have hz7 := hb7.size; (try simp only [World.size_alloc] at hz7)
  go_wp2_with fail
  refine (gives_ok _ [4, 1] _ ((doc_row (heap_alloc_new _ _) rfl (by decide)).byt) 64 9 0 0 0 210 (by decide) G7.out).mono ?_; rintro e w8 ⟨rfl, hb8⟩; have hz8 := hb8.size; (try simp only [World.size_alloc] at hz8)
  go_wp2_with fail
  refine (gives_ok _ [5, 12, 1] _ ((doc_row (heap_alloc_new _ _) rfl (by decide)).byt) 64 9 0 1 0 20 (by decide) G8.out).mono ?_; rintro e w9 ⟨rfl, hb9⟩; have hz9 := hb9.size; (try simp only [World.size_alloc] at hz9)
  go_wp2_with fail
  refine (example_6 _).mono ?_; rintro e w10 ⟨⟨rfl, hd6⟩, hb10⟩; have hz10 := hb10.size; (try simp only [World.size_alloc] at hz10)
  go_wp2_with fail
  refine (gives_ok _ exD6 _ (hd6.byt) 64 99 5 6 0 215 (by decide) G9.out).mono ?_; rintro e w11 ⟨rfl, hb11⟩; have hz11 := hb11.size; (try simp only [World.size_alloc] at hz11)
  go_wp2_with fail
  refine (gives_ok _ [0, 2, 1, 2, 40, 40, 4, 40, 1] _ ((doc_row (heap_alloc_new _ _) rfl (by decide)).byt) 64 99 3 0 2 0 (by decide) G10.out).mono ?_; rintro e w12 ⟨rfl, hb12⟩; have hz12 := hb12.size; (try simp only [World.size_alloc] at hz12)
  go_wp2_with fail
  go_returns
  exact ⟨rfl, by (repeat' first | (with_reducible first | exact zb0 _ _ | assumption | refine zb1 ?_ ?_ _ | refine zb2 ?_ | refine zb3 ?_ _ | refine zb4 ?_ ?_ _ | refine zb5 (by assumption) ?_ ?_ | exact zb6 _) | omega | (simp only [zsz]; omega) | (simp; omega))⟩
end Go.Proofs.Ytmpflnlajakibaa
