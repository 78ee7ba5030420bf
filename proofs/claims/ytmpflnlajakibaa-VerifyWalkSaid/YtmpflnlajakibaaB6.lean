/- The walk of verify.Check. verify.Check, whole. -/
import Derived.Test.YtmpflnlajakibaaA6
import Derived.Test.YtmpflnlajakibaaIn
import Derived.Test.YtmpflnlajakibaaVer13
import Derived.Test.YtmpflnlajakibaaB2
namespace Go.Proofs.Ytmpflnlajakibaa
set_option linter.unusedVariables false
set_option linter.unusedSimpArgs false
set_option linter.unusedSectionVars false
section
open Go.RowKit
def repV (x : Int × Int × Int) : Value := .agg #[.int .i64 x.1, .int .i64 x.2.1, .int .i64 x.2.2]
def HypTop (b o n cap : Nat) (D : List UInt8) (dp bud p q t k : Int) (r : VR Int) : Prop := ∀ W lk hm cm, VOk W lk hm cm b o n cap D dp bud ⟨0, [], []⟩ [] →
  Calls Try.prog 29 #[.pointer (some ⟨lk, 0, none⟩), .agg #[.int .i64 p, .int .i64 q, .int .i64 t, .int .i64 k], .int .i64 p, .int .i64 1] W (LPost W lk hm cm b o n cap D dp bud [] r)
theorem vok_made {W : World} {lk hm cm b o n cap : Nat} {D : List UInt8} {dp bud : Int} (hl : W.heap[lk]? = some (.cells (lkCells (.slice (some ⟨b, o, none⟩) n cap) dp bud 0 hm cm 0 0) 64 (0, 0)))
    (h1 : W.heap[hm]? = some (.map #[] 0)) (h2 : W.heap[cm]? = some (.map #[] 0)) (hD : Doc W b o n cap D) (n1 : lk ≠ hm) (n2 : lk ≠ cm) (n3 : hm ≠ cm) (n4 : b ≠ lk) (n5 : b ≠ hm) (n6 : b ≠ cm) (hb0 : 0 ≤ bud) (hb : bud ≤ 1073741824) :
    VOk W lk hm cm b o n cap D dp bud ⟨0, [], []⟩ [] := by
  refine ⟨⟨0, fun _ => none, fun _ => none, ⟨?_, ⟨#[], 0, h1, by simp, by simp, by simp⟩, ⟨#[], 0, h2, by simp, by simp, by simp⟩, hD, n1, n2, n3, n4, n5, n6⟩, ?_, ?_⟩, Int.le_refl _, hb0, hb, ?_⟩
  · simpa using hl
  · intro t a k; simp [vknown]
  · intro a; simp
  · intro t a k h hm; simp at hm
theorem heap_made3 (w : World) (a b c d : Obj) : ((((w.alloc a).alloc b).alloc c).alloc d).heap[w.heap.size + 1 + 1 + 1]? = some d := by
  have := heap_alloc_new (((w.alloc a).alloc b).alloc c) d
  simpa using this
theorem heap_made2 (w : World) (a b c d : Obj) : ((((w.alloc a).alloc b).alloc c).alloc d).heap[w.heap.size + 1 + 1]? = some c := by
  have h := heap_alloc_new ((w.alloc a).alloc b) c
  simp only [World.size_alloc] at h
  exact (((Below.refl _ (((w.alloc a).alloc b).alloc c)).alloc (Nat.le_refl _) d).block _ (by simp only [World.size_alloc]; omega)).trans h
theorem heap_made1 (w : World) (a b c d : Obj) : ((((w.alloc a).alloc b).alloc c).alloc d).heap[w.heap.size + 1]? = some b := by
  have h := heap_alloc_new (w.alloc a) b
  simp only [World.size_alloc] at h
  exact ((((Below.refl _ ((w.alloc a).alloc b)).alloc (Nat.le_refl _) c).alloc (by simp only [World.size_alloc]; omega) d).block _ (by simp only [World.size_alloc]; omega)).trans h
section
variable {w : World} {b o n cap : Nat} {D : List UInt8} {dp bud budget : Int}
set_option maxHeartbeats 4000000 in
theorem vcheck_ok (hD : Doc w b o n cap D) (hc : D.getD (n - 1) 0 = lastD D 1) (hd : D.getD (n - 2) 0 = lastD D 2) (he : rootE n (lastD D 1) (lastD D 2) = 0) (hb0 : max budget 0 = bud) (hbd : 0 ≤ bud) (hb2 : bud ≤ 1073741824) {S : VS} {h : Int}
    (HT : HypTop b o n cap D dp bud (rootP n (lastD D 1) (lastD D 2)) (rootQ n (lastD D 1) (lastD D 2)) (rootT n (lastD D 1) (lastD D 2)) (rootW n (lastD D 1) (lastD D 2)) (.ok (S, h))) :
    Calls Try.prog 12 #[.slice (some ⟨b, o, none⟩) n cap, .int .i64 dp, .int .i64 budget] w fun en w' => en = .returned (.tuple #[.agg #[.int .i64 S.s, .int .i64 0, .int .i64 h], .int .i64 0]) ∧ Below w.heap.size w w' := by
  have hbw := hD.lt
  have HR := Lib.hid (fun W (hW : Doc W b o n cap D) => root_any b o n cap D W hW _ _ hc hd)
  rw [he] at HR
  have hmm := @run_makeMap Try.prog
  generalize rootP n (lastD D 1) (lastD D 2) = p at *
  generalize rootQ n (lastD D 1) (lastD D 2) = q at *
  generalize rootT n (lastD D 1) (lastD D 2) = t at *
  generalize rootW n (lastD D 1) (lastD D 2) = k at *
  clear hc hd he
  go_enter Try.func12, Try.ntmps12
  go_upto_region 8 with (go_at_call 28; refine (HR.out _ (hD.below (by (repeat' first | (with_reducible first | exact zb0 _ _ | assumption | refine zb1 ?_ ?_ _ | refine zb2 ?_ | refine zb3 ?_ _ | refine zb4 ?_ ?_ _ | refine zb5 (by assumption) ?_ ?_ | exact zb6 _) | omega | (simp only [zsz]; omega) | (simp <;> omega))))).mono ?_; rintro e w1 ⟨rfl, hb1⟩; obtain ⟨hc1, hf1, hl1⟩ := bcell hb1; (try simp only [zdz] at hc1 hf1 hl1); have hz1 := hb1.size; (try simp only [zsz] at hz1); (try have g0 : w.heap.size < w1.heap.size := by omega); (try have g1 : w.heap.size + 1 < w1.heap.size := by omega); (try have g2 : w.heap.size + 2 < w1.heap.size := by omega); (try have gb : b < w1.heap.size := by omega); (try have g3 : w.heap.size + 3 < w1.heap.size := by omega); (try have hbb : Below w.heap.size w w1 := by (repeat' first | (with_reducible first | exact zb0 _ _ | assumption | refine zb1 ?_ ?_ _ | refine zb2 ?_ | refine zb3 ?_ _ | refine zb4 ?_ ?_ _ | refine zb5 (by assumption) ?_ ?_ | exact zb6 _) | omega | (simp only [zsz]; omega) | (simp <;> omega))); (try obtain ⟨hco, hfo, _⟩ := bcell hbb); (try have hb1 := hb1))
  have hDw : Doc w1 b o n cap D := hD.below hbb
  have y0 : w1.cell? ⟨w.heap.size, 0, none⟩ = some (.int .i64 0) := by go_simp
  have y1 : w1.cell? ⟨w.heap.size, 1, none⟩ = some (.int .i64 0) := by go_simp
  have y2 : w1.cell? ⟨w.heap.size, 2, none⟩ = some (.int .i64 0) := by go_simp
  have f0 : w1.frozen? ⟨w.heap.size, 0, none⟩ = false := by go_simp
  have f1 : w1.frozen? ⟨w.heap.size, 1, none⟩ = false := by go_simp
  have f2 : w1.frozen? ⟨w.heap.size, 2, none⟩ = false := by go_simp
  refine wp_named (fun wn => VOk wn (w1.heap.size + 1 + 1 + 1) (w1.heap.size + 1) (w1.heap.size + 1 + 1) b o n cap D dp bud ⟨0, [], []⟩ [] ∧ Below w.heap.size w wn ∧ w.heap.size < w1.heap.size ∧ w1.heap.size + 1 + 1 + 1 < wn.heap.size ∧
    wn.cell? ⟨w1.heap.size, 0, none⟩ = some (.int .i64 p) ∧ wn.cell? ⟨w1.heap.size, 1, none⟩ = some (.int .i64 q) ∧ wn.cell? ⟨w1.heap.size, 2, none⟩ = some (.int .i64 t) ∧ wn.cell? ⟨w1.heap.size, 3, none⟩ = some (.int .i64 k) ∧
    ∀ i, wn.cell? ⟨w.heap.size, i, none⟩ = w1.cell? ⟨w.heap.size, i, none⟩ ∧ wn.frozen? ⟨w.heap.size, i, none⟩ = w1.frozen? ⟨w.heap.size, i, none⟩)
    ⟨vok_made (heap_made3 _ _ _ _ _) (heap_made1 _ _ _ _ _) (heap_made2 _ _ _ _ _) (hDw.below (by (repeat' first | (with_reducible first | exact zb0 _ _ | assumption | refine zb1 ?_ ?_ _ | refine zb2 ?_ | refine zb3 ?_ _ | refine zb4 ?_ ?_ _ | refine zb5 (by assumption) ?_ ?_ | exact zb6 _) | omega | (simp only [zsz]; omega) | (simp <;> omega)))) (by omega) (by omega) (by omega) (by omega) (by omega) (by omega) hbd hb2, by exact zw, g0, by simp, by go_simp, by go_simp, by go_simp, by go_simp, fun i => ⟨Below.cell (p := ⟨w.heap.size, i, none⟩) (B := w1.heap.size) (by (repeat' first | (with_reducible first | exact zb0 _ _ | assumption | refine zb1 ?_ ?_ _ | refine zb2 ?_ | refine zb3 ?_ _ | refine zb4 ?_ ?_ _ | refine zb5 (by assumption) ?_ ?_ | exact zb6 _) | omega | (simp only [zsz]; omega) | (simp <;> omega))) g0, Below.frozen (p := ⟨w.heap.size, i, none⟩) (B := w1.heap.size) (by (repeat' first | (with_reducible first | exact zb0 _ _ | assumption | refine zb1 ?_ ?_ _ | refine zb2 ?_ | refine zb3 ?_ _ | refine zb4 ?_ ?_ _ | refine zb5 (by assumption) ?_ ?_ | exact zb6 _) | omega | (simp only [zsz]; omega) | (simp <;> omega))) g0⟩⟩ ?_
  generalize w1.heap.size = X
  clear hmm
  rintro wn ⟨hvn, htn, hX0, hX1, z0, z1, z2, z3, hkn⟩
  go_wp2_with fail
  refine (HT _ _ _ _ hvn).mono ?_
  rintro e w2 ⟨rfl, hv2, ht2⟩
  have c3 : w2.cell? ⟨X + 1 + 1 + 1, 3, none⟩ = some (.int .i64 S.s) := by obtain ⟨_, _, _, h, _⟩ := hv2.st; exact cell_of_row _ _ _ _ _ _ h.row
  have hz2 := ht2.size
  have hk2 : ∀ i, w2.cell? ⟨w.heap.size, i, none⟩ = wn.cell? ⟨w.heap.size, i, none⟩ ∧ w2.frozen? ⟨w.heap.size, i, none⟩ = wn.frozen? ⟨w.heap.size, i, none⟩ := fun i => by
    have hb := ht2.block w.heap.size (by omega) (by simp; omega)
    exact ⟨World.cell?_of_block (a := ⟨w.heap.size, i, none⟩) hb, World.frozen?_of_block (a := ⟨w.heap.size, i, none⟩) hb⟩
  have y20 := ((hk2 0).1.trans (hkn 0).1).trans y0
  have y21 := ((hk2 1).1.trans (hkn 1).1).trans y1
  have y22 := ((hk2 2).1.trans (hkn 2).1).trans y2
  have f20 := ((hk2 0).2.trans (hkn 0).2).trans f0
  have f21 := ((hk2 1).2.trans (hkn 1).2).trans f1
  have f22 := ((hk2 2).2.trans (hkn 2).2).trans f2
  have hB2 : Below w.heap.size w w2 := ⟨ht2.os.trans htn.os, ht2.tape.trans htn.tape, ht2.output.trans htn.output, Nat.le_trans htn.size hz2, fun i hi => (ht2.block i (by omega) (by simp; omega)).trans (htn.block i hi)⟩
  clear hk2 hkn hc1 hf1 hco hfo z0 z1 z2 z3 y0 y1 y2 f0 f1 f2
  go_wp2_with fail
  (refine bodyPost_ret (v := .tuple #[.agg #[.int .i64 S.s, .int .i64 0, .int .i64 h], .int .i64 0]) (by simp [results, Try.results12, go_sem, *]) rfl ?_)
  exact ⟨rfl, by exact zw⟩
set_option maxHeartbeats 4000000 in
theorem vcheck_no (hD : Doc w b o n cap D) (hc : D.getD (n - 1) 0 = lastD D 1) (hd : D.getD (n - 2) 0 = lastD D 2) (he : rootE n (lastD D 1) (lastD D 2) = 0) (hb0 : max budget 0 = bud) (hbd : 0 ≤ bud) (hb2 : bud ≤ 1073741824) {s a e : Int}
    (HT : HypTop b o n cap D dp bud (rootP n (lastD D 1) (lastD D 2)) (rootQ n (lastD D 1) (lastD D 2)) (rootT n (lastD D 1) (lastD D 2)) (rootW n (lastD D 1) (lastD D 2)) (.error (s, a, e))) :
    Calls Try.prog 12 #[.slice (some ⟨b, o, none⟩) n cap, .int .i64 dp, .int .i64 budget] w fun en w' => en = .returned (.tuple #[.agg #[.int .i64 s, .int .i64 a, .int .i64 0], .int .i64 e]) ∧ Below w.heap.size w w' := by
  have hbw := hD.lt
  have HR := Lib.hid (fun W (hW : Doc W b o n cap D) => root_any b o n cap D W hW _ _ hc hd)
  rw [he] at HR
  have hmm := @run_makeMap Try.prog
  generalize rootP n (lastD D 1) (lastD D 2) = p at *
  generalize rootQ n (lastD D 1) (lastD D 2) = q at *
  generalize rootT n (lastD D 1) (lastD D 2) = t at *
  generalize rootW n (lastD D 1) (lastD D 2) = k at *
  clear hc hd he
  go_enter Try.func12, Try.ntmps12
  go_upto_region 8 with (go_at_call 28; refine (HR.out _ (hD.below (by (repeat' first | (with_reducible first | exact zb0 _ _ | assumption | refine zb1 ?_ ?_ _ | refine zb2 ?_ | refine zb3 ?_ _ | refine zb4 ?_ ?_ _ | refine zb5 (by assumption) ?_ ?_ | exact zb6 _) | omega | (simp only [zsz]; omega) | (simp <;> omega))))).mono ?_; rintro e w1 ⟨rfl, hb1⟩; obtain ⟨hc1, hf1, hl1⟩ := bcell hb1; (try simp only [zdz] at hc1 hf1 hl1); have hz1 := hb1.size; (try simp only [zsz] at hz1); (try have g0 : w.heap.size < w1.heap.size := by omega); (try have g1 : w.heap.size + 1 < w1.heap.size := by omega); (try have g2 : w.heap.size + 2 < w1.heap.size := by omega); (try have gb : b < w1.heap.size := by omega); (try have g3 : w.heap.size + 3 < w1.heap.size := by omega); (try have hbb : Below w.heap.size w w1 := by (repeat' first | (with_reducible first | exact zb0 _ _ | assumption | refine zb1 ?_ ?_ _ | refine zb2 ?_ | refine zb3 ?_ _ | refine zb4 ?_ ?_ _ | refine zb5 (by assumption) ?_ ?_ | exact zb6 _) | omega | (simp only [zsz]; omega) | (simp <;> omega))); (try obtain ⟨hco, hfo, _⟩ := bcell hbb); (try have hb1 := hb1))
  have hDw : Doc w1 b o n cap D := hD.below hbb
  have y0 : w1.cell? ⟨w.heap.size, 0, none⟩ = some (.int .i64 0) := by go_simp
  have y1 : w1.cell? ⟨w.heap.size, 1, none⟩ = some (.int .i64 0) := by go_simp
  have y2 : w1.cell? ⟨w.heap.size, 2, none⟩ = some (.int .i64 0) := by go_simp
  have f0 : w1.frozen? ⟨w.heap.size, 0, none⟩ = false := by go_simp
  have f1 : w1.frozen? ⟨w.heap.size, 1, none⟩ = false := by go_simp
  have f2 : w1.frozen? ⟨w.heap.size, 2, none⟩ = false := by go_simp
  refine wp_named (fun wn => VOk wn (w1.heap.size + 1 + 1 + 1) (w1.heap.size + 1) (w1.heap.size + 1 + 1) b o n cap D dp bud ⟨0, [], []⟩ [] ∧ Below w.heap.size w wn ∧ w.heap.size < w1.heap.size ∧ w1.heap.size + 1 + 1 + 1 < wn.heap.size ∧
    wn.cell? ⟨w1.heap.size, 0, none⟩ = some (.int .i64 p) ∧ wn.cell? ⟨w1.heap.size, 1, none⟩ = some (.int .i64 q) ∧ wn.cell? ⟨w1.heap.size, 2, none⟩ = some (.int .i64 t) ∧ wn.cell? ⟨w1.heap.size, 3, none⟩ = some (.int .i64 k) ∧
    ∀ i, wn.cell? ⟨w.heap.size, i, none⟩ = w1.cell? ⟨w.heap.size, i, none⟩ ∧ wn.frozen? ⟨w.heap.size, i, none⟩ = w1.frozen? ⟨w.heap.size, i, none⟩)
    ⟨vok_made (heap_made3 _ _ _ _ _) (heap_made1 _ _ _ _ _) (heap_made2 _ _ _ _ _) (hDw.below (by (repeat' first | (with_reducible first | exact zb0 _ _ | assumption | refine zb1 ?_ ?_ _ | refine zb2 ?_ | refine zb3 ?_ _ | refine zb4 ?_ ?_ _ | refine zb5 (by assumption) ?_ ?_ | exact zb6 _) | omega | (simp only [zsz]; omega) | (simp <;> omega)))) (by omega) (by omega) (by omega) (by omega) (by omega) (by omega) hbd hb2, by exact zw, g0, by simp, by go_simp, by go_simp, by go_simp, by go_simp, fun i => ⟨Below.cell (p := ⟨w.heap.size, i, none⟩) (B := w1.heap.size) (by (repeat' first | (with_reducible first | exact zb0 _ _ | assumption | refine zb1 ?_ ?_ _ | refine zb2 ?_ | refine zb3 ?_ _ | refine zb4 ?_ ?_ _ | refine zb5 (by assumption) ?_ ?_ | exact zb6 _) | omega | (simp only [zsz]; omega) | (simp <;> omega))) g0, Below.frozen (p := ⟨w.heap.size, i, none⟩) (B := w1.heap.size) (by (repeat' first | (with_reducible first | exact zb0 _ _ | assumption | refine zb1 ?_ ?_ _ | refine zb2 ?_ | refine zb3 ?_ _ | refine zb4 ?_ ?_ _ | refine zb5 (by assumption) ?_ ?_ | exact zb6 _) | omega | (simp only [zsz]; omega) | (simp <;> omega))) g0⟩⟩ ?_
  generalize w1.heap.size = X
  clear hmm
  rintro wn ⟨hvn, htn, hX0, hX1, z0, z1, z2, z3, hkn⟩
  go_wp2_with fail
  refine (HT _ _ _ _ hvn).mono ?_
  rintro en w2 ⟨⟨x, rfl⟩, hv2, ht2⟩
  obtain ⟨he, left, F, G, hst⟩ := hv2
  have c3 : w2.cell? ⟨X + 1 + 1 + 1, 3, none⟩ = some (.int .i64 s) := cell_of_row _ _ _ _ _ _ hst.row
  have c6 : w2.cell? ⟨X + 1 + 1 + 1, 6, none⟩ = some (.int .i64 a) := cell_of_row _ _ _ _ _ _ hst.row
  have c7 : w2.cell? ⟨X + 1 + 1 + 1, 7, none⟩ = some (.int .i64 e) := cell_of_row _ _ _ _ _ _ hst.row
  clear he hst
  have hz2 := ht2.size
  have hk2 : ∀ i, w2.cell? ⟨w.heap.size, i, none⟩ = wn.cell? ⟨w.heap.size, i, none⟩ ∧ w2.frozen? ⟨w.heap.size, i, none⟩ = wn.frozen? ⟨w.heap.size, i, none⟩ := fun i => by
    have hb := ht2.block w.heap.size (by omega) (by simp; omega)
    exact ⟨World.cell?_of_block (a := ⟨w.heap.size, i, none⟩) hb, World.frozen?_of_block (a := ⟨w.heap.size, i, none⟩) hb⟩
  have y20 := ((hk2 0).1.trans (hkn 0).1).trans y0
  have y21 := ((hk2 1).1.trans (hkn 1).1).trans y1
  have y22 := ((hk2 2).1.trans (hkn 2).1).trans y2
  have f20 := ((hk2 0).2.trans (hkn 0).2).trans f0
  have f21 := ((hk2 1).2.trans (hkn 1).2).trans f1
  have f22 := ((hk2 2).2.trans (hkn 2).2).trans f2
  have hB2 : Below w.heap.size w w2 := ⟨ht2.os.trans htn.os, ht2.tape.trans htn.tape, ht2.output.trans htn.output, Nat.le_trans htn.size hz2, fun i hi => (ht2.block i (by omega) (by simp; omega)).trans (htn.block i hi)⟩
  clear hk2 hkn hc1 hf1 hco hfo z0 z1 z2 z3 y0 y1 y2 f0 f1 f2
  go_wp2_with fail
  go_region
  all_goals go_wp2
  all_goals (refine bodyPost_ret (v := .tuple #[.agg #[.int .i64 s, .int .i64 a, .int .i64 0], .int .i64 e]) (by simp [results, Try.results12, go_sem, *]) rfl ?_)
  all_goals exact ⟨rfl, by exact zw⟩
end
end
section
open Go.RowKit
section
variable {w : World} {b o n cap : Nat} {D : List UInt8} {dp budget : Int}
set_option maxHeartbeats 2000000 in
theorem vcheck_20 (hD : Doc w b o n cap D) (he : rootE n (D.getD (n - 1) 0) (D.getD (n - 2) 0) = 20) :
    Calls Try.prog 12 #[.slice (some ⟨b, o, none⟩) n cap, .int .i64 dp, .int .i64 budget] w fun en w' => en = .returned (.tuple #[.agg #[.int .i64 0, .int .i64 ((n : Int) - 2), .int .i64 0], .int .i64 20]) ∧ Below w.heap.size w w' := by
  have hbw := hD.lt
  obtain ⟨hn1, hn2⟩ := hD.bd
  have HR := Lib.hid (fun W (hW : Doc W b o n cap D) => root_any b o n cap D W hW _ _ rfl rfl)
  obtain ⟨e1, e2, e3, e4⟩ := root_bad he (by decide)
  rw [he, e1, e2, e3, e4] at HR
  clear he e1 e2 e3 e4
  go_enter Try.func12, Try.ntmps12
  go_wp2_with (go_at_call 28; refine (HR.out _ (hD.below (by (repeat' first | (with_reducible first | exact zb0 _ _ | assumption | refine zb1 ?_ ?_ _ | refine zb2 ?_ | refine zb3 ?_ _ | refine zb4 ?_ ?_ _ | refine zb5 (by assumption) ?_ ?_ | exact zb6 _) | omega | (simp only [zsz]; omega) | (simp <;> omega))))).mono ?_; rintro e w1 ⟨rfl, hb1⟩; obtain ⟨hc1, hf1, hl1⟩ := bcell hb1; (try simp only [zdz] at hc1 hf1 hl1); have hz1 := hb1.size; (try simp only [zsz] at hz1); (try have g0 : w.heap.size < w1.heap.size := by omega); (try have g1 : w.heap.size + 1 < w1.heap.size := by omega); (try have g2 : w.heap.size + 2 < w1.heap.size := by omega); (try have gb : b < w1.heap.size := by omega); (try have g3 : w.heap.size + 3 < w1.heap.size := by omega); (try have hbb : Below w.heap.size w w1 := by (repeat' first | (with_reducible first | exact zb0 _ _ | assumption | refine zb1 ?_ ?_ _ | refine zb2 ?_ | refine zb3 ?_ _ | refine zb4 ?_ ?_ _ | refine zb5 (by assumption) ?_ ?_ | exact zb6 _) | omega | (simp only [zsz]; omega) | (simp <;> omega))); (try obtain ⟨hco, hfo, _⟩ := bcell hbb); (try have hb1 := hb1))
  (refine bodyPost_ret (v := .tuple #[.agg #[.int .i64 0, .int .i64 ((n : Int) - 2), .int .i64 0], .int .i64 20]) (by simp [results, Try.results12, go_sem, *]) rfl ?_)
  exact ⟨rfl, by exact zw⟩
set_option maxHeartbeats 2000000 in
theorem vcheck_210 (hD : Doc w b o n cap D) (he : rootE n (D.getD (n - 1) 0) (D.getD (n - 2) 0) = 210) :
    Calls Try.prog 12 #[.slice (some ⟨b, o, none⟩) n cap, .int .i64 dp, .int .i64 budget] w fun en w' => en = .returned (.tuple #[.agg #[.int .i64 0, .int .i64 0, .int .i64 0], .int .i64 210]) ∧ Below w.heap.size w w' := by
  have hbw := hD.lt
  obtain ⟨hn1, hn2⟩ := hD.bd
  have HR := Lib.hid (fun W (hW : Doc W b o n cap D) => root_any b o n cap D W hW _ _ rfl rfl)
  obtain ⟨e1, e2, e3, e4⟩ := root_bad he (by decide)
  rw [he, e1, e2, e3, e4] at HR
  clear he e1 e2 e3 e4
  go_enter Try.func12, Try.ntmps12
  go_wp2_with (go_at_call 28; refine (HR.out _ (hD.below (by (repeat' first | (with_reducible first | exact zb0 _ _ | assumption | refine zb1 ?_ ?_ _ | refine zb2 ?_ | refine zb3 ?_ _ | refine zb4 ?_ ?_ _ | refine zb5 (by assumption) ?_ ?_ | exact zb6 _) | omega | (simp only [zsz]; omega) | (simp <;> omega))))).mono ?_; rintro e w1 ⟨rfl, hb1⟩; obtain ⟨hc1, hf1, hl1⟩ := bcell hb1; (try simp only [zdz] at hc1 hf1 hl1); have hz1 := hb1.size; (try simp only [zsz] at hz1); (try have g0 : w.heap.size < w1.heap.size := by omega); (try have g1 : w.heap.size + 1 < w1.heap.size := by omega); (try have g2 : w.heap.size + 2 < w1.heap.size := by omega); (try have gb : b < w1.heap.size := by omega); (try have g3 : w.heap.size + 3 < w1.heap.size := by omega); (try have hbb : Below w.heap.size w w1 := by (repeat' first | (with_reducible first | exact zb0 _ _ | assumption | refine zb1 ?_ ?_ _ | refine zb2 ?_ | refine zb3 ?_ _ | refine zb4 ?_ ?_ _ | refine zb5 (by assumption) ?_ ?_ | exact zb6 _) | omega | (simp only [zsz]; omega) | (simp <;> omega))); (try obtain ⟨hco, hfo, _⟩ := bcell hbb); (try have hb1 := hb1))
  (refine bodyPost_ret (v := .tuple #[.agg #[.int .i64 0, .int .i64 0, .int .i64 0], .int .i64 210]) (by simp [results, Try.results12, go_sem, *]) rfl ?_)
  exact ⟨rfl, by exact zw⟩
theorem vcheck_nil : Calls Try.prog 12 #[.slice none 0 0, .int .i64 dp, .int .i64 budget] w fun en w' => en = .returned (.tuple #[.agg #[.int .i64 0, .int .i64 0, .int .i64 0], .int .i64 210]) ∧ Below w.heap.size w w' := by
  go_enter Try.func12, Try.ntmps12
  go_wp2_with (go_at_call 28; refine (root_nil _).mono ?_; rintro e w1 ⟨rfl, hb1⟩; obtain ⟨hc1, hf1, hl1⟩ := bcell hb1; (try simp only [zdz] at hc1 hf1 hl1); have hz1 := hb1.size; (try simp only [zsz] at hz1); (try have g0 : w.heap.size < w1.heap.size := by omega); (try have g1 : w.heap.size + 1 < w1.heap.size := by omega); (try have g2 : w.heap.size + 2 < w1.heap.size := by omega); (try have gb : b < w1.heap.size := by omega); (try have g3 : w.heap.size + 3 < w1.heap.size := by omega); (try have hbb : Below w.heap.size w w1 := by (repeat' first | (with_reducible first | exact zb0 _ _ | assumption | refine zb1 ?_ ?_ _ | refine zb2 ?_ | refine zb3 ?_ _ | refine zb4 ?_ ?_ _ | refine zb5 (by assumption) ?_ ?_ | exact zb6 _) | omega | (simp only [zsz]; omega) | (simp <;> omega))); (try obtain ⟨hco, hfo, _⟩ := bcell hbb); (try have hb1 := hb1))
  (refine bodyPost_ret (v := .tuple #[.agg #[.int .i64 0, .int .i64 0, .int .i64 0], .int .i64 210]) (by simp [results, Try.results12, go_sem, *]) rfl ?_)
  exact ⟨rfl, by exact zw⟩
theorem lastD_eq (D : List UInt8) (i : Nat) : D.getD (D.length - i) 0 = lastD D i := rfl
theorem check_doc (hD : Doc w b o n cap D) (hb : budget ≤ 1073741824) :
    Calls Try.prog 12 #[.slice (some ⟨b, o, none⟩) n cap, .int .i64 dp, .int .i64 budget] w fun en w' => en = .returned (.tuple #[repV (checkM D dp budget).1, .int .i64 (checkM D dp budget).2]) ∧ Below w.heap.size w w' := by
  have hlen := hD.len
  subst hlen
  by_cases hr : rootOf D = 0
  · have hr' : rootE D.length (lastD D 1) (lastD D 2) = 0 := hr
    have hm := root_may hr'
    obtain ⟨m1, m2, m3, m4, m5, m6, m7, m8, m9⟩ := mayE_zero hm
    have hsm := hD.sm
    have HT : HypTop b o D.length cap D dp (max budget 0) (rootP D.length (lastD D 1) (lastD D 2)) (rootQ D.length (lastD D 1) (lastD D 2)) (rootT D.length (lastD D 1) (lastD D 2)) (rootW D.length (lastD D 1) (lastD D 2)) (lkM D dp (max budget 0)) :=
      fun W lk hm' cm hv => vlook (D.length + 1) W _ [] _ _ _ _ _ 1 hv hm m4 (by omega) (fun t a k hx => absurd hx (by simp)) (by omega) (by omega)
    rw [checkM_good hr]
    cases hx : lkM D dp (max budget 0) with
    | ok y =>
      obtain ⟨S, h⟩ := y
      rw [hx] at HT
      exact vcheck_ok hD rfl rfl hr' rfl (by omega) (by omega) HT
    | error y =>
      obtain ⟨s, a, e⟩ := y
      rw [hx] at HT
      exact vcheck_no hD rfl rfl hr' rfl (by omega) (by omega) HT
  · rw [checkM_bad hr]
    rcases rootE_or D.length (lastD D 1) (lastD D 2) with h | h | h
    · exact absurd h hr
    · have h' : rootOf D = 20 := h
      rw [if_pos h', h']
      exact vcheck_20 hD h
    · have h' : rootOf D = 210 := h
      rw [if_neg (by omega), h']
      exact vcheck_210 hD h
end
theorem check_byt (v : Value) (D : List UInt8) (w : World) (h : Byt w v D) (dp budget : Int) (hb : budget ≤ 1073741824) :
    Calls Try.prog 12 #[v, .int .i64 dp, .int .i64 budget] w fun en w' => en = .returned (.tuple #[repV (checkM D dp budget).1, .int .i64 (checkM D dp budget).2]) ∧ Below w.heap.size w w' := by
  rcases h with ⟨rfl, rfl⟩ | ⟨b, o, cap, rfl, hD⟩
  · rw [checkM_bad (by decide : rootOf [] ≠ 0)]
    exact vcheck_nil
  · exact check_doc hD hb
end
end Go.Proofs.Ytmpflnlajakibaa
