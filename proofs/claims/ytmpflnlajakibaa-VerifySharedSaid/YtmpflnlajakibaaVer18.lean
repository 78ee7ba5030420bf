/- verify.Check, whole. -/
import Derived.Test.YtmpflnlajakibaaVer17
import Derived.Test.YtmpflnlajakibaaVer16
namespace Go.Proofs.Ytmpflnlajakibaa
set_option linter.unusedVariables false
set_option linter.unusedSimpArgs false
set_option linter.unusedSectionVars false
open Go.RowKit
section
variable {w : World} {b o n cap : Nat} {D : List UInt8} {dp budget : Int}
set_option maxHeartbeats 2000000 in
theorem vcheck_20 (hD : Doc w b o n cap D) (he : rootE n (D.getD (n - 1) 0) (D.getD (n - 2) 0) = 20) :
    Calls Try.prog 12 #[.slice (some ⟨b, o, none⟩) n cap, .int .i64 dp, .int .i64 budget] w fun en w' => en = .returned (.tuple #[.agg #[.int .i64 0, .int .i64 ((n : Int) - 2), .int .i64 0], .int .i64 20]) ∧ Below w.heap.size w w' := by
  have hbw := hD.lt
  obtain ⟨hn1, hn2⟩ := hD.bd
  have HR := Lib.hid (fun W (hW : Doc W b o n cap D) => root_any b o n cap D W hW _ _ rfl rfl)
  obtain ⟨e1, e2, e3, e4⟩ := root_bad he (by decide)
  rw [he, e1, e2, e3, e4] at HR
  clear he e1 e2 e3 e4
  go_enter Try.func12, Try.ntmps12
  go_wp2_with (go_at_call 28; refine (HR.out _ (hD.below (by (repeat' (first | (with_reducible exact Below.refl _ _) | (with_reducible assumption) | (with_reducible refine Below.alloc ?_ ?_ _) | (with_reducible refine Below.drew ?_) | (with_reducible refine below_drewN ?_ _) | (with_reducible refine Below.setCell ?_ ?_ _) | (with_reducible refine below_call (by assumption) ?_ ?_) | (with_reducible exact Nat.le_refl _) | omega | (simp only [World.size_alloc, World.size_setCell, World.size_drew]; omega) | (simp; omega)))))).mono ?_; rintro e w1 ⟨rfl, hb1⟩; obtain ⟨hc1, hf1, hl1⟩ := bcell hb1; (try simp only [World.size_drew, World.cell?_drew, World.frozen?_drew] at hc1 hf1 hl1); have hz1 := hb1.size; (try simp only [World.size_alloc, World.size_setCell, World.size_drew] at hz1); (try have g0 : w.heap.size < w1.heap.size := by omega); (try have g1 : w.heap.size + 1 < w1.heap.size := by omega); (try have g2 : w.heap.size + 2 < w1.heap.size := by omega); (try have gb : b < w1.heap.size := by omega); (try have g3 : w.heap.size + 3 < w1.heap.size := by omega); (try have hbb : Below w.heap.size w w1 := by (repeat' (first | (with_reducible exact Below.refl _ _) | (with_reducible assumption) | (with_reducible refine Below.alloc ?_ ?_ _) | (with_reducible refine Below.drew ?_) | (with_reducible refine below_drewN ?_ _) | (with_reducible refine Below.setCell ?_ ?_ _) | (with_reducible refine below_call (by assumption) ?_ ?_) | (with_reducible exact Nat.le_refl _) | omega | (simp only [World.size_alloc, World.size_setCell, World.size_drew]; omega) | (simp; omega)))); (try obtain ⟨hco, hfo, _⟩ := bcell hbb); (try have hb1 := hb1))
  (refine bodyPost_ret (v := .tuple #[.agg #[.int .i64 0, .int .i64 ((n : Int) - 2), .int .i64 0], .int .i64 20]) (by simp [results, Try.results12, go_sem, *]) rfl ?_)
  exact ⟨rfl, by (repeat' (first | (with_reducible exact Below.refl _ _) | (with_reducible assumption) | (with_reducible refine Below.alloc ?_ ?_ _) | (with_reducible refine Below.drew ?_) | (with_reducible refine below_drewN ?_ _) | (with_reducible refine Below.setCell ?_ ?_ _) | (with_reducible refine below_call (by assumption) ?_ ?_) | (with_reducible exact Nat.le_refl _) | omega | (simp only [World.size_alloc, World.size_setCell, World.size_drew]; omega) | (simp; omega)))⟩
set_option maxHeartbeats 2000000 in
theorem vcheck_210 (hD : Doc w b o n cap D) (he : rootE n (D.getD (n - 1) 0) (D.getD (n - 2) 0) = 210) :
    Calls Try.prog 12 #[.slice (some ⟨b, o, none⟩) n cap, .int .i64 dp, .int .i64 budget] w fun en w' => en = .returned (.tuple #[.agg #[.int .i64 0, .int .i64 0, .int .i64 0], .int .i64 210]) ∧ Below w.heap.size w w' := by
  have hbw := hD.lt
  obtain ⟨hn1, hn2⟩ := hD.bd
  have HR := Lib.hid (fun W (hW : Doc W b o n cap D) => root_any b o n cap D W hW _ _ rfl rfl)
  obtain ⟨e1, e2, e3, e4⟩ := root_bad he (by decide)
  rw [he, e1, e2, e3, e4] at HR
  clear he e1 e2 e3 e4
  go_enter Try.func12, Try.ntmps12
  go_wp2_with (go_at_call 28; refine (HR.out _ (hD.below (by (repeat' (first | (with_reducible exact Below.refl _ _) | (with_reducible assumption) | (with_reducible refine Below.alloc ?_ ?_ _) | (with_reducible refine Below.drew ?_) | (with_reducible refine below_drewN ?_ _) | (with_reducible refine Below.setCell ?_ ?_ _) | (with_reducible refine below_call (by assumption) ?_ ?_) | (with_reducible exact Nat.le_refl _) | omega | (simp only [World.size_alloc, World.size_setCell, World.size_drew]; omega) | (simp; omega)))))).mono ?_; rintro e w1 ⟨rfl, hb1⟩; obtain ⟨hc1, hf1, hl1⟩ := bcell hb1; (try simp only [World.size_drew, World.cell?_drew, World.frozen?_drew] at hc1 hf1 hl1); have hz1 := hb1.size; (try simp only [World.size_alloc, World.size_setCell, World.size_drew] at hz1); (try have g0 : w.heap.size < w1.heap.size := by omega); (try have g1 : w.heap.size + 1 < w1.heap.size := by omega); (try have g2 : w.heap.size + 2 < w1.heap.size := by omega); (try have gb : b < w1.heap.size := by omega); (try have g3 : w.heap.size + 3 < w1.heap.size := by omega); (try have hbb : Below w.heap.size w w1 := by (repeat' (first | (with_reducible exact Below.refl _ _) | (with_reducible assumption) | (with_reducible refine Below.alloc ?_ ?_ _) | (with_reducible refine Below.drew ?_) | (with_reducible refine below_drewN ?_ _) | (with_reducible refine Below.setCell ?_ ?_ _) | (with_reducible refine below_call (by assumption) ?_ ?_) | (with_reducible exact Nat.le_refl _) | omega | (simp only [World.size_alloc, World.size_setCell, World.size_drew]; omega) | (simp; omega)))); (try obtain ⟨hco, hfo, _⟩ := bcell hbb); (try have hb1 := hb1))
  (refine bodyPost_ret (v := .tuple #[.agg #[.int .i64 0, .int .i64 0, .int .i64 0], .int .i64 210]) (by simp [results, Try.results12, go_sem, *]) rfl ?_)
  exact ⟨rfl, by (repeat' (first | (with_reducible exact Below.refl _ _) | (with_reducible assumption) | (with_reducible refine Below.alloc ?_ ?_ _) | (with_reducible refine Below.drew ?_) | (with_reducible refine below_drewN ?_ _) | (with_reducible refine Below.setCell ?_ ?_ _) | (with_reducible refine below_call (by assumption) ?_ ?_) | (with_reducible exact Nat.le_refl _) | omega | (simp only [World.size_alloc, World.size_setCell, World.size_drew]; omega) | (simp; omega)))⟩
theorem vcheck_nil : Calls Try.prog 12 #[.slice none 0 0, .int .i64 dp, .int .i64 budget] w fun en w' => en = .returned (.tuple #[.agg #[.int .i64 0, .int .i64 0, .int .i64 0], .int .i64 210]) ∧ Below w.heap.size w w' := by
  go_enter Try.func12, Try.ntmps12
  go_wp2_with (go_at_call 28; refine (root_nil _).mono ?_; rintro e w1 ⟨rfl, hb1⟩; obtain ⟨hc1, hf1, hl1⟩ := bcell hb1; (try simp only [World.size_drew, World.cell?_drew, World.frozen?_drew] at hc1 hf1 hl1); have hz1 := hb1.size; (try simp only [World.size_alloc, World.size_setCell, World.size_drew] at hz1); (try have g0 : w.heap.size < w1.heap.size := by omega); (try have g1 : w.heap.size + 1 < w1.heap.size := by omega); (try have g2 : w.heap.size + 2 < w1.heap.size := by omega); (try have gb : b < w1.heap.size := by omega); (try have g3 : w.heap.size + 3 < w1.heap.size := by omega); (try have hbb : Below w.heap.size w w1 := by (repeat' (first | (with_reducible exact Below.refl _ _) | (with_reducible assumption) | (with_reducible refine Below.alloc ?_ ?_ _) | (with_reducible refine Below.drew ?_) | (with_reducible refine below_drewN ?_ _) | (with_reducible refine Below.setCell ?_ ?_ _) | (with_reducible refine below_call (by assumption) ?_ ?_) | (with_reducible exact Nat.le_refl _) | omega | (simp only [World.size_alloc, World.size_setCell, World.size_drew]; omega) | (simp; omega)))); (try obtain ⟨hco, hfo, _⟩ := bcell hbb); (try have hb1 := hb1))
  (refine bodyPost_ret (v := .tuple #[.agg #[.int .i64 0, .int .i64 0, .int .i64 0], .int .i64 210]) (by simp [results, Try.results12, go_sem, *]) rfl ?_)
  exact ⟨rfl, by (repeat' (first | (with_reducible exact Below.refl _ _) | (with_reducible assumption) | (with_reducible refine Below.alloc ?_ ?_ _) | (with_reducible refine Below.drew ?_) | (with_reducible refine below_drewN ?_ _) | (with_reducible refine Below.setCell ?_ ?_ _) | (with_reducible refine below_call (by assumption) ?_ ?_) | (with_reducible exact Nat.le_refl _) | omega | (simp only [World.size_alloc, World.size_setCell, World.size_drew]; omega) | (simp; omega)))⟩
theorem lastD_eq (D : List UInt8) (i : Nat) : D.getD (D.length - i) 0 = lastD D i := rfl
theorem check_doc (hD : Doc w b o n cap D) (hb : budget ≤ 1073741824) :
    Calls Try.prog 12 #[.slice (some ⟨b, o, none⟩) n cap, .int .i64 dp, .int .i64 budget] w fun en w' => en = .returned (.tuple #[repV (checkM D dp budget).1, .int .i64 (checkM D dp budget).2]) ∧ Below w.heap.size w w' := by
  have hlen := hD.len
  subst hlen
  by_cases hr : rootOf D = 0
  · have hr' : rootE D.length (lastD D 1) (lastD D 2) = 0 := hr
    have hm := root_may hr'
    obtain ⟨m1, m2, m3, m4, m5, m6, m7, m8, m9⟩ := mayE_zero hm
    have hsm := hD.sm
    have HT : HypTop b o D.length cap D dp (max budget 0) (rootP D.length (lastD D 1) (lastD D 2)) (rootQ D.length (lastD D 1) (lastD D 2)) (rootT D.length (lastD D 1) (lastD D 2)) (rootW D.length (lastD D 1) (lastD D 2)) (lkM D dp (max budget 0)) :=
      fun W lk hm' cm hv => vlook (D.length + 1) W _ [] _ _ _ _ _ 1 hv hm m4 (by omega) (fun t a k hx => absurd hx (by simp)) (by omega) (by omega)
    rw [checkM_good hr]
    cases hx : lkM D dp (max budget 0) with
    | ok y =>
      obtain ⟨S, h⟩ := y
      rw [hx] at HT
      exact vcheck_ok hD rfl rfl hr' rfl (by omega) (by omega) HT
    | error y =>
      obtain ⟨s, a, e⟩ := y
      rw [hx] at HT
      exact vcheck_no hD rfl rfl hr' rfl (by omega) (by omega) HT
  · rw [checkM_bad hr]
    rcases rootE_or D.length (lastD D 1) (lastD D 2) with h | h | h
    · exact absurd h hr
    · have h' : rootOf D = 20 := h
      rw [if_pos h', h']
      exact vcheck_20 hD h
    · have h' : rootOf D = 210 := h
      rw [if_neg (by omega), h']
      exact vcheck_210 hD h
end
theorem check_byt (v : Value) (D : List UInt8) (w : World) (h : Byt w v D) (dp budget : Int) (hb : budget ≤ 1073741824) :
    Calls Try.prog 12 #[v, .int .i64 dp, .int .i64 budget] w fun en w' => en = .returned (.tuple #[repV (checkM D dp budget).1, .int .i64 (checkM D dp budget).2]) ∧ Below w.heap.size w w' := by
  rcases h with ⟨rfl, rfl⟩ | ⟨b, o, cap, rfl, hD⟩
  · rw [checkM_bad (by decide : rootOf [] ≠ 0)]
    exact vcheck_nil
  · exact check_doc hD hb
end Go.Proofs.Ytmpflnlajakibaa
