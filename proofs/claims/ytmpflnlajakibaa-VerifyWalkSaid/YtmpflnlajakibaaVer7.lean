/- The walk of verify.looker's vector. -/
import Derived.Test.YtmpflnlajakibaaVer6
namespace Go.Proofs.Ytmpflnlajakibaa
set_option linter.unusedVariables false
set_option linter.unusedSimpArgs false
set_option linter.unusedSectionVars false
open Go.RowKit
/-- The end of keys. -/
def KPost (w : World) (lk hm cm b o n cap : Nat) (D : List UInt8) (dp bud : Int) (O : List Lead) (r : VR Unit) (en : Ending) (w' : World) : Prop := match r with
  | .ok (S', _) => en = .returned (.bool true) ∧ VOk w' lk hm cm b o n cap D dp bud S' O ∧ Touch [lk, hm, cm] w w'
  | .error (s, a, e) => en = .returned (.bool false) ∧ VNo w' lk hm cm b o n cap D dp s a e ∧ Touch [lk, hm, cm] w w'
theorem elem_legal {t : Int} (h : vecB t = true) : legalB (elemOf t) = true := by
  by_cases ho : t < 0 ∨ 37 ≤ t
  · simp [vecB, isOf_out ho] at h
  have h37 : t = 0 ∨ t = 1 ∨ t = 2 ∨ t = 3 ∨ t = 4 ∨ t = 5 ∨ t = 6 ∨ t = 7 ∨ t = 8 ∨ t = 9 ∨ t = 10 ∨ t = 11 ∨ t = 12 ∨ t = 13 ∨ t = 14 ∨ t = 15 ∨ t = 16 ∨ t = 17 ∨ t = 18 ∨ t = 19 ∨ t = 20 ∨ t = 21 ∨ t = 22 ∨ t = 23 ∨ t = 24 ∨ t = 25 ∨ t = 26 ∨ t = 27 ∨ t = 28 ∨ t = 29 ∨ t = 30 ∨ t = 31 ∨ t = 32 ∨ t = 33 ∨ t = 34 ∨ t = 35 ∨ t = 36 := by omega
  rcases h37 with rfl | rfl | rfl | rfl | rfl | rfl | rfl | rfl | rfl | rfl | rfl | rfl | rfl | rfl | rfl | rfl | rfl | rfl | rfl | rfl | rfl | rfl | rfl | rfl | rfl | rfl | rfl | rfl | rfl | rfl | rfl | rfl | rfl | rfl | rfl | rfl | rfl
  all_goals first | rfl | (revert h; decide)
/-- The reference that list.At finds may be read. -/
theorem lat_may {L : List UInt8} {p q t k i : Int} (h : latE L p q t k i = 0) : mayE L.length (latP L p q t k i) (latQ L p q t k i) (latT L p q t k i) (latW L p q t k i) = 0 ∧ lfindE L p q t k = 0 ∧ 0 ≤ i ∧ i < lCnt L p q t k := by
  have he : lfindE L p q t k = 0 := by
    by_cases he : lfindE L p q t k = 0
    · exact he
    · simp [latE, he] at h
  have hi : ¬ (i < 0 ∨ lCnt L p q t k ≤ i) := by
    intro hi; simp [latE, he, hi] at h
  obtain ⟨g0, gv, g1, -, g2, g3, g4, g5, g6, -, -⟩ := lfindE_zero he
  obtain ⟨-, -, hk, -, -, -, k1, k8, -⟩ := mayE_zero (targetE_zero g0).1
  refine ⟨?_, he, by omega, by omega⟩
  have e1 : latP L p q t k i = lAt L p q t k + i * k := by simp [latP, h]
  have e2 : latQ L p q t k i = k := by simp [latQ, h]
  have ht := tagsOf_bd t
  have y1 : lCnt L p q t k * (k + tagsOf t) = lCnt L p q t k * k + lCnt L p q t k * tagsOf t := by rw [Int.mul_add]
  have y2 : 0 ≤ lCnt L p q t k * tagsOf t := Int.mul_nonneg g3 ht.1
  have y3 : (i + 1) * k ≤ lCnt L p q t k * k := Int.mul_le_mul_of_nonneg_right (by omega) (by omega)
  have y4 : (i + 1) * k = i * k + k := by rw [Int.add_mul, Int.one_mul]
  have y5 : 0 ≤ i * k := Int.mul_nonneg (by omega) (by omega)
  have hlw : legalB (latT L p q t k i) = true ∧ wideB (latW L p q t k i) = true := by
    cases hg : tagB t with
    | true =>
      have hu : unpackE (tagY L p q t k i) = 0 := by
        have hh := h
        simp only [latE, he, hi, hg, ne_eq, not_true_eq_false, if_false, if_true] at hh
        exact hh
      have hl : legalB (((tagY L p q t k i).toNat : Int) / 4) = true := by
        by_cases hl : legalB (((tagY L p q t k i).toNat : Int) / 4) = true
        · exact hl
        · simp [unpackE, hl] at hu
      have e3 : latT L p q t k i = ((tagY L p q t k i).toNat : Int) / 4 := by simp [latT, h, hg, unpackT, hl]
      have e4 : latW L p q t k i = 2 ^ ((tagY L p q t k i).toNat % 4) := by simp [latW, h, hg, unpackW, hl]
      rw [e3, e4]
      refine ⟨hl, ?_⟩
      have h4 : (tagY L p q t k i).toNat % 4 < 4 := Nat.mod_lt _ (by omega)
      generalize (tagY L p q t k i).toNat % 4 = m at h4
      have : m = 0 ∨ m = 1 ∨ m = 2 ∨ m = 3 := by omega
      rcases this with rfl | rfl | rfl | rfl <;> decide
    | false =>
      have hv : vecB t = true := by simpa [vectorB, hg] using gv
      have e3 : latT L p q t k i = elemOf t := by simp [latT, h, hg]
      have e4 : latW L p q t k i = k := by simp [latW, h, hg]
      rw [e3, e4]
      exact ⟨elem_legal hv, hk⟩
  unfold mayE
  have hin : insideB L.length (latP L p q t k i) (latQ L p q t k i) = true := by
    rw [e1, e2]
    simp only [insideB, Bool.and_eq_true, decide_eq_true_eq]
    omega
  rw [hlw.1, hlw.2, e2, hk]
  rw [e2] at hin
  simp [hin]
section
variable {w : World} {lk hm cm b o n cap : Nat} {D : List UInt8} {dp bud : Int} {S : VS} {O : List Lead}
theorem span_arm {p q t k : Int} {W : World} (hW : Doc W b o n cap D) {e : Int} (he : lfindE D p q t k = e) :
    Calls Try.prog 103 #[.slice (some ⟨b, o, none⟩) n cap, .agg #[.int .i64 p, .int .i64 q, .int .i64 t, .int .i64 k]] W fun en w' =>
      en = .returned (.tuple #[.int .i64 (lFrom D p q t k), .int .i64 (lAt D p q t k), .int .i64 (lTo D p q t k), .int .i64 e]) ∧ Below W.heap.size W w' := he ▸ span_any b o n cap D p q t k W hW
theorem len_arm {p q t k : Int} {W : World} (hW : Doc W b o n cap D) {e : Int} (he : lfindE D p q t k = e) :
    Calls Try.prog 22 #[.slice (some ⟨b, o, none⟩) n cap, .agg #[.int .i64 p, .int .i64 q, .int .i64 t, .int .i64 k]] W fun en w' =>
      en = .returned (.tuple #[.int .i64 (lCnt D p q t k), .int .i64 e]) ∧ Below W.heap.size W w' := he ▸ len_any b o n cap D p q t k W hW
theorem lat_arm {p q t k i : Int} {W : World} (hW : Doc W b o n cap D) {e : Int} (he : latE D p q t k i = e) :
    Calls Try.prog 23 #[.slice (some ⟨b, o, none⟩) n cap, .agg #[.int .i64 p, .int .i64 q, .int .i64 t, .int .i64 k], .int .i64 i] W fun en w' =>
      en = .returned (.tuple #[.agg #[.int .i64 (latP D p q t k i), .int .i64 (latQ D p q t k i), .int .i64 (latT D p q t k i), .int .i64 (latW D p q t k i)], .int .i64 e]) ∧ Below W.heap.size W w' := he ▸ lat_any b o n cap D p q t k i W hW
set_option maxHeartbeats 4000000 in
theorem vvec_a (h : VOk w lk hm cm b o n cap D dp bud S O) (p q t k a deep : Int) (he : lfindE D p q t k ≠ 0) :
    Calls Try.prog 84 #[.pointer (some ⟨lk, 0, none⟩), .agg #[.int .i64 p, .int .i64 q, .int .i64 t, .int .i64 k], .int .i64 a, .int .i64 deep] w (LPost w lk hm cm b o n cap D dp bud O (.error (S.s, a, lfindE D p q t k))) := by
  have hlow := h.low
  have hD := h.doc
  have hbw := hlow.b
  have hlw := hlow.l
  have c0 := h.c0
  go_enter Try.func84, Try.ntmps84
  go_wp2
  go_region_with (go_at_call 103; refine (span_arm (hD.below zw) rfl).mono ?_; rintro e w1 ⟨rfl, hb1⟩; obtain ⟨hc1, hf1, hl1⟩ := bcell hb1; (try simp only [zdz] at hc1 hf1 hl1); have hz1 := hb1.size; (try simp only [zsz] at hz1); (try have g0 : w.heap.size < w1.heap.size := by omega); (try have g1 : w.heap.size + 1 < w1.heap.size := by omega); (try have g2 : w.heap.size + 2 < w1.heap.size := by omega); (try have gb : b < w1.heap.size := by omega); (try have g3 : w.heap.size + 3 < w1.heap.size := by omega); (try have hbb : Below w.heap.size w w1 := zw); (try obtain ⟨hco, hfo, _⟩ := bcell hbb); (try have hb1 := hb1))
  all_goals go_wp2_with (go_at_call 45; refine (vtell_no (h.keep hlow zw (Nat.le_refl _)) a (lfindE D p q t k) he).mono ?_; rintro e w1 ⟨rfl, hv1, ht1⟩; obtain ⟨hc1, hf1, hl1⟩ := tcell ht1 hlow; (try simp only [zdz] at hc1 hf1 hl1); have hz1 := ht1.size; (try simp only [zsz] at hz1); (try have g0 : w.heap.size < w1.heap.size := by omega); (try have g1 : w.heap.size + 1 < w1.heap.size := by omega); (try have g2 : w.heap.size + 2 < w1.heap.size := by omega); (try have g3 : w.heap.size + 3 < w1.heap.size := by omega); (try have g4 : w.heap.size + 4 < w1.heap.size := by omega); (try have hB1 : w.heap.size ≤ w1.heap.size := by omega); (try have gl : lk < w1.heap.size := hv1.low.l); (try have q0 := hv1.c0); (try have q1 := hv1.c1); (try have q4 := hv1.c4); (try have q5 := hv1.c5))
  all_goals go_returns
  all_goals exact ⟨⟨_, rfl⟩, hv1, Tch.touch (by (repeat' first | (with_reducible first | exact Tch.refl _ _ _ | assumption | refine Tch.alloc ?_ ?_ _ | refine Tch.drew ?_ | refine Tch.drewN ?_ _ | refine Tch.setCell ?_ ?_ _ | refine Tch.setBlock ?_ (by simp) _ | refine tch_call (by assumption) ?_ ?_ | refine tch_below (by assumption) ?_ ?_ | exact zb6 _) | omega | (simp only [zsz, size_setBlock]; omega) | (simp; omega)))⟩
end
end Go.Proofs.Ytmpflnlajakibaa
