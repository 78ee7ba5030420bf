/- The walk of verify.looker's keysRef. -/
import Derived.Test.YtmpflnlajakibaaVer4
namespace Go.Proofs.Ytmpflnlajakibaa
set_option linter.unusedVariables false
set_option linter.unusedSimpArgs false
set_option linter.unusedSectionVars false
open Go.RowKit
section
variable {w : World} {lk hm cm b o n cap : Nat} {D : List UInt8} {dp bud : Int} {S : VS} {O : List Lead}
set_option maxHeartbeats 4000000 in
theorem vkref_a (h : VOk w lk hm cm b o n cap D dp bud S O) (p q k f : Int) (hk : wideB k = true) (h0 : 0 ≤ f) (h1 : f + 3 * k ≤ n) (hv : f < loadV D f k) :
    Calls Try.prog 137 #[.pointer (some ⟨lk, 0, none⟩), .agg #[.int .i64 p, .int .i64 q, .int .i64 9, .int .i64 k], .int .i64 f] w fun en w' =>
      (∃ x1 x2 x3 x4 : Int, ∃ y, en = .returned (.tuple #[.agg #[.int .i64 x1, .int .i64 x2, .int .i64 x3, .int .i64 x4], y, .bool false])) ∧ VNo w' lk hm cm b o n cap D dp S.s f 211 ∧ Touch [lk, hm, cm] w w' := by
  have hlow := h.low
  have hD := h.doc
  obtain ⟨hn1, hn2⟩ := hD.bd
  have hbw := hlow.b
  have hlw := hlow.l
  have c0 := h.c0
  have hkb := wideB_bd hk
  have v0 := loadV_nonneg D f k
  clear hk
  go_enter Try.func137, Try.ntmps137
  go_wp2
  go_region_with (go_at_call 79; refine (load_any _ _ _ _ D _ _ _ (hD.below zw)).mono ?_; rintro e w1 ⟨rfl, hb1⟩; obtain ⟨hc1, hf1, hl1⟩ := bcell hb1; (try simp only [zdz] at hc1 hf1 hl1); have hz1 := hb1.size; (try simp only [zsz] at hz1); (try have g0 : w.heap.size < w1.heap.size := by omega); (try have g1 : w.heap.size + 1 < w1.heap.size := by omega); (try have g2 : w.heap.size + 2 < w1.heap.size := by omega); (try have gb : b < w1.heap.size := by omega); (try have g3 : w.heap.size + 3 < w1.heap.size := by omega); (try have hbb : Below w.heap.size w w1 := zw); (try obtain ⟨hco, hfo, _⟩ := bcell hbb); (try have hb1 := hb1))
  all_goals go_wp2
  all_goals go_region_with (go_at_call 45; refine (vtell_no (h.keep hlow zw (Nat.le_refl _)) f 211 (by omega)).mono ?_; rintro e w1 ⟨rfl, hv1, ht1⟩; obtain ⟨hc1, hf1, hl1⟩ := tcell ht1 hlow; (try simp only [zdz] at hc1 hf1 hl1); have hz1 := ht1.size; (try simp only [zsz] at hz1); (try have g0 : w.heap.size < w1.heap.size := by omega); (try have g1 : w.heap.size + 1 < w1.heap.size := by omega); (try have g2 : w.heap.size + 2 < w1.heap.size := by omega); (try have g3 : w.heap.size + 3 < w1.heap.size := by omega); (try have g4 : w.heap.size + 4 < w1.heap.size := by omega); (try have hB1 : w.heap.size ≤ w1.heap.size := by omega); (try have gl : lk < w1.heap.size := hv1.low.l); (try have q0 := hv1.c0); (try have q1 := hv1.c1); (try have q4 := hv1.c4); (try have q5 := hv1.c5))
  all_goals go_wp2
  all_goals (refine bodyPost_ret (v := .tuple #[.agg #[.int .i64 0, .int .i64 0, .int .i64 0, .int .i64 0], .int .i64 0, .bool false]) (by simp [results, Try.results137, go_sem, *]) rfl ?_)
  all_goals exact ⟨⟨_, _, _, _, _, rfl⟩, hv1.keep hlow zw (by omega), Tch.touch (by (repeat' first | (with_reducible first | exact Tch.refl _ _ _ | assumption | refine Tch.alloc ?_ ?_ _ | refine Tch.drew ?_ | refine Tch.drewN ?_ _ | refine Tch.setCell ?_ ?_ _ | refine Tch.setBlock ?_ (by simp) _ | refine tch_call (by assumption) ?_ ?_ | refine tch_below (by assumption) ?_ ?_ | exact zb6 _) | omega | (simp only [zsz, size_setBlock]; omega) | (simp; omega)))⟩
/-- The end of keysRef. -/
def KRPost (w : World) (lk hm cm b o n cap : Nat) (D : List UInt8) (dp bud : Int) (O : List Lead) (k f : Int) (r : VR Int) (en : Ending) (w' : World) : Prop := match r with
  | .ok (S', a) => en = .returned (.tuple #[.agg #[.int .i64 f, .int .i64 k, .int .i64 14, .int .i64 (kwOf D k f)], .int .i64 a, .bool true]) ∧ VOk w' lk hm cm b o n cap D dp bud S' O ∧ Touch [lk, hm, cm] w w'
  | .error (s, a, e) => (∃ x1 x2 x3 x4 : Int, ∃ y, en = .returned (.tuple #[.agg #[.int .i64 x1, .int .i64 x2, .int .i64 x3, .int .i64 x4], y, .bool false])) ∧ VNo w' lk hm cm b o n cap D dp s a e ∧ Touch [lk, hm, cm] w w'
set_option maxHeartbeats 4000000 in
theorem vkref_b (h : VOk w lk hm cm b o n cap D dp bud S O) (p q k f : Int) (hk : wideB k = true) (h0 : 0 ≤ f) (h1 : f + 3 * k ≤ n) (hv : loadV D f k ≤ f) (r : VR Int) (hr : keysRefM D k f S = r) :
    Calls Try.prog 137 #[.pointer (some ⟨lk, 0, none⟩), .agg #[.int .i64 p, .int .i64 q, .int .i64 9, .int .i64 k], .int .i64 f] w (KRPost w lk hm cm b o n cap D dp bud O k f r) := by
  have hlow := h.low
  have hD := h.doc
  obtain ⟨hn1, hn2⟩ := hD.bd
  have hbw := hlow.b
  have hlw := hlow.l
  have c0 := h.c0
  have hkb := wideB_bd hk
  have v0 := loadV_nonneg D f k
  have v1 := loadV_nonneg D (f + k) k
  have v2 := loadV_lt D (f + k) k
  have hmin : min (loadV D (f + k) k) 9 = kwOf D k f := rfl
  have w0 : 0 ≤ kwOf D k f ∧ kwOf D k f ≤ 9 := by unfold kwOf; omega
  obtain ⟨w0, w9⟩ := w0
  have hwr : IntKind.i64.wrap (f + k) = f + k := IntWalk.i64_in _ (by omega)
  have Hk := Lib.hid hk
  have Hr := Lib.hid hr
  clear hk hr
  go_enter Try.func137, Try.ntmps137
  go_wp2
  go_cut [9] (fun s9 wx => s9 = .int .u64 (loadV D f k) ∧ Below ((w.alloc (.cells #[.int .i64 p, .int .i64 q, .int .i64 9, .int .i64 k] 39)).alloc (.cells #[.int .i64 0, .int .i64 0, .int .i64 0, .int .i64 0] 39)).heap.size ((w.alloc (.cells #[.int .i64 p, .int .i64 q, .int .i64 9, .int .i64 k] 39)).alloc (.cells #[.int .i64 0, .int .i64 0, .int .i64 0, .int .i64 0] 39)) wx)
  case first =>
    go_region_with (go_at_call 79; refine (load_any _ _ _ _ D _ _ _ (hD.below zw)).mono ?_; rintro e w1 ⟨rfl, hb1⟩; obtain ⟨hc1, hf1, hl1⟩ := bcell hb1; (try simp only [zdz] at hc1 hf1 hl1); have hz1 := hb1.size; (try simp only [zsz] at hz1); (try have g0 : w.heap.size < w1.heap.size := by omega); (try have g1 : w.heap.size + 1 < w1.heap.size := by omega); (try have g2 : w.heap.size + 2 < w1.heap.size := by omega); (try have gb : b < w1.heap.size := by omega); (try have g3 : w.heap.size + 3 < w1.heap.size := by omega); (try have hbb : Below w.heap.size w w1 := zw); (try obtain ⟨hco, hfo, _⟩ := bcell hbb); (try have hb1 := hb1))
    all_goals (go_wp2_with fail; go_meet; exact ⟨rfl, by exact zw⟩)
  case rest =>
  obtain ⟨rfl, hx⟩ := hcut
  obtain ⟨hcx, hfx, hlx⟩ := bcell hx
  have hzx := hx.size
  simp only [World.size_alloc] at hzx
  have x0 : w.heap.size < wc.heap.size := by omega
  have x1 : w.heap.size + 1 < wc.heap.size := by omega
  have gx : lk < wc.heap.size := by omega
  have hxb : Below w.heap.size w wc := by exact zw
  have qx0 : wc.cell? ⟨lk, 0, none⟩ = some (.slice (some ⟨b, o, none⟩) n cap) := (hxb.cell (p := ⟨lk, 0, none⟩) hlw).trans c0
  have hx := Lib.hid hx
  go_wp2
  go_cut [11] (fun s11 wx => s11 = .int .u64 (loadV D (f + k) k) ∧ Below wc.heap.size wc wx)
  case first =>
    go_region_with (go_at_call 79; refine (load_any _ _ _ _ D _ _ _ (hD.below zw)).mono ?_; rintro e w1 ⟨rfl, hb1⟩; obtain ⟨hc1, hf1, hl1⟩ := bcell hb1; (try simp only [zdz] at hc1 hf1 hl1); have hz1 := hb1.size; (try simp only [zsz] at hz1); (try have g0 : w.heap.size < w1.heap.size := by omega); (try have g1 : w.heap.size + 1 < w1.heap.size := by omega); (try have g2 : w.heap.size + 2 < w1.heap.size := by omega); (try have gb : b < w1.heap.size := by omega); (try have g3 : w.heap.size + 3 < w1.heap.size := by omega); (try have hbb : Below w.heap.size w w1 := zw); (try obtain ⟨hco, hfo, _⟩ := bcell hbb); (try have hb1 := hb1))
    all_goals (go_wp2_with fail; go_meet; exact ⟨rfl, by exact zw⟩)
  case rest =>
  obtain ⟨rfl, hy⟩ := hcut
  obtain ⟨hcy, hfy, hly⟩ := bcell hy
  have hzy := hy.size
  have y0 : w.heap.size < wc.heap.size := by omega
  have y1 : w.heap.size + 1 < wc.heap.size := by omega
  have gy : lk < wc.heap.size := by omega
  have hyb : Below w.heap.size w wc := hxb.trans (hy.mono (by omega))
  have qy0 : wc.cell? ⟨lk, 0, none⟩ = some (.slice (some ⟨b, o, none⟩) n cap) := (hyb.cell (p := ⟨lk, 0, none⟩) hlw).trans c0
  have hy := Lib.hid hy
  cases hw : wideB (kwOf D k f) with
  | false =>
    have hce : codeE (kwOf D k f) = 2 := by simp [codeE, hw]
    obtain rfl : r = .error (S.s, f + k, 212) := by rw [← Hr.out]; simp [keysRefM, hw]; omega
    clear hw
    go_wp2_with (go_at_call 77; refine (code_any _ _).mono ?_; rintro e w1 ⟨rfl, rfl⟩)
    go_region_with (go_at_call 45; refine (vtell_no (h.keep hlow zw (Nat.le_refl _)) (f + k) 212 (by omega)).mono ?_; rintro e w1 ⟨rfl, hv1, ht1⟩; obtain ⟨hc1, hf1, hl1⟩ := tcell ht1 hlow; (try simp only [zdz] at hc1 hf1 hl1); have hz1 := ht1.size; (try simp only [zsz] at hz1); (try have g0 : w.heap.size < w1.heap.size := by omega); (try have g1 : w.heap.size + 1 < w1.heap.size := by omega); (try have g2 : w.heap.size + 2 < w1.heap.size := by omega); (try have g3 : w.heap.size + 3 < w1.heap.size := by omega); (try have g4 : w.heap.size + 4 < w1.heap.size := by omega); (try have hB1 : w.heap.size ≤ w1.heap.size := by omega); (try have gl : lk < w1.heap.size := hv1.low.l); (try have q0 := hv1.c0); (try have q1 := hv1.c1); (try have q4 := hv1.c4); (try have q5 := hv1.c5))
    all_goals go_wp2
    all_goals have k0 : w1.cell? ⟨w.heap.size + 1, 0, none⟩ = some (.int .i64 f) := by go_simp
    all_goals have k1 : w1.cell? ⟨w.heap.size + 1, 1, none⟩ = some (.int .i64 k) := by go_simp
    all_goals have k2 : w1.cell? ⟨w.heap.size + 1, 2, none⟩ = some (.int .i64 14) := by go_simp
    all_goals have k3 : w1.cell? ⟨w.heap.size + 1, 3, none⟩ = some (.int .i64 (kwOf D k f)) := by go_simp
    all_goals ((try clear hc1 hf1); (try clear hcy hfy); (try clear hcx hfx))
    all_goals (refine bodyPost_ret (v := .tuple #[.agg #[.int .i64 f, .int .i64 k, .int .i64 14, .int .i64 (kwOf D k f)], .int .i64 0, .bool false]) (by simp [results, Try.results137, go_sem, *]) rfl ?_)
    all_goals exact ⟨⟨_, _, _, _, _, rfl⟩, hv1.keep hlow zw (by omega), Tch.touch (by (repeat' first | (with_reducible first | exact Tch.refl _ _ _ | assumption | refine Tch.alloc ?_ ?_ _ | refine Tch.drew ?_ | refine Tch.drewN ?_ _ | refine Tch.setCell ?_ ?_ _ | refine Tch.setBlock ?_ (by simp) _ | refine tch_call (by assumption) ?_ ?_ | refine tch_below (by assumption) ?_ ?_ | exact zb6 _) | omega | (simp only [zsz, size_setBlock]; omega) | (simp; omega)))⟩
  | true =>
    have hce : codeE (kwOf D k f) = 0 := by simp [codeE, hw]
    have hwb := wideB_bd hw
    have Hw := Lib.hid hw
    clear hw
    by_cases ht : tgtB D f k 14 (kwOf D k f) f = true
    · obtain rfl : r = .ok (S, f - loadV D f k) := by
        rw [← Hr.out]; simp [keysRefM, targetM, ht, Hw.out]
        try omega
      go_wp2_with (first | (go_at_call 77; refine (code_any _ _).mono ?_; rintro e w1 ⟨rfl, rfl⟩) | (go_at_call 47; refine (vtgt_ok (h.keep hlow zw (Nat.le_refl _)) f k 14 (kwOf D k f) f Hk.out h0 (by omega) (by omega) (by omega) ht).mono ?_; rintro e w1 ⟨rfl, hv1, ht1⟩; obtain ⟨hc1, hf1, hl1⟩ := tcell ht1 hlow; (try simp only [zdz] at hc1 hf1 hl1); have hz1 := ht1.size; (try simp only [zsz] at hz1); (try have g0 : w.heap.size < w1.heap.size := by omega); (try have g1 : w.heap.size + 1 < w1.heap.size := by omega); (try have g2 : w.heap.size + 2 < w1.heap.size := by omega); (try have g3 : w.heap.size + 3 < w1.heap.size := by omega); (try have g4 : w.heap.size + 4 < w1.heap.size := by omega); (try have hB1 : w.heap.size ≤ w1.heap.size := by omega); (try have gl : lk < w1.heap.size := hv1.low.l); (try have q0 := hv1.c0); (try have q1 := hv1.c1); (try have q4 := hv1.c4); (try have q5 := hv1.c5)))
      have k0 : w1.cell? ⟨w.heap.size + 1, 0, none⟩ = some (.int .i64 f) := by go_simp
      have k1 : w1.cell? ⟨w.heap.size + 1, 1, none⟩ = some (.int .i64 k) := by go_simp
      have k2 : w1.cell? ⟨w.heap.size + 1, 2, none⟩ = some (.int .i64 14) := by go_simp
      have k3 : w1.cell? ⟨w.heap.size + 1, 3, none⟩ = some (.int .i64 (kwOf D k f)) := by go_simp
      (try clear hc1 hf1); (try clear hcy hfy); (try clear hcx hfx)
      (refine bodyPost_ret (v := .tuple #[.agg #[.int .i64 f, .int .i64 k, .int .i64 14, .int .i64 (kwOf D k f)], .int .i64 (f - loadV D f k), .bool true]) (by simp [results, Try.results137, go_sem, *]) rfl ?_)
      exact ⟨rfl, hv1.keep hlow zw (by omega), Tch.touch (by (repeat' first | (with_reducible first | exact Tch.refl _ _ _ | assumption | refine Tch.alloc ?_ ?_ _ | refine Tch.drew ?_ | refine Tch.drewN ?_ _ | refine Tch.setCell ?_ ?_ _ | refine Tch.setBlock ?_ (by simp) _ | refine tch_call (by assumption) ?_ ?_ | refine tch_below (by assumption) ?_ ?_ | exact zb6 _) | omega | (simp only [zsz, size_setBlock]; omega) | (simp; omega)))⟩
    · obtain rfl : r = .error (S.s, f, 211) := by
        rw [← Hr.out]; simp [keysRefM, targetM, ht, Hw.out]
        try omega
      go_wp2_with (first | (go_at_call 77; refine (code_any _ _).mono ?_; rintro e w1 ⟨rfl, rfl⟩) | (go_at_call 47; refine (vtgt_no (h.keep hlow zw (Nat.le_refl _)) f k 14 (kwOf D k f) f Hk.out h0 (by omega) (by omega) (by omega) ht).mono ?_; rintro e w1 ⟨rfl, hv1, ht1⟩; obtain ⟨hc1, hf1, hl1⟩ := tcell ht1 hlow; (try simp only [zdz] at hc1 hf1 hl1); have hz1 := ht1.size; (try simp only [zsz] at hz1); (try have g0 : w.heap.size < w1.heap.size := by omega); (try have g1 : w.heap.size + 1 < w1.heap.size := by omega); (try have g2 : w.heap.size + 2 < w1.heap.size := by omega); (try have g3 : w.heap.size + 3 < w1.heap.size := by omega); (try have g4 : w.heap.size + 4 < w1.heap.size := by omega); (try have hB1 : w.heap.size ≤ w1.heap.size := by omega); (try have gl : lk < w1.heap.size := hv1.low.l); (try have q0 := hv1.c0); (try have q1 := hv1.c1); (try have q4 := hv1.c4); (try have q5 := hv1.c5)))
      have k0 : w1.cell? ⟨w.heap.size + 1, 0, none⟩ = some (.int .i64 f) := by go_simp
      have k1 : w1.cell? ⟨w.heap.size + 1, 1, none⟩ = some (.int .i64 k) := by go_simp
      have k2 : w1.cell? ⟨w.heap.size + 1, 2, none⟩ = some (.int .i64 14) := by go_simp
      have k3 : w1.cell? ⟨w.heap.size + 1, 3, none⟩ = some (.int .i64 (kwOf D k f)) := by go_simp
      (try clear hc1 hf1); (try clear hcy hfy); (try clear hcx hfx)
      (refine bodyPost_ret (v := .tuple #[.agg #[.int .i64 f, .int .i64 k, .int .i64 14, .int .i64 (kwOf D k f)], .int .i64 0, .bool false]) (by simp [results, Try.results137, go_sem, *]) rfl ?_)
      exact ⟨⟨_, _, _, _, _, rfl⟩, hv1.keep hlow zw (by omega), Tch.touch (by (repeat' first | (with_reducible first | exact Tch.refl _ _ _ | assumption | refine Tch.alloc ?_ ?_ _ | refine Tch.drew ?_ | refine Tch.drewN ?_ _ | refine Tch.setCell ?_ ?_ _ | refine Tch.setBlock ?_ (by simp) _ | refine tch_call (by assumption) ?_ ?_ | refine tch_below (by assumption) ?_ ?_ | exact zb6 _) | omega | (simp only [zsz, size_setBlock]; omega) | (simp; omega)))⟩
end
end Go.Proofs.Ytmpflnlajakibaa
