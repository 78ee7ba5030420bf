/- The walk of verify.looker's part. -/
import Derived.Test.YtmpflnlajakibaaVer4
namespace Go.Proofs.Ytmpflnlajakibaa
set_option linter.unusedVariables false
set_option linter.unusedSimpArgs false
set_option linter.unusedSectionVars false
open Go.RowKit
/-- The end of look, part and vector. -/
def LPost (w : World) (lk hm cm b o n cap : Nat) (D : List UInt8) (dp bud : Int) (O : List Lead) (r : VR Int) (en : Ending) (w' : World) : Prop := match r with
  | .ok (S', h) => en = .returned (.tuple #[.int .i64 h, .bool true]) ∧ VOk w' lk hm cm b o n cap D dp bud S' O ∧ Touch [lk, hm, cm] w w'
  | .error (s, a, e) => (∃ x, en = .returned (.tuple #[x, .bool false])) ∧ VNo w' lk hm cm b o n cap D dp s a e ∧ Touch [lk, hm, cm] w w'
section
variable {w : World} {lk hm cm b o n cap : Nat} {D : List UInt8} {dp bud : Int} {S : VS} {O : List Lead}
theorem splace_arm {p q t k : Int} {W : World} (hW : Doc W b o n cap D) {e : Int} (he : splaceE D p q t k = e) :
    Calls Try.prog 81 #[.slice (some ⟨b, o, none⟩) n cap, .agg #[.int .i64 p, .int .i64 q, .int .i64 t, .int .i64 k]] W fun en w' =>
      en = .returned (.tuple #[.int .i64 (splaceA D p q t k), .int .i64 (splaceW D p q t k), .int .i64 e]) ∧ Below W.heap.size W w' := he ▸ splace_any b o n cap D p q t k W hW
theorem tplace_arm {p q t k : Int} {W : World} (hW : Doc W b o n cap D) {e : Int} (ht : (t == 4 || t == 5 || t == 25) = true) (he : findE D p q t k true = e) :
    Calls Try.prog 83 #[.slice (some ⟨b, o, none⟩) n cap, .agg #[.int .i64 p, .int .i64 q, .int .i64 t, .int .i64 k]] W fun en w' =>
      (∃ x l, en = .returned (.tuple #[.int .i64 x, .int .i64 l, .int .i64 e])) ∧ Below W.heap.size W w' := by
  have h := tplace_any b o n cap D p q t k W hW
  rw [ht, he] at h; exact h
set_option maxHeartbeats 4000000 in
theorem vpart_6_ok (h : VOk w lk hm cm b o n cap D dp bud S O) (p q k a deep : Int) (he : splaceE D p q 6 k = 0) :
    Calls Try.prog 48 #[.pointer (some ⟨lk, 0, none⟩), .agg #[.int .i64 p, .int .i64 q, .int .i64 6, .int .i64 k], .int .i64 a, .int .i64 deep] w (LPost w lk hm cm b o n cap D dp bud O (.ok (S, 1))) := by
  have hlow := h.low
  have hD := h.doc
  have hbw := hlow.b
  have hlw := hlow.l
  have c0 := h.c0
  have He := Lib.hid he
  clear he
  go_enter Try.func48, Try.ntmps48
  go_wp2
  go_region_with (go_at_call 81; refine (splace_arm (hD.below zw) He.out).mono ?_; rintro e w1 ⟨rfl, hb1⟩; obtain ⟨hc1, hf1, hl1⟩ := bcell hb1; (try simp only [zdz] at hc1 hf1 hl1); have hz1 := hb1.size; (try simp only [zsz] at hz1); (try have g0 : w.heap.size < w1.heap.size := by omega); (try have g1 : w.heap.size + 1 < w1.heap.size := by omega); (try have g2 : w.heap.size + 2 < w1.heap.size := by omega); (try have gb : b < w1.heap.size := by omega); (try have g3 : w.heap.size + 3 < w1.heap.size := by omega); (try have hbb : Below w.heap.size w w1 := zw); (try obtain ⟨hco, hfo, _⟩ := bcell hbb); (try have hb1 := hb1))
  all_goals go_wp2_with (go_at_call 45; refine (vtell_ok (h.keep hlow zw (Nat.le_refl _)) a).mono ?_; rintro e w1 ⟨rfl, hv1, ht1⟩; obtain ⟨hc1, hf1, hl1⟩ := tcell ht1 hlow; (try simp only [zdz] at hc1 hf1 hl1); have hz1 := ht1.size; (try simp only [zsz] at hz1); (try have g0 : w.heap.size < w1.heap.size := by omega); (try have g1 : w.heap.size + 1 < w1.heap.size := by omega); (try have g2 : w.heap.size + 2 < w1.heap.size := by omega); (try have g3 : w.heap.size + 3 < w1.heap.size := by omega); (try have g4 : w.heap.size + 4 < w1.heap.size := by omega); (try have hB1 : w.heap.size ≤ w1.heap.size := by omega); (try have gl : lk < w1.heap.size := hv1.low.l); (try have q0 := hv1.c0); (try have q1 := hv1.c1); (try have q4 := hv1.c4); (try have q5 := hv1.c5))
  all_goals go_returns
  all_goals exact ⟨rfl, hv1, Tch.touch (by (repeat' first | (with_reducible first | exact Tch.refl _ _ _ | assumption | refine Tch.alloc ?_ ?_ _ | refine Tch.drew ?_ | refine Tch.drewN ?_ _ | refine Tch.setCell ?_ ?_ _ | refine Tch.setBlock ?_ (by simp) _ | refine tch_call (by assumption) ?_ ?_ | refine tch_below (by assumption) ?_ ?_ | exact zb6 _) | omega | (simp only [zsz, size_setBlock]; omega) | (simp; omega)))⟩
set_option maxHeartbeats 4000000 in
theorem vpart_6_no (h : VOk w lk hm cm b o n cap D dp bud S O) (p q k a deep : Int) (he : splaceE D p q 6 k ≠ 0) :
    Calls Try.prog 48 #[.pointer (some ⟨lk, 0, none⟩), .agg #[.int .i64 p, .int .i64 q, .int .i64 6, .int .i64 k], .int .i64 a, .int .i64 deep] w (LPost w lk hm cm b o n cap D dp bud O (.error (S.s, a, splaceE D p q 6 k))) := by
  have hlow := h.low
  have hD := h.doc
  have hbw := hlow.b
  have hlw := hlow.l
  have c0 := h.c0
  go_enter Try.func48, Try.ntmps48
  go_wp2
  go_region_with (go_at_call 81; refine (splace_arm (hD.below zw) rfl).mono ?_; rintro e w1 ⟨rfl, hb1⟩; obtain ⟨hc1, hf1, hl1⟩ := bcell hb1; (try simp only [zdz] at hc1 hf1 hl1); have hz1 := hb1.size; (try simp only [zsz] at hz1); (try have g0 : w.heap.size < w1.heap.size := by omega); (try have g1 : w.heap.size + 1 < w1.heap.size := by omega); (try have g2 : w.heap.size + 2 < w1.heap.size := by omega); (try have gb : b < w1.heap.size := by omega); (try have g3 : w.heap.size + 3 < w1.heap.size := by omega); (try have hbb : Below w.heap.size w w1 := zw); (try obtain ⟨hco, hfo, _⟩ := bcell hbb); (try have hb1 := hb1))
  all_goals go_wp2_with (go_at_call 45; refine (vtell_no (h.keep hlow zw (Nat.le_refl _)) a (splaceE D p q 6 k) he).mono ?_; rintro e w1 ⟨rfl, hv1, ht1⟩; obtain ⟨hc1, hf1, hl1⟩ := tcell ht1 hlow; (try simp only [zdz] at hc1 hf1 hl1); have hz1 := ht1.size; (try simp only [zsz] at hz1); (try have g0 : w.heap.size < w1.heap.size := by omega); (try have g1 : w.heap.size + 1 < w1.heap.size := by omega); (try have g2 : w.heap.size + 2 < w1.heap.size := by omega); (try have g3 : w.heap.size + 3 < w1.heap.size := by omega); (try have g4 : w.heap.size + 4 < w1.heap.size := by omega); (try have hB1 : w.heap.size ≤ w1.heap.size := by omega); (try have gl : lk < w1.heap.size := hv1.low.l); (try have q0 := hv1.c0); (try have q1 := hv1.c1); (try have q4 := hv1.c4); (try have q5 := hv1.c5))
  all_goals go_returns
  all_goals exact ⟨⟨_, rfl⟩, hv1, Tch.touch (by (repeat' first | (with_reducible first | exact Tch.refl _ _ _ | assumption | refine Tch.alloc ?_ ?_ _ | refine Tch.drew ?_ | refine Tch.drewN ?_ _ | refine Tch.setCell ?_ ?_ _ | refine Tch.setBlock ?_ (by simp) _ | refine tch_call (by assumption) ?_ ?_ | refine tch_below (by assumption) ?_ ?_ | exact zb6 _) | omega | (simp only [zsz, size_setBlock]; omega) | (simp; omega)))⟩
set_option maxHeartbeats 4000000 in
theorem vpart_7_ok (h : VOk w lk hm cm b o n cap D dp bud S O) (p q k a deep : Int) (he : splaceE D p q 7 k = 0) :
    Calls Try.prog 48 #[.pointer (some ⟨lk, 0, none⟩), .agg #[.int .i64 p, .int .i64 q, .int .i64 7, .int .i64 k], .int .i64 a, .int .i64 deep] w (LPost w lk hm cm b o n cap D dp bud O (.ok (S, 1))) := by
  have hlow := h.low
  have hD := h.doc
  have hbw := hlow.b
  have hlw := hlow.l
  have c0 := h.c0
  have He := Lib.hid he
  clear he
  go_enter Try.func48, Try.ntmps48
  go_wp2
  go_region_with (go_at_call 81; refine (splace_arm (hD.below zw) He.out).mono ?_; rintro e w1 ⟨rfl, hb1⟩; obtain ⟨hc1, hf1, hl1⟩ := bcell hb1; (try simp only [zdz] at hc1 hf1 hl1); have hz1 := hb1.size; (try simp only [zsz] at hz1); (try have g0 : w.heap.size < w1.heap.size := by omega); (try have g1 : w.heap.size + 1 < w1.heap.size := by omega); (try have g2 : w.heap.size + 2 < w1.heap.size := by omega); (try have gb : b < w1.heap.size := by omega); (try have g3 : w.heap.size + 3 < w1.heap.size := by omega); (try have hbb : Below w.heap.size w w1 := zw); (try obtain ⟨hco, hfo, _⟩ := bcell hbb); (try have hb1 := hb1))
  all_goals go_wp2_with (go_at_call 45; refine (vtell_ok (h.keep hlow zw (Nat.le_refl _)) a).mono ?_; rintro e w1 ⟨rfl, hv1, ht1⟩; obtain ⟨hc1, hf1, hl1⟩ := tcell ht1 hlow; (try simp only [zdz] at hc1 hf1 hl1); have hz1 := ht1.size; (try simp only [zsz] at hz1); (try have g0 : w.heap.size < w1.heap.size := by omega); (try have g1 : w.heap.size + 1 < w1.heap.size := by omega); (try have g2 : w.heap.size + 2 < w1.heap.size := by omega); (try have g3 : w.heap.size + 3 < w1.heap.size := by omega); (try have g4 : w.heap.size + 4 < w1.heap.size := by omega); (try have hB1 : w.heap.size ≤ w1.heap.size := by omega); (try have gl : lk < w1.heap.size := hv1.low.l); (try have q0 := hv1.c0); (try have q1 := hv1.c1); (try have q4 := hv1.c4); (try have q5 := hv1.c5))
  all_goals go_returns
  all_goals exact ⟨rfl, hv1, Tch.touch (by (repeat' first | (with_reducible first | exact Tch.refl _ _ _ | assumption | refine Tch.alloc ?_ ?_ _ | refine Tch.drew ?_ | refine Tch.drewN ?_ _ | refine Tch.setCell ?_ ?_ _ | refine Tch.setBlock ?_ (by simp) _ | refine tch_call (by assumption) ?_ ?_ | refine tch_below (by assumption) ?_ ?_ | exact zb6 _) | omega | (simp only [zsz, size_setBlock]; omega) | (simp; omega)))⟩
set_option maxHeartbeats 4000000 in
theorem vpart_7_no (h : VOk w lk hm cm b o n cap D dp bud S O) (p q k a deep : Int) (he : splaceE D p q 7 k ≠ 0) :
    Calls Try.prog 48 #[.pointer (some ⟨lk, 0, none⟩), .agg #[.int .i64 p, .int .i64 q, .int .i64 7, .int .i64 k], .int .i64 a, .int .i64 deep] w (LPost w lk hm cm b o n cap D dp bud O (.error (S.s, a, splaceE D p q 7 k))) := by
  have hlow := h.low
  have hD := h.doc
  have hbw := hlow.b
  have hlw := hlow.l
  have c0 := h.c0
  go_enter Try.func48, Try.ntmps48
  go_wp2
  go_region_with (go_at_call 81; refine (splace_arm (hD.below zw) rfl).mono ?_; rintro e w1 ⟨rfl, hb1⟩; obtain ⟨hc1, hf1, hl1⟩ := bcell hb1; (try simp only [zdz] at hc1 hf1 hl1); have hz1 := hb1.size; (try simp only [zsz] at hz1); (try have g0 : w.heap.size < w1.heap.size := by omega); (try have g1 : w.heap.size + 1 < w1.heap.size := by omega); (try have g2 : w.heap.size + 2 < w1.heap.size := by omega); (try have gb : b < w1.heap.size := by omega); (try have g3 : w.heap.size + 3 < w1.heap.size := by omega); (try have hbb : Below w.heap.size w w1 := zw); (try obtain ⟨hco, hfo, _⟩ := bcell hbb); (try have hb1 := hb1))
  all_goals go_wp2_with (go_at_call 45; refine (vtell_no (h.keep hlow zw (Nat.le_refl _)) a (splaceE D p q 7 k) he).mono ?_; rintro e w1 ⟨rfl, hv1, ht1⟩; obtain ⟨hc1, hf1, hl1⟩ := tcell ht1 hlow; (try simp only [zdz] at hc1 hf1 hl1); have hz1 := ht1.size; (try simp only [zsz] at hz1); (try have g0 : w.heap.size < w1.heap.size := by omega); (try have g1 : w.heap.size + 1 < w1.heap.size := by omega); (try have g2 : w.heap.size + 2 < w1.heap.size := by omega); (try have g3 : w.heap.size + 3 < w1.heap.size := by omega); (try have g4 : w.heap.size + 4 < w1.heap.size := by omega); (try have hB1 : w.heap.size ≤ w1.heap.size := by omega); (try have gl : lk < w1.heap.size := hv1.low.l); (try have q0 := hv1.c0); (try have q1 := hv1.c1); (try have q4 := hv1.c4); (try have q5 := hv1.c5))
  all_goals go_returns
  all_goals exact ⟨⟨_, rfl⟩, hv1, Tch.touch (by (repeat' first | (with_reducible first | exact Tch.refl _ _ _ | assumption | refine Tch.alloc ?_ ?_ _ | refine Tch.drew ?_ | refine Tch.drewN ?_ _ | refine Tch.setCell ?_ ?_ _ | refine Tch.setBlock ?_ (by simp) _ | refine tch_call (by assumption) ?_ ?_ | refine tch_below (by assumption) ?_ ?_ | exact zb6 _) | omega | (simp only [zsz, size_setBlock]; omega) | (simp; omega)))⟩
set_option maxHeartbeats 4000000 in
theorem vpart_5_ok (h : VOk w lk hm cm b o n cap D dp bud S O) (p q k a deep : Int) (he : findE D p q 5 k true = 0) :
    Calls Try.prog 48 #[.pointer (some ⟨lk, 0, none⟩), .agg #[.int .i64 p, .int .i64 q, .int .i64 5, .int .i64 k], .int .i64 a, .int .i64 deep] w (LPost w lk hm cm b o n cap D dp bud O (.ok (S, 1))) := by
  have hlow := h.low
  have hD := h.doc
  have hbw := hlow.b
  have hlw := hlow.l
  have c0 := h.c0
  have He := Lib.hid he
  clear he
  go_enter Try.func48, Try.ntmps48
  go_wp2
  go_region_with (go_at_call 83; refine (tplace_arm (hD.below zw) rfl He.out).mono ?_; rintro e w1 ⟨⟨x1, x2, rfl⟩, hb1⟩; obtain ⟨hc1, hf1, hl1⟩ := bcell hb1; (try simp only [World.size_drew, World.cell?_drew, World.frozen?_drew] at hc1 hf1 hl1); have hz1 := hb1.size; (try simp only [World.size_alloc, World.size_setCell, World.size_drew] at hz1); (try have g0 : w.heap.size < w1.heap.size := by omega); (try have g1 : w.heap.size + 1 < w1.heap.size := by omega); (try have g2 : w.heap.size + 2 < w1.heap.size := by omega); (try have gb : b < w1.heap.size := by omega); (try have g3 : w.heap.size + 3 < w1.heap.size := by omega); (try have hbb : Below w.heap.size w w1 := zw); (try obtain ⟨hco, hfo, _⟩ := bcell hbb); (try have hb1 := hb1))
  all_goals go_wp2_with (go_at_call 45; refine (vtell_ok (h.keep hlow zw (Nat.le_refl _)) a).mono ?_; rintro e w1 ⟨rfl, hv1, ht1⟩; obtain ⟨hc1, hf1, hl1⟩ := tcell ht1 hlow; (try simp only [zdz] at hc1 hf1 hl1); have hz1 := ht1.size; (try simp only [zsz] at hz1); (try have g0 : w.heap.size < w1.heap.size := by omega); (try have g1 : w.heap.size + 1 < w1.heap.size := by omega); (try have g2 : w.heap.size + 2 < w1.heap.size := by omega); (try have g3 : w.heap.size + 3 < w1.heap.size := by omega); (try have g4 : w.heap.size + 4 < w1.heap.size := by omega); (try have hB1 : w.heap.size ≤ w1.heap.size := by omega); (try have gl : lk < w1.heap.size := hv1.low.l); (try have q0 := hv1.c0); (try have q1 := hv1.c1); (try have q4 := hv1.c4); (try have q5 := hv1.c5))
  all_goals go_returns
  all_goals exact ⟨rfl, hv1, Tch.touch (by (repeat' first | (with_reducible first | exact Tch.refl _ _ _ | assumption | refine Tch.alloc ?_ ?_ _ | refine Tch.drew ?_ | refine Tch.drewN ?_ _ | refine Tch.setCell ?_ ?_ _ | refine Tch.setBlock ?_ (by simp) _ | refine tch_call (by assumption) ?_ ?_ | refine tch_below (by assumption) ?_ ?_ | exact zb6 _) | omega | (simp only [zsz, size_setBlock]; omega) | (simp; omega)))⟩
set_option maxHeartbeats 4000000 in
theorem vpart_5_no (h : VOk w lk hm cm b o n cap D dp bud S O) (p q k a deep : Int) (he : findE D p q 5 k true ≠ 0) :
    Calls Try.prog 48 #[.pointer (some ⟨lk, 0, none⟩), .agg #[.int .i64 p, .int .i64 q, .int .i64 5, .int .i64 k], .int .i64 a, .int .i64 deep] w (LPost w lk hm cm b o n cap D dp bud O (.error (S.s, a, findE D p q 5 k true))) := by
  have hlow := h.low
  have hD := h.doc
  have hbw := hlow.b
  have hlw := hlow.l
  have c0 := h.c0
  go_enter Try.func48, Try.ntmps48
  go_wp2
  go_region_with (go_at_call 83; refine (tplace_arm (hD.below zw) rfl rfl).mono ?_; rintro e w1 ⟨⟨x1, x2, rfl⟩, hb1⟩; obtain ⟨hc1, hf1, hl1⟩ := bcell hb1; (try simp only [World.size_drew, World.cell?_drew, World.frozen?_drew] at hc1 hf1 hl1); have hz1 := hb1.size; (try simp only [World.size_alloc, World.size_setCell, World.size_drew] at hz1); (try have g0 : w.heap.size < w1.heap.size := by omega); (try have g1 : w.heap.size + 1 < w1.heap.size := by omega); (try have g2 : w.heap.size + 2 < w1.heap.size := by omega); (try have gb : b < w1.heap.size := by omega); (try have g3 : w.heap.size + 3 < w1.heap.size := by omega); (try have hbb : Below w.heap.size w w1 := zw); (try obtain ⟨hco, hfo, _⟩ := bcell hbb); (try have hb1 := hb1))
  all_goals go_wp2_with (go_at_call 45; refine (vtell_no (h.keep hlow zw (Nat.le_refl _)) a (findE D p q 5 k true) he).mono ?_; rintro e w1 ⟨rfl, hv1, ht1⟩; obtain ⟨hc1, hf1, hl1⟩ := tcell ht1 hlow; (try simp only [zdz] at hc1 hf1 hl1); have hz1 := ht1.size; (try simp only [zsz] at hz1); (try have g0 : w.heap.size < w1.heap.size := by omega); (try have g1 : w.heap.size + 1 < w1.heap.size := by omega); (try have g2 : w.heap.size + 2 < w1.heap.size := by omega); (try have g3 : w.heap.size + 3 < w1.heap.size := by omega); (try have g4 : w.heap.size + 4 < w1.heap.size := by omega); (try have hB1 : w.heap.size ≤ w1.heap.size := by omega); (try have gl : lk < w1.heap.size := hv1.low.l); (try have q0 := hv1.c0); (try have q1 := hv1.c1); (try have q4 := hv1.c4); (try have q5 := hv1.c5))
  all_goals go_returns
  all_goals exact ⟨⟨_, rfl⟩, hv1, Tch.touch (by (repeat' first | (with_reducible first | exact Tch.refl _ _ _ | assumption | refine Tch.alloc ?_ ?_ _ | refine Tch.drew ?_ | refine Tch.drewN ?_ _ | refine Tch.setCell ?_ ?_ _ | refine Tch.setBlock ?_ (by simp) _ | refine tch_call (by assumption) ?_ ?_ | refine tch_below (by assumption) ?_ ?_ | exact zb6 _) | omega | (simp only [zsz, size_setBlock]; omega) | (simp; omega)))⟩
set_option maxHeartbeats 4000000 in
theorem vpart_25_ok (h : VOk w lk hm cm b o n cap D dp bud S O) (p q k a deep : Int) (he : findE D p q 25 k true = 0) :
    Calls Try.prog 48 #[.pointer (some ⟨lk, 0, none⟩), .agg #[.int .i64 p, .int .i64 q, .int .i64 25, .int .i64 k], .int .i64 a, .int .i64 deep] w (LPost w lk hm cm b o n cap D dp bud O (.ok (S, 1))) := by
  have hlow := h.low
  have hD := h.doc
  have hbw := hlow.b
  have hlw := hlow.l
  have c0 := h.c0
  have He := Lib.hid he
  clear he
  go_enter Try.func48, Try.ntmps48
  go_wp2
  go_region_with (go_at_call 83; refine (tplace_arm (hD.below zw) rfl He.out).mono ?_; rintro e w1 ⟨⟨x1, x2, rfl⟩, hb1⟩; obtain ⟨hc1, hf1, hl1⟩ := bcell hb1; (try simp only [World.size_drew, World.cell?_drew, World.frozen?_drew] at hc1 hf1 hl1); have hz1 := hb1.size; (try simp only [World.size_alloc, World.size_setCell, World.size_drew] at hz1); (try have g0 : w.heap.size < w1.heap.size := by omega); (try have g1 : w.heap.size + 1 < w1.heap.size := by omega); (try have g2 : w.heap.size + 2 < w1.heap.size := by omega); (try have gb : b < w1.heap.size := by omega); (try have g3 : w.heap.size + 3 < w1.heap.size := by omega); (try have hbb : Below w.heap.size w w1 := zw); (try obtain ⟨hco, hfo, _⟩ := bcell hbb); (try have hb1 := hb1))
  all_goals go_wp2_with (go_at_call 45; refine (vtell_ok (h.keep hlow zw (Nat.le_refl _)) a).mono ?_; rintro e w1 ⟨rfl, hv1, ht1⟩; obtain ⟨hc1, hf1, hl1⟩ := tcell ht1 hlow; (try simp only [zdz] at hc1 hf1 hl1); have hz1 := ht1.size; (try simp only [zsz] at hz1); (try have g0 : w.heap.size < w1.heap.size := by omega); (try have g1 : w.heap.size + 1 < w1.heap.size := by omega); (try have g2 : w.heap.size + 2 < w1.heap.size := by omega); (try have g3 : w.heap.size + 3 < w1.heap.size := by omega); (try have g4 : w.heap.size + 4 < w1.heap.size := by omega); (try have hB1 : w.heap.size ≤ w1.heap.size := by omega); (try have gl : lk < w1.heap.size := hv1.low.l); (try have q0 := hv1.c0); (try have q1 := hv1.c1); (try have q4 := hv1.c4); (try have q5 := hv1.c5))
  all_goals go_returns
  all_goals exact ⟨rfl, hv1, Tch.touch (by (repeat' first | (with_reducible first | exact Tch.refl _ _ _ | assumption | refine Tch.alloc ?_ ?_ _ | refine Tch.drew ?_ | refine Tch.drewN ?_ _ | refine Tch.setCell ?_ ?_ _ | refine Tch.setBlock ?_ (by simp) _ | refine tch_call (by assumption) ?_ ?_ | refine tch_below (by assumption) ?_ ?_ | exact zb6 _) | omega | (simp only [zsz, size_setBlock]; omega) | (simp; omega)))⟩
set_option maxHeartbeats 4000000 in
theorem vpart_25_no (h : VOk w lk hm cm b o n cap D dp bud S O) (p q k a deep : Int) (he : findE D p q 25 k true ≠ 0) :
    Calls Try.prog 48 #[.pointer (some ⟨lk, 0, none⟩), .agg #[.int .i64 p, .int .i64 q, .int .i64 25, .int .i64 k], .int .i64 a, .int .i64 deep] w (LPost w lk hm cm b o n cap D dp bud O (.error (S.s, a, findE D p q 25 k true))) := by
  have hlow := h.low
  have hD := h.doc
  have hbw := hlow.b
  have hlw := hlow.l
  have c0 := h.c0
  go_enter Try.func48, Try.ntmps48
  go_wp2
  go_region_with (go_at_call 83; refine (tplace_arm (hD.below zw) rfl rfl).mono ?_; rintro e w1 ⟨⟨x1, x2, rfl⟩, hb1⟩; obtain ⟨hc1, hf1, hl1⟩ := bcell hb1; (try simp only [World.size_drew, World.cell?_drew, World.frozen?_drew] at hc1 hf1 hl1); have hz1 := hb1.size; (try simp only [World.size_alloc, World.size_setCell, World.size_drew] at hz1); (try have g0 : w.heap.size < w1.heap.size := by omega); (try have g1 : w.heap.size + 1 < w1.heap.size := by omega); (try have g2 : w.heap.size + 2 < w1.heap.size := by omega); (try have gb : b < w1.heap.size := by omega); (try have g3 : w.heap.size + 3 < w1.heap.size := by omega); (try have hbb : Below w.heap.size w w1 := zw); (try obtain ⟨hco, hfo, _⟩ := bcell hbb); (try have hb1 := hb1))
  all_goals go_wp2_with (go_at_call 45; refine (vtell_no (h.keep hlow zw (Nat.le_refl _)) a (findE D p q 25 k true) he).mono ?_; rintro e w1 ⟨rfl, hv1, ht1⟩; obtain ⟨hc1, hf1, hl1⟩ := tcell ht1 hlow; (try simp only [zdz] at hc1 hf1 hl1); have hz1 := ht1.size; (try simp only [zsz] at hz1); (try have g0 : w.heap.size < w1.heap.size := by omega); (try have g1 : w.heap.size + 1 < w1.heap.size := by omega); (try have g2 : w.heap.size + 2 < w1.heap.size := by omega); (try have g3 : w.heap.size + 3 < w1.heap.size := by omega); (try have g4 : w.heap.size + 4 < w1.heap.size := by omega); (try have hB1 : w.heap.size ≤ w1.heap.size := by omega); (try have gl : lk < w1.heap.size := hv1.low.l); (try have q0 := hv1.c0); (try have q1 := hv1.c1); (try have q4 := hv1.c4); (try have q5 := hv1.c5))
  all_goals go_returns
  all_goals exact ⟨⟨_, rfl⟩, hv1, Tch.touch (by (repeat' first | (with_reducible first | exact Tch.refl _ _ _ | assumption | refine Tch.alloc ?_ ?_ _ | refine Tch.drew ?_ | refine Tch.drewN ?_ _ | refine Tch.setCell ?_ ?_ _ | refine Tch.setBlock ?_ (by simp) _ | refine tch_call (by assumption) ?_ ?_ | refine tch_below (by assumption) ?_ ?_ | exact zb6 _) | omega | (simp only [zsz, size_setBlock]; omega) | (simp; omega)))⟩
set_option maxHeartbeats 4000000 in
theorem vpart_4_ok (h : VOk w lk hm cm b o n cap D dp bud S O) (p q k a deep : Int) (hwf : (Lit.int .i64 a).wf = true) {S' : VS} {s : List UInt8} (hr : keyM D bud p q k a S = .ok (S', s)) :
    Calls Try.prog 48 #[.pointer (some ⟨lk, 0, none⟩), .agg #[.int .i64 p, .int .i64 q, .int .i64 4, .int .i64 k], .int .i64 a, .int .i64 deep] w (LPost w lk hm cm b o n cap D dp bud O (.ok (S', 1))) := by
  have hlow := h.low
  have hD := h.doc
  have hbw := hlow.b
  have hlw := hlow.l
  have c0 := h.c0
  go_enter Try.func48, Try.ntmps48
  go_wp2_with (go_at_call 82; refine (vkey_ok (h.keep hlow zw (Nat.le_refl _)) hwf hr).mono ?_; rintro e w1 ⟨rfl, hv1, ht1⟩; obtain ⟨hc1, hf1, hl1⟩ := tcell ht1 hlow; (try simp only [zdz] at hc1 hf1 hl1); have hz1 := ht1.size; (try simp only [zsz] at hz1); (try have g0 : w.heap.size < w1.heap.size := by omega); (try have g1 : w.heap.size + 1 < w1.heap.size := by omega); (try have g2 : w.heap.size + 2 < w1.heap.size := by omega); (try have g3 : w.heap.size + 3 < w1.heap.size := by omega); (try have g4 : w.heap.size + 4 < w1.heap.size := by omega); (try have hB1 : w.heap.size ≤ w1.heap.size := by omega); (try have gl : lk < w1.heap.size := hv1.low.l); (try have q0 := hv1.c0); (try have q1 := hv1.c1); (try have q4 := hv1.c4); (try have q5 := hv1.c5))
  go_returns
  exact ⟨rfl, hv1, Tch.touch (by (repeat' first | (with_reducible first | exact Tch.refl _ _ _ | assumption | refine Tch.alloc ?_ ?_ _ | refine Tch.drew ?_ | refine Tch.drewN ?_ _ | refine Tch.setCell ?_ ?_ _ | refine Tch.setBlock ?_ (by simp) _ | refine tch_call (by assumption) ?_ ?_ | refine tch_below (by assumption) ?_ ?_ | exact zb6 _) | omega | (simp only [zsz, size_setBlock]; omega) | (simp; omega)))⟩
set_option maxHeartbeats 4000000 in
theorem vpart_4_no (h : VOk w lk hm cm b o n cap D dp bud S O) (p q k a deep : Int) (hwf : (Lit.int .i64 a).wf = true) {s a' e : Int} (hr : keyM D bud p q k a S = .error (s, a', e)) :
    Calls Try.prog 48 #[.pointer (some ⟨lk, 0, none⟩), .agg #[.int .i64 p, .int .i64 q, .int .i64 4, .int .i64 k], .int .i64 a, .int .i64 deep] w (LPost w lk hm cm b o n cap D dp bud O (.error (s, a', e))) := by
  have hlow := h.low
  have hD := h.doc
  have hbw := hlow.b
  have hlw := hlow.l
  have c0 := h.c0
  go_enter Try.func48, Try.ntmps48
  go_wp2_with (go_at_call 82; refine (vkey_no (h.keep hlow zw (Nat.le_refl _)) hwf hr).mono ?_; rintro e w1 ⟨⟨x1, rfl⟩, hv1, ht1⟩; obtain ⟨hc1, hf1, hl1⟩ := tcell ht1 hlow; (try simp only [zdz] at hc1 hf1 hl1); have hz1 := ht1.size; (try simp only [zsz] at hz1); (try have g0 : w.heap.size < w1.heap.size := by omega); (try have g1 : w.heap.size + 1 < w1.heap.size := by omega); (try have g2 : w.heap.size + 2 < w1.heap.size := by omega); (try have g3 : w.heap.size + 3 < w1.heap.size := by omega); (try have g4 : w.heap.size + 4 < w1.heap.size := by omega); (try have hB1 : w.heap.size ≤ w1.heap.size := by omega); (try have gl : lk < w1.heap.size := hv1.low.l); (try have q0 := hv1.c0); (try have q1 := hv1.c1); (try have q4 := hv1.c4); (try have q5 := hv1.c5))
  go_returns
  exact ⟨⟨_, rfl⟩, hv1, Tch.touch (by (repeat' first | (with_reducible first | exact Tch.refl _ _ _ | assumption | refine Tch.alloc ?_ ?_ _ | refine Tch.drew ?_ | refine Tch.drewN ?_ _ | refine Tch.setCell ?_ ?_ _ | refine Tch.setBlock ?_ (by simp) _ | refine tch_call (by assumption) ?_ ?_ | refine tch_below (by assumption) ?_ ?_ | exact zb6 _) | omega | (simp only [zsz, size_setBlock]; omega) | (simp; omega)))⟩
set_option maxHeartbeats 4000000 in
theorem vpart_v (h : VOk w lk hm cm b o n cap D dp bud S O) (p q t k a deep : Int) (h4 : t ≠ 4) (h5 : t ≠ 5) (h6 : t ≠ 6) (h7 : t ≠ 7) (h25 : t ≠ 25) (r : VR Int)
    (hr : ∀ W, VOk W lk hm cm b o n cap D dp bud S O → Calls Try.prog 84 #[.pointer (some ⟨lk, 0, none⟩), .agg #[.int .i64 p, .int .i64 q, .int .i64 t, .int .i64 k], .int .i64 a, .int .i64 deep] W (LPost W lk hm cm b o n cap D dp bud O r)) :
    Calls Try.prog 48 #[.pointer (some ⟨lk, 0, none⟩), .agg #[.int .i64 p, .int .i64 q, .int .i64 t, .int .i64 k], .int .i64 a, .int .i64 deep] w (LPost w lk hm cm b o n cap D dp bud O r) := by
  have hlow := h.low
  have hD := h.doc
  have hbw := hlow.b
  have hlw := hlow.l
  have c0 := h.c0
  have e4 : (t == 4) = false := by simpa using h4
  have e5 : (t == 5) = false := by simpa using h5
  have e6 : (t == 6) = false := by simpa using h6
  have e7 : (t == 7) = false := by simpa using h7
  have e25 : (t == 25) = false := by simpa using h25
  clear h4 h5 h6 h7 h25
  have HR := Lib.hid hr
  clear hr
  cases r with
  | ok y =>
    obtain ⟨S', x⟩ := y
    go_enter Try.func48, Try.ntmps48
    go_wp2_with (go_at_call 84; refine (HR.out _ (h.keep hlow zw (Nat.le_refl _))).mono ?_; rintro e w1 ⟨rfl, hv1, ht1⟩; obtain ⟨hc1, hf1, hl1⟩ := tcell ht1 hlow; (try simp only [zdz] at hc1 hf1 hl1); have hz1 := ht1.size; (try simp only [zsz] at hz1); (try have g0 : w.heap.size < w1.heap.size := by omega); (try have g1 : w.heap.size + 1 < w1.heap.size := by omega); (try have g2 : w.heap.size + 2 < w1.heap.size := by omega); (try have g3 : w.heap.size + 3 < w1.heap.size := by omega); (try have g4 : w.heap.size + 4 < w1.heap.size := by omega); (try have hB1 : w.heap.size ≤ w1.heap.size := by omega); (try have gl : lk < w1.heap.size := hv1.low.l); (try have q0 := hv1.c0); (try have q1 := hv1.c1); (try have q4 := hv1.c4); (try have q5 := hv1.c5))
    go_returns
    exact ⟨rfl, hv1, Tch.touch (by (repeat' first | (with_reducible first | exact Tch.refl _ _ _ | assumption | refine Tch.alloc ?_ ?_ _ | refine Tch.drew ?_ | refine Tch.drewN ?_ _ | refine Tch.setCell ?_ ?_ _ | refine Tch.setBlock ?_ (by simp) _ | refine tch_call (by assumption) ?_ ?_ | refine tch_below (by assumption) ?_ ?_ | exact zb6 _) | omega | (simp only [zsz, size_setBlock]; omega) | (simp; omega)))⟩
  | error y =>
    obtain ⟨s, a', e⟩ := y
    go_enter Try.func48, Try.ntmps48
    go_wp2_with (go_at_call 84; refine (HR.out _ (h.keep hlow zw (Nat.le_refl _))).mono ?_; rintro e w1 ⟨⟨x1, rfl⟩, hv1, ht1⟩; obtain ⟨hc1, hf1, hl1⟩ := tcell ht1 hlow; (try simp only [zdz] at hc1 hf1 hl1); have hz1 := ht1.size; (try simp only [zsz] at hz1); (try have g0 : w.heap.size < w1.heap.size := by omega); (try have g1 : w.heap.size + 1 < w1.heap.size := by omega); (try have g2 : w.heap.size + 2 < w1.heap.size := by omega); (try have g3 : w.heap.size + 3 < w1.heap.size := by omega); (try have g4 : w.heap.size + 4 < w1.heap.size := by omega); (try have hB1 : w.heap.size ≤ w1.heap.size := by omega); (try have gl : lk < w1.heap.size := hv1.low.l); (try have q0 := hv1.c0); (try have q1 := hv1.c1); (try have q4 := hv1.c4); (try have q5 := hv1.c5))
    go_returns
    exact ⟨⟨_, rfl⟩, hv1, Tch.touch (by (repeat' first | (with_reducible first | exact Tch.refl _ _ _ | assumption | refine Tch.alloc ?_ ?_ _ | refine Tch.drew ?_ | refine Tch.drewN ?_ _ | refine Tch.setCell ?_ ?_ _ | refine Tch.setBlock ?_ (by simp) _ | refine tch_call (by assumption) ?_ ?_ | refine tch_below (by assumption) ?_ ?_ | exact zb6 _) | omega | (simp only [zsz, size_setBlock]; omega) | (simp; omega)))⟩
theorem vpart (look : LookF) (h : VOk w lk hm cm b o n cap D dp bud S O) (p q t k a deep : Int) (hwf : (Lit.int .i64 a).wf = true)
    (hv : t ≠ 4 → t ≠ 5 → t ≠ 6 → t ≠ 7 → t ≠ 25 → ∀ W, VOk W lk hm cm b o n cap D dp bud S O →
      Calls Try.prog 84 #[.pointer (some ⟨lk, 0, none⟩), .agg #[.int .i64 p, .int .i64 q, .int .i64 t, .int .i64 k], .int .i64 a, .int .i64 deep] W (LPost W lk hm cm b o n cap D dp bud O (vecM look D bud p q t k a deep S))) :
    Calls Try.prog 48 #[.pointer (some ⟨lk, 0, none⟩), .agg #[.int .i64 p, .int .i64 q, .int .i64 t, .int .i64 k], .int .i64 a, .int .i64 deep] w (LPost w lk hm cm b o n cap D dp bud O (partM look D bud p q t k a deep S)) := by
  unfold partM
  by_cases h6 : t = 6
  · subst h6
    by_cases he : splaceE D p q 6 k = 0
    · simpa [he] using vpart_6_ok h p q k a deep he
    · simpa [he] using vpart_6_no h p q k a deep he
  by_cases h7 : t = 7
  · subst h7
    by_cases he : splaceE D p q 7 k = 0
    · simpa [he] using vpart_7_ok h p q k a deep he
    · simpa [he] using vpart_7_no h p q k a deep he
  rw [if_neg (by omega)]
  by_cases h4 : t = 4
  · subst h4
    rw [if_pos rfl]
    cases hr : keyM D bud p q k a S with
    | ok y => obtain ⟨S', s⟩ := y; exact vpart_4_ok h p q k a deep hwf hr
    | error y => obtain ⟨s, a', e⟩ := y; exact vpart_4_no h p q k a deep hwf hr
  rw [if_neg h4]
  by_cases h5 : t = 5
  · subst h5
    by_cases he : findE D p q 5 k true = 0
    · simpa [he] using vpart_5_ok h p q k a deep he
    · simpa [he] using vpart_5_no h p q k a deep he
  by_cases h25 : t = 25
  · subst h25
    by_cases he : findE D p q 25 k true = 0
    · simpa [he] using vpart_25_ok h p q k a deep he
    · simpa [he] using vpart_25_no h p q k a deep he
  rw [if_neg (by omega)]
  exact vpart_v h p q t k a deep h4 h5 h6 h7 h25 _ (hv h4 h5 h6 h7 h25)
end
end Go.Proofs.Ytmpflnlajakibaa
