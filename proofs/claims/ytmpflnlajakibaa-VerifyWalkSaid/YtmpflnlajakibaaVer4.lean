/- The walk of verify.looker's key. -/
import Derived.Test.YtmpflnlajakibaaB3
import Derived.Test.YtmpflnlajakibaaA6
namespace Go.Proofs.Ytmpflnlajakibaa
set_option linter.unusedVariables false
set_option linter.unusedSimpArgs false
set_option linter.unusedSectionVars false
open Go.RowKit
theorem tkey4_ok (b o n cap : Nat) (L : List UInt8) (p q k : Int) (w : World) (D : Doc w b o n cap L) (he : findE L p q 4 k true = 0) :
    Calls Try.prog 111 #[.slice (some ⟨b, o, none⟩) n cap, .agg #[.int .i64 p, .int .i64 q, .int .i64 4, .int .i64 k]] w fun e w' =>
      e = .returned (.tuple #[strV (findS L p q 4 k true), .int .i64 0]) ∧ Below w.heap.size w w' := by
  have h := tkey_any b o n cap L p q 4 k w D
  rw [show ((4 : Int) == 4) = true from rfl, he] at h; exact h
theorem tkey4_no (b o n cap : Nat) (L : List UInt8) (p q k : Int) (w : World) (D : Doc w b o n cap L) :
    Calls Try.prog 111 #[.slice (some ⟨b, o, none⟩) n cap, .agg #[.int .i64 p, .int .i64 q, .int .i64 4, .int .i64 k]] w fun e w' =>
      e = .returned (.tuple #[strV (findS L p q 4 k true), .int .i64 (findE L p q 4 k true)]) ∧ Below w.heap.size w w' := tkey_any b o n cap L p q 4 k w D
section
variable {w : World} {lk hm cm b o n cap : Nat} {D : List UInt8} {dp bud : Int} {S : VS} {O : List Lead}
set_option maxHeartbeats 4000000 in
theorem vkey_a (h : VOk w lk hm cm b o n cap D dp bud S O) (p q k a : Int) (he : findE D p q 4 k true ≠ 0) :
    Calls Try.prog 82 #[.pointer (some ⟨lk, 0, none⟩), .agg #[.int .i64 p, .int .i64 q, .int .i64 4, .int .i64 k], .int .i64 a] w fun en w' =>
      (∃ x, en = .returned (.tuple #[x, .bool false])) ∧ VNo w' lk hm cm b o n cap D dp S.s a (findE D p q 4 k true) ∧ Touch [lk, hm, cm] w w' := by
  have hlow := h.low
  have hD := h.doc
  have hbw := hlow.b
  have hlw := hlow.l
  have c0 := h.c0
  go_enter Try.func82, Try.ntmps82
  go_wp2
  go_region_with (go_at_call 111; refine (tkey4_no _ _ _ _ D p q k _ (hD.below zw)).mono ?_; rintro e w1 ⟨rfl, hb1⟩; obtain ⟨hc1, hf1, hl1⟩ := bcell hb1; (try simp only [zdz] at hc1 hf1 hl1); have hz1 := hb1.size; (try simp only [zsz] at hz1); (try have g0 : w.heap.size < w1.heap.size := by omega); (try have g1 : w.heap.size + 1 < w1.heap.size := by omega); (try have g2 : w.heap.size + 2 < w1.heap.size := by omega); (try have gb : b < w1.heap.size := by omega); (try have g3 : w.heap.size + 3 < w1.heap.size := by omega); (try have hbb : Below w.heap.size w w1 := zw); (try obtain ⟨hco, hfo, _⟩ := bcell hbb); (try have hb1 := hb1))
  all_goals go_wp2_with (go_at_call 45; refine (vtell_no (h.keep hlow zw (Nat.le_refl _)) a (findE D p q 4 k true) he).mono ?_; rintro e w1 ⟨rfl, hv1, ht1⟩; obtain ⟨hc1, hf1, hl1⟩ := tcell ht1 hlow; (try simp only [zdz] at hc1 hf1 hl1); have hz1 := ht1.size; (try simp only [zsz] at hz1); (try have g0 : w.heap.size < w1.heap.size := by omega); (try have g1 : w.heap.size + 1 < w1.heap.size := by omega); (try have g2 : w.heap.size + 2 < w1.heap.size := by omega); (try have g3 : w.heap.size + 3 < w1.heap.size := by omega); (try have g4 : w.heap.size + 4 < w1.heap.size := by omega); (try have hB1 : w.heap.size ≤ w1.heap.size := by omega); (try have gl : lk < w1.heap.size := hv1.low.l); (try have q0 := hv1.c0); (try have q1 := hv1.c1); (try have q4 := hv1.c4); (try have q5 := hv1.c5))
  all_goals go_returns
  all_goals exact ⟨⟨_, rfl⟩, hv1, Tch.touch (by (repeat' first | (with_reducible first | exact Tch.refl _ _ _ | assumption | refine Tch.alloc ?_ ?_ _ | refine Tch.drew ?_ | refine Tch.drewN ?_ _ | refine Tch.setCell ?_ ?_ _ | refine Tch.setBlock ?_ (by simp) _ | refine tch_call (by assumption) ?_ ?_ | refine tch_below (by assumption) ?_ ?_ | exact zb6 _) | omega | (simp only [zsz, size_setBlock]; omega) | (simp; omega)))⟩
set_option maxHeartbeats 4000000 in
theorem vkey_b (h : VOk w lk hm cm b o n cap D dp bud S O) (p q k a : Int) (hwf : (Lit.int .i64 a).wf = true) (he : findE D p q 4 k true = 0) (hm' : a ∈ S.C) :
    Calls Try.prog 82 #[.pointer (some ⟨lk, 0, none⟩), .agg #[.int .i64 p, .int .i64 q, .int .i64 4, .int .i64 k], .int .i64 a] w fun en w' =>
      en = .returned (.tuple #[strV (findS D p q 4 k true), .bool true]) ∧ VOk w' lk hm cm b o n cap D dp bud S O ∧ Touch [lk, hm, cm] w w' := by
  have hlow := h.low
  have hD := h.doc
  have hbw := hlow.b
  have hlw := hlow.l
  have c0 := h.c0
  have He := Lib.hid he
  clear he
  go_enter Try.func82, Try.ntmps82
  go_wp2
  go_region_with (go_at_call 111; refine (tkey4_ok _ _ _ _ D p q k _ (hD.below zw) He.out).mono ?_; rintro e w1 ⟨rfl, hb1⟩; obtain ⟨hc1, hf1, hl1⟩ := bcell hb1; (try simp only [zdz] at hc1 hf1 hl1); have hz1 := hb1.size; (try simp only [zsz] at hz1); (try have g0 : w.heap.size < w1.heap.size := by omega); (try have g1 : w.heap.size + 1 < w1.heap.size := by omega); (try have g2 : w.heap.size + 2 < w1.heap.size := by omega); (try have gb : b < w1.heap.size := by omega); (try have g3 : w.heap.size + 3 < w1.heap.size := by omega); (try have hbb : Below w.heap.size w w1 := zw); (try obtain ⟨hco, hfo, _⟩ := bcell hbb); (try have hb1 := hb1))
  all_goals go_wp2_with ((go_at_call 45; refine (vtell_ok (h.keep hlow zw (Nat.le_refl _)) a).mono ?_; rintro e w1 ⟨rfl, hv1, ht1⟩; obtain ⟨hc1, hf1, hl1⟩ := tcell ht1 hlow; (try simp only [zdz] at hc1 hf1 hl1); have hz1 := ht1.size; (try simp only [zsz] at hz1); (try have g0 : w.heap.size < w1.heap.size := by omega); (try have g1 : w.heap.size + 1 < w1.heap.size := by omega); (try have g2 : w.heap.size + 2 < w1.heap.size := by omega); (try have g3 : w.heap.size + 3 < w1.heap.size := by omega); (try have g4 : w.heap.size + 4 < w1.heap.size := by omega); (try have hB1 : w.heap.size ≤ w1.heap.size := by omega); (try have gl : lk < w1.heap.size := hv1.low.l); (try have q0 := hv1.c0); (try have q1 := hv1.c1); (try have q4 := hv1.c4); (try have q5 := hv1.c5)); obtain ⟨v, hlk⟩ := hv1.lookC hwf; rw [decide_eq_true hm'] at hlk)
  all_goals go_returns
  all_goals exact ⟨rfl, hv1, Tch.touch (by (repeat' first | (with_reducible first | exact Tch.refl _ _ _ | assumption | refine Tch.alloc ?_ ?_ _ | refine Tch.drew ?_ | refine Tch.drewN ?_ _ | refine Tch.setCell ?_ ?_ _ | refine Tch.setBlock ?_ (by simp) _ | refine tch_call (by assumption) ?_ ?_ | refine tch_below (by assumption) ?_ ?_ | exact zb6 _) | omega | (simp only [zsz, size_setBlock]; omega) | (simp; omega)))⟩
set_option maxHeartbeats 4000000 in
theorem vkey_c (h : VOk w lk hm cm b o n cap D dp bud S O) (p q k a : Int) (hwf : (Lit.int .i64 a).wf = true) (he : findE D p q 4 k true = 0) (hm' : a ∉ S.C) (hs : S.s + ((findS D p q 4 k true).length + 1) ≤ bud) :
    Calls Try.prog 82 #[.pointer (some ⟨lk, 0, none⟩), .agg #[.int .i64 p, .int .i64 q, .int .i64 4, .int .i64 k], .int .i64 a] w fun en w' =>
      en = .returned (.tuple #[strV (findS D p q 4 k true), .bool true]) ∧ VOk w' lk hm cm b o n cap D dp bud { s := S.s + ((findS D p q 4 k true).length + 1), L := S.L, C := a :: S.C } O ∧ Touch [lk, hm, cm] w w' := by
  have hlow := h.low
  have hD := h.doc
  have hbw := hlow.b
  have hlw := hlow.l
  have c0 := h.c0
  have He := Lib.hid he
  have hl0 : (findS D p q 4 k true).length ≤ 1073741824 := Nat.le_trans (findS_le D p q 4 k true) (by rw [hD.len]; exact hD.sm)
  have HK : Hid (∀ W, Doc W b o n cap D → Calls Try.prog 111 #[.slice (some ⟨b, o, none⟩) n cap, .agg #[.int .i64 p, .int .i64 q, .int .i64 4, .int .i64 k]] W fun e w' =>
      e = .returned (.tuple #[.string ⟨(findS D p q 4 k true).toArray⟩, .int .i64 0]) ∧ Below W.heap.size W w') := Lib.hid (fun W DW => tkey4_ok _ _ _ _ D p q k W DW he)
  clear he
  generalize findS D p q 4 k true = s at *
  go_enter Try.func82, Try.ntmps82
  go_wp2
  go_region_with (go_at_call 111; refine (HK.out _ (hD.below zw)).mono ?_; rintro e w1 ⟨rfl, hb1⟩; obtain ⟨hc1, hf1, hl1⟩ := bcell hb1; (try simp only [zdz] at hc1 hf1 hl1); have hz1 := hb1.size; (try simp only [zsz] at hz1); (try have g0 : w.heap.size < w1.heap.size := by omega); (try have g1 : w.heap.size + 1 < w1.heap.size := by omega); (try have g2 : w.heap.size + 2 < w1.heap.size := by omega); (try have gb : b < w1.heap.size := by omega); (try have g3 : w.heap.size + 3 < w1.heap.size := by omega); (try have hbb : Below w.heap.size w w1 := zw); (try obtain ⟨hco, hfo, _⟩ := bcell hbb); (try have hb1 := hb1))
  all_goals go_wp2_with ((go_at_call 45; refine (vtell_ok (h.keep hlow zw (Nat.le_refl _)) a).mono ?_; rintro e w1 ⟨rfl, hv1, ht1⟩; obtain ⟨hc1, hf1, hl1⟩ := tcell ht1 hlow; (try simp only [zdz] at hc1 hf1 hl1); have hz1 := ht1.size; (try simp only [zsz] at hz1); (try have g0 : w.heap.size < w1.heap.size := by omega); (try have g1 : w.heap.size + 1 < w1.heap.size := by omega); (try have g2 : w.heap.size + 2 < w1.heap.size := by omega); (try have g3 : w.heap.size + 3 < w1.heap.size := by omega); (try have g4 : w.heap.size + 4 < w1.heap.size := by omega); (try have hB1 : w.heap.size ≤ w1.heap.size := by omega); (try have gl : lk < w1.heap.size := hv1.low.l); (try have q0 := hv1.c0); (try have q1 := hv1.c1); (try have q4 := hv1.c4); (try have q5 := hv1.c5)); obtain ⟨v, hlk⟩ := hv1.lookC hwf; rw [decide_eq_false hm'] at hlk; obtain ⟨w2, hup, hv2, ht2, hlk2, hlk3⟩ := hv1.addC ((s.length : Int) + 1) hwf; obtain ⟨hc2, hf2, hl2⟩ := tcell ht2 hlow; have hz2 := ht2.size; (try have g02 : w.heap.size < w2.heap.size := by omega); (try have g12 : w.heap.size + 1 < w2.heap.size := by omega); (try have g22 : w.heap.size + 2 < w2.heap.size := by omega); (try have g32 : w.heap.size + 3 < w2.heap.size := by omega); (try have hB2 : w.heap.size ≤ w2.heap.size := by omega); (try have gl2 : lk < w2.heap.size := hv2.low.l); (try have q02 := hv2.c0); (try have q12 := hv2.c1); (try have q42 := hv2.c4); (try have q52 := hv2.c5))
  all_goals go_region_with (go_at_call 44; refine (vstep_ok (hv2.keep hlow zw hB2) ((s.length : Int) + 1) p (by omega) hs).mono ?_; rintro e w1 ⟨rfl, hv1, ht1⟩; obtain ⟨hc1, hf1, hl1⟩ := tcell ht1 hlow; (try simp only [zdz] at hc1 hf1 hl1); have hz1 := ht1.size; (try simp only [zsz] at hz1); (try have g0 : w.heap.size < w1.heap.size := by omega); (try have g1 : w.heap.size + 1 < w1.heap.size := by omega); (try have g2 : w.heap.size + 2 < w1.heap.size := by omega); (try have g3 : w.heap.size + 3 < w1.heap.size := by omega); (try have g4 : w.heap.size + 4 < w1.heap.size := by omega); (try have hB1 : w.heap.size ≤ w1.heap.size := by omega); (try have gl : lk < w1.heap.size := hv1.low.l); (try have q0 := hv1.c0); (try have q1 := hv1.c1); (try have q4 := hv1.c4); (try have q5 := hv1.c5))
  all_goals go_wp2
  all_goals go_returns
  all_goals exact ⟨rfl, hv1, Tch.touch (by (repeat' first | (with_reducible first | exact Tch.refl _ _ _ | assumption | refine Tch.alloc ?_ ?_ _ | refine Tch.drew ?_ | refine Tch.drewN ?_ _ | refine Tch.setCell ?_ ?_ _ | refine Tch.setBlock ?_ (by simp) _ | refine tch_call (by assumption) ?_ ?_ | refine tch_below (by assumption) ?_ ?_ | exact zb6 _) | omega | (simp only [zsz, size_setBlock]; omega) | (simp; omega)))⟩
set_option maxHeartbeats 4000000 in
theorem vkey_d (h : VOk w lk hm cm b o n cap D dp bud S O) (p q k a : Int) (hwf : (Lit.int .i64 a).wf = true) (he : findE D p q 4 k true = 0) (hm' : a ∉ S.C) (hs : ¬ S.s + ((findS D p q 4 k true).length + 1) ≤ bud) :
    Calls Try.prog 82 #[.pointer (some ⟨lk, 0, none⟩), .agg #[.int .i64 p, .int .i64 q, .int .i64 4, .int .i64 k], .int .i64 a] w fun en w' =>
      (∃ x, en = .returned (.tuple #[x, .bool false])) ∧ VNo w' lk hm cm b o n cap D dp S.s p 290 ∧ Touch [lk, hm, cm] w w' := by
  have hlow := h.low
  have hD := h.doc
  have hbw := hlow.b
  have hlw := hlow.l
  have c0 := h.c0
  have He := Lib.hid he
  have hs' : bud < S.s + ((findS D p q 4 k true).length + 1) := by omega
  clear hs
  have hl0 : (findS D p q 4 k true).length ≤ 1073741824 := Nat.le_trans (findS_le D p q 4 k true) (by rw [hD.len]; exact hD.sm)
  have HK : Hid (∀ W, Doc W b o n cap D → Calls Try.prog 111 #[.slice (some ⟨b, o, none⟩) n cap, .agg #[.int .i64 p, .int .i64 q, .int .i64 4, .int .i64 k]] W fun e w' =>
      e = .returned (.tuple #[.string ⟨(findS D p q 4 k true).toArray⟩, .int .i64 0]) ∧ Below W.heap.size W w') := Lib.hid (fun W DW => tkey4_ok _ _ _ _ D p q k W DW he)
  clear he
  generalize findS D p q 4 k true = s at *
  go_enter Try.func82, Try.ntmps82
  go_wp2
  go_region_with (go_at_call 111; refine (HK.out _ (hD.below zw)).mono ?_; rintro e w1 ⟨rfl, hb1⟩; obtain ⟨hc1, hf1, hl1⟩ := bcell hb1; (try simp only [zdz] at hc1 hf1 hl1); have hz1 := hb1.size; (try simp only [zsz] at hz1); (try have g0 : w.heap.size < w1.heap.size := by omega); (try have g1 : w.heap.size + 1 < w1.heap.size := by omega); (try have g2 : w.heap.size + 2 < w1.heap.size := by omega); (try have gb : b < w1.heap.size := by omega); (try have g3 : w.heap.size + 3 < w1.heap.size := by omega); (try have hbb : Below w.heap.size w w1 := zw); (try obtain ⟨hco, hfo, _⟩ := bcell hbb); (try have hb1 := hb1))
  all_goals go_wp2_with ((go_at_call 45; refine (vtell_ok (h.keep hlow zw (Nat.le_refl _)) a).mono ?_; rintro e w1 ⟨rfl, hv1, ht1⟩; obtain ⟨hc1, hf1, hl1⟩ := tcell ht1 hlow; (try simp only [zdz] at hc1 hf1 hl1); have hz1 := ht1.size; (try simp only [zsz] at hz1); (try have g0 : w.heap.size < w1.heap.size := by omega); (try have g1 : w.heap.size + 1 < w1.heap.size := by omega); (try have g2 : w.heap.size + 2 < w1.heap.size := by omega); (try have g3 : w.heap.size + 3 < w1.heap.size := by omega); (try have g4 : w.heap.size + 4 < w1.heap.size := by omega); (try have hB1 : w.heap.size ≤ w1.heap.size := by omega); (try have gl : lk < w1.heap.size := hv1.low.l); (try have q0 := hv1.c0); (try have q1 := hv1.c1); (try have q4 := hv1.c4); (try have q5 := hv1.c5)); obtain ⟨v, hlk⟩ := hv1.lookC hwf; rw [decide_eq_false hm'] at hlk; obtain ⟨w2, hup, hv2, ht2, hlk2, hlk3⟩ := hv1.addC ((s.length : Int) + 1) hwf; obtain ⟨hc2, hf2, hl2⟩ := tcell ht2 hlow; have hz2 := ht2.size; (try have g02 : w.heap.size < w2.heap.size := by omega); (try have g12 : w.heap.size + 1 < w2.heap.size := by omega); (try have g22 : w.heap.size + 2 < w2.heap.size := by omega); (try have g32 : w.heap.size + 3 < w2.heap.size := by omega); (try have hB2 : w.heap.size ≤ w2.heap.size := by omega); (try have gl2 : lk < w2.heap.size := hv2.low.l); (try have q02 := hv2.c0); (try have q12 := hv2.c1); (try have q42 := hv2.c4); (try have q52 := hv2.c5))
  all_goals go_region_with (go_at_call 44; refine (vstep_no (hv2.keep hlow zw hB2) ((s.length : Int) + 1) p (by show ¬ S.s + _ ≤ bud; omega)).mono ?_; rintro e w1 ⟨rfl, hv1, ht1⟩; obtain ⟨hc1, hf1, hl1⟩ := tcell ht1 hlow; (try simp only [zdz] at hc1 hf1 hl1); have hz1 := ht1.size; (try simp only [zsz] at hz1); (try have g0 : w.heap.size < w1.heap.size := by omega); (try have g1 : w.heap.size + 1 < w1.heap.size := by omega); (try have g2 : w.heap.size + 2 < w1.heap.size := by omega); (try have g3 : w.heap.size + 3 < w1.heap.size := by omega); (try have g4 : w.heap.size + 4 < w1.heap.size := by omega); (try have hB1 : w.heap.size ≤ w1.heap.size := by omega); (try have gl : lk < w1.heap.size := hv1.low.l); (try have q0 := hv1.c0); (try have q1 := hv1.c1); (try have q4 := hv1.c4); (try have q5 := hv1.c5))
  all_goals go_wp2
  all_goals go_returns
  all_goals exact ⟨⟨_, rfl⟩, hv1, Tch.touch (by (repeat' first | (with_reducible first | exact Tch.refl _ _ _ | assumption | refine Tch.alloc ?_ ?_ _ | refine Tch.drew ?_ | refine Tch.drewN ?_ _ | refine Tch.setCell ?_ ?_ _ | refine Tch.setBlock ?_ (by simp) _ | refine tch_call (by assumption) ?_ ?_ | refine tch_below (by assumption) ?_ ?_ | exact zb6 _) | omega | (simp only [zsz, size_setBlock]; omega) | (simp; omega)))⟩
theorem vkey_ok (h : VOk w lk hm cm b o n cap D dp bud S O) {p q k a : Int} (hwf : (Lit.int .i64 a).wf = true) {S' : VS} {s : List UInt8} (hk : keyM D bud p q k a S = .ok (S', s)) :
    Calls Try.prog 82 #[.pointer (some ⟨lk, 0, none⟩), .agg #[.int .i64 p, .int .i64 q, .int .i64 4, .int .i64 k], .int .i64 a] w fun en w' =>
      en = .returned (.tuple #[strV s, .bool true]) ∧ VOk w' lk hm cm b o n cap D dp bud S' O ∧ Touch [lk, hm, cm] w w' := by
  unfold keyM at hk
  split at hk
  · cases hk
  · rename_i he
    have he : findE D p q 4 k true = 0 := by simpa using he
    split at hk
    · rename_i hc
      cases hk
      exact vkey_b h p q k a hwf he hc
    · rename_i hc
      split at hk
      · cases hk
      · rename_i hst
        obtain ⟨e1, e2⟩ := stepM_ok hst
        cases hk
        rw [e1]
        exact vkey_c h p q k a hwf he hc e2
theorem vkey_no (h : VOk w lk hm cm b o n cap D dp bud S O) {p q k a : Int} (hwf : (Lit.int .i64 a).wf = true) {s a' e : Int} (hk : keyM D bud p q k a S = .error (s, a', e)) :
    Calls Try.prog 82 #[.pointer (some ⟨lk, 0, none⟩), .agg #[.int .i64 p, .int .i64 q, .int .i64 4, .int .i64 k], .int .i64 a] w fun en w' =>
      (∃ x, en = .returned (.tuple #[x, .bool false])) ∧ VNo w' lk hm cm b o n cap D dp s a' e ∧ Touch [lk, hm, cm] w w' := by
  unfold keyM at hk
  split at hk
  · rename_i he
    cases hk
    exact vkey_a h p q k a he
  · rename_i he
    have he : findE D p q 4 k true = 0 := by simpa using he
    split at hk
    · cases hk
    · rename_i hc
      split at hk
      · rename_i hst
        cases hk
        unfold stepM at hst
        split at hst
        · cases hst
        · cases hst
          exact vkey_d h p q k a hwf he hc (by assumption)
      · cases hk
end
end Go.Proofs.Ytmpflnlajakibaa
