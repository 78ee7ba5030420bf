/- The walk of verify.looker's look, where the data is new. -/
import Derived.Test.YtmpflnlajakibaaA0
namespace Go.Proofs.Ytmpflnlajakibaa
set_option linter.unusedVariables false
set_option linter.unusedSimpArgs false
set_option linter.unusedSectionVars false
open Go.RowKit
def HypPart (lk hm cm b o n cap : Nat) (D : List UInt8) (dp bud : Int) (S : VS) (O : List Lead) (p q t k a deep : Int) (r : VR Int) : Prop :=
  ∀ W, VOk W lk hm cm b o n cap D dp bud S O → Calls Try.prog 48 #[.pointer (some ⟨lk, 0, none⟩), .agg #[.int .i64 p, .int .i64 q, .int .i64 t, .int .i64 k], .int .i64 a, .int .i64 deep] W (LPost W lk hm cm b o n cap D dp bud O r)
section
variable {w : World} {lk hm cm b o n cap : Nat} {D : List UInt8} {dp bud : Int} {S : VS} {O : List Lead}
set_option maxHeartbeats 4000000 in
set_option maxRecDepth 100000 in
theorem vlook_f (h : VOk w lk hm cm b o n cap D dp bud S O) (p q t k lim deep hh : Int) (hm' : mayE n p q t k = 0) (hs : S.s + 1 ≤ bud) (hd : ¬ dp < deep) (hi : inlineB t = false) (ht : tgtB D p q t k lim = true) (hn4 : t ≠ 4)
    (hk : vknown S.L (t, p - loadV D p q, k) = none) (hO : (t, p - loadV D p q, k) ∉ O) (hd0 : 0 ≤ deep) (hd1 : deep ≤ 2147483648) (hh0 : 1 ≤ hh) (hh1 : hh ≤ beginsV t k (p - loadV D p q) + 30) {S3 : VS}
    (HP : HypPart lk hm cm b o n cap D dp bud { S with s := S.s + 1 } ((t, p - loadV D p q, k) :: O) p q t k (p - loadV D p q) deep (.ok (S3, hh))) :
    Calls Try.prog 29 #[.pointer (some ⟨lk, 0, none⟩), .agg #[.int .i64 p, .int .i64 q, .int .i64 t, .int .i64 k], .int .i64 lim, .int .i64 deep] w (LPost w lk hm cm b o n cap D dp bud O (.ok ({ S3 with L := ((t, p - loadV D p q, k), hh) :: S3.L }, hh))) := by
  have hlow := h.low
  have hlw := hlow.l
  have Hs := Lib.hid hs
  have HT := Lib.hid ht
  obtain ⟨h1, h2, h3, h4, h5, h6, h7, h8, h9⟩ := mayE_zero hm'
  obtain ⟨t0, t37⟩ := kindOf_in h1
  have H2 := Lib.hid h2
  have hD := h.doc
  obtain ⟨hn1, hn2⟩ := hD.bd
  have v0 := loadV_nonneg D p q
  have v1 := (tgtB_le ht).1
  have HK := Lib.hid hk
  have HO := Lib.hid hO
  have hn4' : (t == 4) = false := by simpa using hn4
  clear hs ht hm' h1 h2 h3 hk hO hn4
  go_enter Try.func29, Try.ntmps29
  go_upto_region 11 with (first | (go_at_call 44; refine (vstep_ok (h.keep hlow (by (repeat' first | (with_reducible first | exact zb0 _ _ | assumption | refine zb1 ?_ ?_ _ | refine zb2 ?_ | refine zb3 ?_ _ | refine zb4 ?_ ?_ _ | refine zb5 (by assumption) ?_ ?_ | exact zb6 _) | omega | (simp only [zsz]; omega) | (simp <;> omega))) (Nat.le_refl _)) 1 p (by omega) Hs.out).mono ?_; rintro e w1 ⟨rfl, hv1, ht1⟩; obtain ⟨hc1, hf1, hl1⟩ := tcell ht1 hlow; (try simp only [zdz] at hc1 hf1 hl1); have hz1 := ht1.size; (try simp only [zsz] at hz1); (try have g0 : w.heap.size < w1.heap.size := by omega); (try have g1 : w.heap.size + 1 < w1.heap.size := by omega); (try have g2 : w.heap.size + 2 < w1.heap.size := by omega); (try have g3 : w.heap.size + 3 < w1.heap.size := by omega); (try have g4 : w.heap.size + 4 < w1.heap.size := by omega); (try have hB1 : w.heap.size ≤ w1.heap.size := by omega); (try have gl : lk < w1.heap.size := hv1.low.l); (try have q0 := hv1.c0); (try have q1 := hv1.c1); (try have q4 := hv1.c4); (try have q5 := hv1.c5)) | (go_at_call 46; refine (inline_any _ _).mono ?_; rintro e w1 ⟨rfl, hb1⟩; obtain ⟨hc1, hf1, hl1⟩ := bcell hb1; (try simp only [zdz] at hc1 hf1 hl1); have hz1 := hb1.size; (try simp only [zsz] at hz1); (try have g0 : w.heap.size < w1.heap.size := by omega); (try have g1 : w.heap.size + 1 < w1.heap.size := by omega); (try have gl : lk < w1.heap.size := by omega)) | (go_at_call 47; refine (vtgt_ok (hv1.keep hlow (by (repeat' first | (with_reducible first | exact zb0 _ _ | assumption | refine zb1 ?_ ?_ _ | refine zb2 ?_ | refine zb3 ?_ _ | refine zb4 ?_ ?_ _ | refine zb5 (by assumption) ?_ ?_ | exact zb6 _) | omega | (simp only [zsz]; omega) | (simp <;> omega))) (by omega)) p q t k lim H2.out h4 h9 h7 h8 HT.out).mono ?_; rintro e w1 ⟨rfl, hv1, ht1⟩; obtain ⟨hc1, hf1, hl1⟩ := tcell ht1 hlow; (try simp only [zdz] at hc1 hf1 hl1); have hz1 := ht1.size; (try simp only [zsz] at hz1); (try have g0 : w.heap.size < w1.heap.size := by omega); (try have g1 : w.heap.size + 1 < w1.heap.size := by omega); (try have g2 : w.heap.size + 2 < w1.heap.size := by omega); (try have g3 : w.heap.size + 3 < w1.heap.size := by omega); (try have g4 : w.heap.size + 4 < w1.heap.size := by omega); (try have hB1 : w.heap.size ≤ w1.heap.size := by omega); (try have gl : lk < w1.heap.size := hv1.low.l); (try have q0 := hv1.c0); (try have q1 := hv1.c1); (try have q4 := hv1.c4); (try have q5 := hv1.c5)))
  refine wp_named (fun wn => VOk wn lk hm cm b o n cap D dp bud { S with s := S.s + 1 } O ∧ Tch w.heap.size [lk, hm, cm] w wn ∧ w.heap.size ≤ w1.heap.size ∧ w.heap.size < w1.heap.size ∧ w1.heap.size < wn.heap.size ∧ wn.cell? ⟨w.heap.size, 0, none⟩ = some (.int .i64 p) ∧ wn.cell? ⟨w.heap.size, 1, none⟩ = some (.int .i64 q) ∧ wn.cell? ⟨w.heap.size, 2, none⟩ = some (.int .i64 t) ∧ wn.cell? ⟨w.heap.size, 3, none⟩ = some (.int .i64 k) ∧
    wn.cell? ⟨w1.heap.size, 0, none⟩ = some (.int .i64 t) ∧ wn.cell? ⟨w1.heap.size, 1, none⟩ = some (.int .i64 (p - loadV D p q)) ∧ wn.cell? ⟨w1.heap.size, 2, none⟩ = some (.int .i64 k)) ⟨hv1.keep hlow (by (repeat' first | (with_reducible first | exact zb0 _ _ | assumption | refine zb1 ?_ ?_ _ | refine zb2 ?_ | refine zb3 ?_ _ | refine zb4 ?_ ?_ _ | refine zb5 (by assumption) ?_ ?_ | exact zb6 _) | omega | (simp only [zsz]; omega) | (simp <;> omega))) (by omega), by (repeat' first | (with_reducible first | exact Tch.refl _ _ _ | assumption | refine Tch.alloc ?_ ?_ _ | refine Tch.drew ?_ | refine Tch.drewN ?_ _ | refine Tch.setCell ?_ ?_ _ | refine Tch.setBlock ?_ (by simp) _ | refine tch_call (by assumption) ?_ ?_ | refine tch_below (by assumption) ?_ ?_ | exact zb6 _) | omega | (simp only [zsz, size_setBlock]; omega) | (simp; omega)), by omega, by omega, by (first | omega | (simp; omega) | simp), by go_simp, by go_simp, by go_simp, by go_simp, by go_simp, by go_simp, by go_simp⟩ ?_
  generalize w1.heap.size = g
  rintro wn ⟨hvn, htn, hg0, hg1, hzn, z0, z1, z2, z3, y0, y1, y2⟩
  have hBn : w.heap.size ≤ wn.heap.size := htn.size
  have gln : lk < wn.heap.size := hvn.low.l
  have q1 := hvn.c1
  have q4 := hvn.c4
  have hvd : VOk wn.drew lk hm cm b o n cap D dp bud { S with s := S.s + 1 } O := hvn.keep hlow ((Below.refl _ _).drew) hBn
  have hvdd : VOk wn.drew.drew lk hm cm b o n cap D dp bud { S with s := S.s + 1 } O := hvn.keep hlow (((Below.refl _ _).drew).drew) hBn
  have f1 : (Lit.int .i64 t).wf = true := wf64 (by omega) (by omega)
  have f2 : (Lit.int .i64 (p - loadV D p q)).wf = true := wf64 (by omega) (by omega)
  have f3 : (Lit.int .i64 k).wf = true := wf64 (by omega) (by omega)
  have hlk : (Instr.lookup 61 (.map (some hm)) (.agg #[.int .i64 t, .int .i64 (p - loadV D p q), .int .i64 k]) true).run Try.prog wn.drew = .ok (.tuple #[.int .i64 0, .bool false]) wn.drew := by
    have hx := hvd.lookH f1 f2 f3 HO.out
    rw [show vknown _ _ = none from HK.out] at hx
    exact hx
  obtain ⟨w2, hup0, hv2, ht2⟩ := hvdd.openH f1 f2 f3
  have hup : (Instr.mapUpdate 61 (.map (some hm)) (.agg #[.int .i64 t, .int .i64 (p - loadV D p q), .int .i64 k]) (.int .i64 (-1))).run Try.prog wn.drew.drew = .ok () w2 := hup0
  have F1 := Lib.hid f1
  have F2 := Lib.hid f2
  have F3 := Lib.hid f3
  clear hup0 f1 f2 f3
  have hz2 : wn.heap.size ≤ w2.heap.size := ht2.size
  have hE2 : ∀ x o', w.heap.size ≤ x → x < wn.heap.size → w2.cell? ⟨x, o', none⟩ = wn.cell? ⟨x, o', none⟩ := fun x o' a1 a2 => (tcell ht2 hlow).1 x o' a1 a2
  have hM2 : (∀ o', w2.cell? ⟨w.heap.size, o', none⟩ = wn.cell? ⟨w.heap.size, o', none⟩) ∧ (∀ o', w2.cell? ⟨g, o', none⟩ = wn.cell? ⟨g, o', none⟩) := ⟨fun o' => hE2 _ o' (Nat.le_refl _) (by omega), fun o' => hE2 _ o' hg0 hzn⟩
  go_region
  all_goals go_wp2
  all_goals go_region
  all_goals go_upto_region 15 with fail
  all_goals refine wp_named (fun wx => VOk wx lk hm cm b o n cap D dp bud { S with s := S.s + 1 } ((t, p - loadV D p q, k) :: O) ∧ Tch w.heap.size [lk, hm, cm] w wx ∧ g < wx.heap.size ∧ wx.cell? ⟨w.heap.size, 0, none⟩ = some (.int .i64 p) ∧ wx.cell? ⟨w.heap.size, 1, none⟩ = some (.int .i64 q) ∧ wx.cell? ⟨w.heap.size, 2, none⟩ = some (.int .i64 t) ∧ wx.cell? ⟨w.heap.size, 3, none⟩ = some (.int .i64 k) ∧
    wx.cell? ⟨g, 0, none⟩ = some (.int .i64 t) ∧ wx.cell? ⟨g, 1, none⟩ = some (.int .i64 (p - loadV D p q)) ∧ wx.cell? ⟨g, 2, none⟩ = some (.int .i64 k)) ⟨hv2, by (repeat' first | (with_reducible first | exact Tch.refl _ _ _ | assumption | refine Tch.alloc ?_ ?_ _ | refine Tch.drew ?_ | refine Tch.drewN ?_ _ | refine Tch.setCell ?_ ?_ _ | refine Tch.setBlock ?_ (by simp) _ | refine tch_call (by assumption) ?_ ?_ | refine tch_below (by assumption) ?_ ?_ | exact zb6 _) | omega | (simp only [zsz, size_setBlock]; omega) | (simp; omega)), by omega, (hM2.1 0).trans z0, (hM2.1 1).trans z1, (hM2.1 2).trans z2, (hM2.1 3).trans z3, (hM2.2 0).trans y0, (hM2.2 1).trans y1, (hM2.2 2).trans y2⟩ ?_
  all_goals clear hM2 hE2 hup hlk z0 z1 z2 z3 y0 y1 y2 ht2 hv2 hvd hvdd q1 q4 hvn htn hzn hBn gln hz2
  all_goals rintro wx ⟨hvx, htx, hgx, z0, z1, z2, z3, y0, y1, y2⟩
  all_goals (have hBx : w.heap.size ≤ wx.heap.size := htx.size)
  all_goals (have glx : lk < wx.heap.size := hvx.low.l)
  all_goals (have q4 := hvx.c4)
  all_goals go_wp2_with ((go_at_call 48; refine (HP _ (hvx.keep hlow (by (repeat' first | (with_reducible first | exact zb0 _ _ | assumption | refine zb1 ?_ ?_ _ | refine zb2 ?_ | refine zb3 ?_ _ | refine zb4 ?_ ?_ _ | refine zb5 (by assumption) ?_ ?_ | exact zb6 _) | omega | (simp only [zsz]; omega) | (simp <;> omega))) hBx)).mono ?_; rintro e w1 ⟨rfl, hv1, ht1⟩; obtain ⟨hc1, hf1, hl1⟩ := tcell ht1 hlow; (try simp only [zdz] at hc1 hf1 hl1); have hz1 := ht1.size; (try simp only [zsz] at hz1); (try have g0 : w.heap.size < w1.heap.size := by omega); (try have g1 : w.heap.size + 1 < w1.heap.size := by omega); (try have g2 : w.heap.size + 2 < w1.heap.size := by omega); (try have g3 : w.heap.size + 3 < w1.heap.size := by omega); (try have g4 : w.heap.size + 4 < w1.heap.size := by omega); (try have hB1 : w.heap.size ≤ w1.heap.size := by omega); (try have gl : lk < w1.heap.size := hv1.low.l); (try have q0 := hv1.c0); (try have q1 := hv1.c1); (try have q4 := hv1.c4); (try have q5 := hv1.c5)); obtain ⟨w3, hup3, hv3, ht3⟩ := (hv1.keep hlow ((Below.refl _ _).drew) hB1 : VOk w1.drew lk hm cm b o n cap D dp bud S3 ((t, p - loadV D p q, k) :: O)).addH (O := O) hh F1.out F2.out F3.out HO.out (by intro y hy; simp [hy]) hh0 hh1; have hup4 : (Instr.mapUpdate 61 (.map (some hm)) (.agg #[.int .i64 t, .int .i64 (p - loadV D p q), .int .i64 k]) (.int .i64 hh)).run Try.prog w1.drew = .ok () w3 := hup3; clear hup3)
  all_goals go_region
  all_goals go_wp2
  all_goals go_returns
  all_goals exact ⟨rfl, hv3, Tch.touch (by (repeat' first | (with_reducible first | exact Tch.refl _ _ _ | assumption | refine Tch.alloc ?_ ?_ _ | refine Tch.drew ?_ | refine Tch.drewN ?_ _ | refine Tch.setCell ?_ ?_ _ | refine Tch.setBlock ?_ (by simp) _ | refine tch_call (by assumption) ?_ ?_ | refine tch_below (by assumption) ?_ ?_ | exact zb6 _) | omega | (simp only [zsz, size_setBlock]; omega) | (simp; omega)))⟩
set_option maxHeartbeats 4000000 in
set_option maxRecDepth 100000 in
theorem vlook_f4 (h : VOk w lk hm cm b o n cap D dp bud S O) (p q k lim deep hh : Int) (hm' : mayE n p q 4 k = 0) (hs : S.s + 1 ≤ bud) (hd : ¬ dp < deep) (hi : inlineB 4 = false) (ht : tgtB D p q 4 k lim = true)
    (hk : vknown S.L (4, p - loadV D p q, 0) = none) (hO : (4, p - loadV D p q, 0) ∉ O) (hd0 : 0 ≤ deep) (hd1 : deep ≤ 2147483648) (hh0 : 1 ≤ hh) (hh1 : hh ≤ beginsV 4 0 (p - loadV D p q) + 30) {S3 : VS}
    (HP : HypPart lk hm cm b o n cap D dp bud { S with s := S.s + 1 } ((4, p - loadV D p q, 0) :: O) p q 4 k (p - loadV D p q) deep (.ok (S3, hh))) :
    Calls Try.prog 29 #[.pointer (some ⟨lk, 0, none⟩), .agg #[.int .i64 p, .int .i64 q, .int .i64 4, .int .i64 k], .int .i64 lim, .int .i64 deep] w (LPost w lk hm cm b o n cap D dp bud O (.ok ({ S3 with L := ((4, p - loadV D p q, 0), hh) :: S3.L }, hh))) := by
  have hlow := h.low
  have hlw := hlow.l
  have Hs := Lib.hid hs
  have HT := Lib.hid ht
  obtain ⟨h1, h2, h3, h4, h5, h6, h7, h8, h9⟩ := mayE_zero hm'
  obtain ⟨t0, t37⟩ := kindOf_in h1
  have H2 := Lib.hid h2
  have hD := h.doc
  obtain ⟨hn1, hn2⟩ := hD.bd
  have v0 := loadV_nonneg D p q
  have v1 := (tgtB_le ht).1
  have HK := Lib.hid hk
  have HO := Lib.hid hO
  clear hs ht hm' h1 h2 h3 hk hO
  go_enter Try.func29, Try.ntmps29
  go_upto_region 11 with (first | (go_at_call 44; refine (vstep_ok (h.keep hlow (by (repeat' first | (with_reducible first | exact zb0 _ _ | assumption | refine zb1 ?_ ?_ _ | refine zb2 ?_ | refine zb3 ?_ _ | refine zb4 ?_ ?_ _ | refine zb5 (by assumption) ?_ ?_ | exact zb6 _) | omega | (simp only [zsz]; omega) | (simp <;> omega))) (Nat.le_refl _)) 1 p (by omega) Hs.out).mono ?_; rintro e w1 ⟨rfl, hv1, ht1⟩; obtain ⟨hc1, hf1, hl1⟩ := tcell ht1 hlow; (try simp only [zdz] at hc1 hf1 hl1); have hz1 := ht1.size; (try simp only [zsz] at hz1); (try have g0 : w.heap.size < w1.heap.size := by omega); (try have g1 : w.heap.size + 1 < w1.heap.size := by omega); (try have g2 : w.heap.size + 2 < w1.heap.size := by omega); (try have g3 : w.heap.size + 3 < w1.heap.size := by omega); (try have g4 : w.heap.size + 4 < w1.heap.size := by omega); (try have hB1 : w.heap.size ≤ w1.heap.size := by omega); (try have gl : lk < w1.heap.size := hv1.low.l); (try have q0 := hv1.c0); (try have q1 := hv1.c1); (try have q4 := hv1.c4); (try have q5 := hv1.c5)) | (go_at_call 46; refine (inline_any _ _).mono ?_; rintro e w1 ⟨rfl, hb1⟩; obtain ⟨hc1, hf1, hl1⟩ := bcell hb1; (try simp only [zdz] at hc1 hf1 hl1); have hz1 := hb1.size; (try simp only [zsz] at hz1); (try have g0 : w.heap.size < w1.heap.size := by omega); (try have g1 : w.heap.size + 1 < w1.heap.size := by omega); (try have gl : lk < w1.heap.size := by omega)) | (go_at_call 47; refine (vtgt_ok (hv1.keep hlow (by (repeat' first | (with_reducible first | exact zb0 _ _ | assumption | refine zb1 ?_ ?_ _ | refine zb2 ?_ | refine zb3 ?_ _ | refine zb4 ?_ ?_ _ | refine zb5 (by assumption) ?_ ?_ | exact zb6 _) | omega | (simp only [zsz]; omega) | (simp <;> omega))) (by omega)) p q 4 k lim H2.out h4 h9 h7 h8 HT.out).mono ?_; rintro e w1 ⟨rfl, hv1, ht1⟩; obtain ⟨hc1, hf1, hl1⟩ := tcell ht1 hlow; (try simp only [zdz] at hc1 hf1 hl1); have hz1 := ht1.size; (try simp only [zsz] at hz1); (try have g0 : w.heap.size < w1.heap.size := by omega); (try have g1 : w.heap.size + 1 < w1.heap.size := by omega); (try have g2 : w.heap.size + 2 < w1.heap.size := by omega); (try have g3 : w.heap.size + 3 < w1.heap.size := by omega); (try have g4 : w.heap.size + 4 < w1.heap.size := by omega); (try have hB1 : w.heap.size ≤ w1.heap.size := by omega); (try have gl : lk < w1.heap.size := hv1.low.l); (try have q0 := hv1.c0); (try have q1 := hv1.c1); (try have q4 := hv1.c4); (try have q5 := hv1.c5)))
  refine wp_named (fun wn => VOk wn lk hm cm b o n cap D dp bud { S with s := S.s + 1 } O ∧ Tch w.heap.size [lk, hm, cm] w wn ∧ w.heap.size ≤ w1.heap.size ∧ w.heap.size < w1.heap.size ∧ w1.heap.size < wn.heap.size ∧ wn.cell? ⟨w.heap.size, 0, none⟩ = some (.int .i64 p) ∧ wn.cell? ⟨w.heap.size, 1, none⟩ = some (.int .i64 q) ∧ wn.cell? ⟨w.heap.size, 2, none⟩ = some (.int .i64 4) ∧ wn.cell? ⟨w.heap.size, 3, none⟩ = some (.int .i64 k) ∧
    wn.cell? ⟨w1.heap.size, 0, none⟩ = some (.int .i64 4) ∧ wn.cell? ⟨w1.heap.size, 1, none⟩ = some (.int .i64 (p - loadV D p q)) ∧ wn.cell? ⟨w1.heap.size, 2, none⟩ = some (.int .i64 0)) ⟨hv1.keep hlow (by (repeat' first | (with_reducible first | exact zb0 _ _ | assumption | refine zb1 ?_ ?_ _ | refine zb2 ?_ | refine zb3 ?_ _ | refine zb4 ?_ ?_ _ | refine zb5 (by assumption) ?_ ?_ | exact zb6 _) | omega | (simp only [zsz]; omega) | (simp <;> omega))) (by omega), by (repeat' first | (with_reducible first | exact Tch.refl _ _ _ | assumption | refine Tch.alloc ?_ ?_ _ | refine Tch.drew ?_ | refine Tch.drewN ?_ _ | refine Tch.setCell ?_ ?_ _ | refine Tch.setBlock ?_ (by simp) _ | refine tch_call (by assumption) ?_ ?_ | refine tch_below (by assumption) ?_ ?_ | exact zb6 _) | omega | (simp only [zsz, size_setBlock]; omega) | (simp; omega)), by omega, by omega, by (first | omega | (simp; omega) | simp), by go_simp, by go_simp, by go_simp, by go_simp, by go_simp, by go_simp, by go_simp⟩ ?_
  generalize w1.heap.size = g
  rintro wn ⟨hvn, htn, hg0, hg1, hzn, z0, z1, z2, z3, y0, y1, y2⟩
  have hBn : w.heap.size ≤ wn.heap.size := htn.size
  have gln : lk < wn.heap.size := hvn.low.l
  have q1 := hvn.c1
  have q4 := hvn.c4
  have hvd : VOk wn.drew lk hm cm b o n cap D dp bud { S with s := S.s + 1 } O := hvn.keep hlow ((Below.refl _ _).drew) hBn
  have hvdd : VOk wn.drew.drew lk hm cm b o n cap D dp bud { S with s := S.s + 1 } O := hvn.keep hlow (((Below.refl _ _).drew).drew) hBn
  have f1 : (Lit.int .i64 4).wf = true := wf64 (by omega) (by omega)
  have f2 : (Lit.int .i64 (p - loadV D p q)).wf = true := wf64 (by omega) (by omega)
  have f3 : (Lit.int .i64 0).wf = true := wf64 (by omega) (by omega)
  have hlk : (Instr.lookup 61 (.map (some hm)) (.agg #[.int .i64 4, .int .i64 (p - loadV D p q), .int .i64 0]) true).run Try.prog wn.drew = .ok (.tuple #[.int .i64 0, .bool false]) wn.drew := by
    have hx := hvd.lookH f1 f2 f3 HO.out
    rw [show vknown _ _ = none from HK.out] at hx
    exact hx
  obtain ⟨w2, hup0, hv2, ht2⟩ := hvdd.openH f1 f2 f3
  have hup : (Instr.mapUpdate 61 (.map (some hm)) (.agg #[.int .i64 4, .int .i64 (p - loadV D p q), .int .i64 0]) (.int .i64 (-1))).run Try.prog wn.drew.drew = .ok () w2 := hup0
  have F1 := Lib.hid f1
  have F2 := Lib.hid f2
  have F3 := Lib.hid f3
  clear hup0 f1 f2 f3
  have hz2 : wn.heap.size ≤ w2.heap.size := ht2.size
  have hE2 : ∀ x o', w.heap.size ≤ x → x < wn.heap.size → w2.cell? ⟨x, o', none⟩ = wn.cell? ⟨x, o', none⟩ := fun x o' a1 a2 => (tcell ht2 hlow).1 x o' a1 a2
  have hM2 : (∀ o', w2.cell? ⟨w.heap.size, o', none⟩ = wn.cell? ⟨w.heap.size, o', none⟩) ∧ (∀ o', w2.cell? ⟨g, o', none⟩ = wn.cell? ⟨g, o', none⟩) := ⟨fun o' => hE2 _ o' (Nat.le_refl _) (by omega), fun o' => hE2 _ o' hg0 hzn⟩
  go_region
  all_goals go_wp2
  all_goals go_region
  all_goals go_upto_region 15 with fail
  all_goals refine wp_named (fun wx => VOk wx lk hm cm b o n cap D dp bud { S with s := S.s + 1 } ((4, p - loadV D p q, 0) :: O) ∧ Tch w.heap.size [lk, hm, cm] w wx ∧ g < wx.heap.size ∧ wx.cell? ⟨w.heap.size, 0, none⟩ = some (.int .i64 p) ∧ wx.cell? ⟨w.heap.size, 1, none⟩ = some (.int .i64 q) ∧ wx.cell? ⟨w.heap.size, 2, none⟩ = some (.int .i64 4) ∧ wx.cell? ⟨w.heap.size, 3, none⟩ = some (.int .i64 k) ∧
    wx.cell? ⟨g, 0, none⟩ = some (.int .i64 4) ∧ wx.cell? ⟨g, 1, none⟩ = some (.int .i64 (p - loadV D p q)) ∧ wx.cell? ⟨g, 2, none⟩ = some (.int .i64 0)) ⟨hv2, by (repeat' first | (with_reducible first | exact Tch.refl _ _ _ | assumption | refine Tch.alloc ?_ ?_ _ | refine Tch.drew ?_ | refine Tch.drewN ?_ _ | refine Tch.setCell ?_ ?_ _ | refine Tch.setBlock ?_ (by simp) _ | refine tch_call (by assumption) ?_ ?_ | refine tch_below (by assumption) ?_ ?_ | exact zb6 _) | omega | (simp only [zsz, size_setBlock]; omega) | (simp; omega)), by omega, (hM2.1 0).trans z0, (hM2.1 1).trans z1, (hM2.1 2).trans z2, (hM2.1 3).trans z3, (hM2.2 0).trans y0, (hM2.2 1).trans y1, (hM2.2 2).trans y2⟩ ?_
  all_goals clear hM2 hE2 hup hlk z0 z1 z2 z3 y0 y1 y2 ht2 hv2 hvd hvdd q1 q4 hvn htn hzn hBn gln hz2
  all_goals rintro wx ⟨hvx, htx, hgx, z0, z1, z2, z3, y0, y1, y2⟩
  all_goals (have hBx : w.heap.size ≤ wx.heap.size := htx.size)
  all_goals (have glx : lk < wx.heap.size := hvx.low.l)
  all_goals (have q4 := hvx.c4)
  all_goals go_wp2_with ((go_at_call 48; refine (HP _ (hvx.keep hlow (by (repeat' first | (with_reducible first | exact zb0 _ _ | assumption | refine zb1 ?_ ?_ _ | refine zb2 ?_ | refine zb3 ?_ _ | refine zb4 ?_ ?_ _ | refine zb5 (by assumption) ?_ ?_ | exact zb6 _) | omega | (simp only [zsz]; omega) | (simp <;> omega))) hBx)).mono ?_; rintro e w1 ⟨rfl, hv1, ht1⟩; obtain ⟨hc1, hf1, hl1⟩ := tcell ht1 hlow; (try simp only [zdz] at hc1 hf1 hl1); have hz1 := ht1.size; (try simp only [zsz] at hz1); (try have g0 : w.heap.size < w1.heap.size := by omega); (try have g1 : w.heap.size + 1 < w1.heap.size := by omega); (try have g2 : w.heap.size + 2 < w1.heap.size := by omega); (try have g3 : w.heap.size + 3 < w1.heap.size := by omega); (try have g4 : w.heap.size + 4 < w1.heap.size := by omega); (try have hB1 : w.heap.size ≤ w1.heap.size := by omega); (try have gl : lk < w1.heap.size := hv1.low.l); (try have q0 := hv1.c0); (try have q1 := hv1.c1); (try have q4 := hv1.c4); (try have q5 := hv1.c5)); obtain ⟨w3, hup3, hv3, ht3⟩ := (hv1.keep hlow ((Below.refl _ _).drew) hB1 : VOk w1.drew lk hm cm b o n cap D dp bud S3 ((4, p - loadV D p q, 0) :: O)).addH (O := O) hh F1.out F2.out F3.out HO.out (by intro y hy; simp [hy]) hh0 hh1; have hup4 : (Instr.mapUpdate 61 (.map (some hm)) (.agg #[.int .i64 4, .int .i64 (p - loadV D p q), .int .i64 0]) (.int .i64 hh)).run Try.prog w1.drew = .ok () w3 := hup3; clear hup3)
  all_goals go_region
  all_goals go_wp2
  all_goals go_returns
  all_goals exact ⟨rfl, hv3, Tch.touch (by (repeat' first | (with_reducible first | exact Tch.refl _ _ _ | assumption | refine Tch.alloc ?_ ?_ _ | refine Tch.drew ?_ | refine Tch.drewN ?_ _ | refine Tch.setCell ?_ ?_ _ | refine Tch.setBlock ?_ (by simp) _ | refine tch_call (by assumption) ?_ ?_ | refine tch_below (by assumption) ?_ ?_ | exact zb6 _) | omega | (simp only [zsz, size_setBlock]; omega) | (simp; omega)))⟩
set_option maxHeartbeats 4000000 in
set_option maxRecDepth 100000 in
theorem vlook_fn (h : VOk w lk hm cm b o n cap D dp bud S O) (p q t k lim deep s' a' e' : Int) (hm' : mayE n p q t k = 0) (hs : S.s + 1 ≤ bud) (hd : ¬ dp < deep) (hi : inlineB t = false) (ht : tgtB D p q t k lim = true) (hn4 : t ≠ 4)
    (hk : vknown S.L (t, p - loadV D p q, k) = none) (hO : (t, p - loadV D p q, k) ∉ O) (hd0 : 0 ≤ deep) (hd1 : deep ≤ 2147483648)
    (HP : HypPart lk hm cm b o n cap D dp bud { S with s := S.s + 1 } ((t, p - loadV D p q, k) :: O) p q t k (p - loadV D p q) deep (.error (s', a', e'))) :
    Calls Try.prog 29 #[.pointer (some ⟨lk, 0, none⟩), .agg #[.int .i64 p, .int .i64 q, .int .i64 t, .int .i64 k], .int .i64 lim, .int .i64 deep] w (LPost w lk hm cm b o n cap D dp bud O (.error (s', a', e'))) := by
  have hlow := h.low
  have hlw := hlow.l
  have Hs := Lib.hid hs
  have HT := Lib.hid ht
  obtain ⟨h1, h2, h3, h4, h5, h6, h7, h8, h9⟩ := mayE_zero hm'
  obtain ⟨t0, t37⟩ := kindOf_in h1
  have H2 := Lib.hid h2
  have hD := h.doc
  obtain ⟨hn1, hn2⟩ := hD.bd
  have v0 := loadV_nonneg D p q
  have v1 := (tgtB_le ht).1
  have HK := Lib.hid hk
  have HO := Lib.hid hO
  have hn4' : (t == 4) = false := by simpa using hn4
  clear hs ht hm' h1 h2 h3 hk hO hn4
  go_enter Try.func29, Try.ntmps29
  go_upto_region 11 with (first | (go_at_call 44; refine (vstep_ok (h.keep hlow (by (repeat' first | (with_reducible first | exact zb0 _ _ | assumption | refine zb1 ?_ ?_ _ | refine zb2 ?_ | refine zb3 ?_ _ | refine zb4 ?_ ?_ _ | refine zb5 (by assumption) ?_ ?_ | exact zb6 _) | omega | (simp only [zsz]; omega) | (simp <;> omega))) (Nat.le_refl _)) 1 p (by omega) Hs.out).mono ?_; rintro e w1 ⟨rfl, hv1, ht1⟩; obtain ⟨hc1, hf1, hl1⟩ := tcell ht1 hlow; (try simp only [zdz] at hc1 hf1 hl1); have hz1 := ht1.size; (try simp only [zsz] at hz1); (try have g0 : w.heap.size < w1.heap.size := by omega); (try have g1 : w.heap.size + 1 < w1.heap.size := by omega); (try have g2 : w.heap.size + 2 < w1.heap.size := by omega); (try have g3 : w.heap.size + 3 < w1.heap.size := by omega); (try have g4 : w.heap.size + 4 < w1.heap.size := by omega); (try have hB1 : w.heap.size ≤ w1.heap.size := by omega); (try have gl : lk < w1.heap.size := hv1.low.l); (try have q0 := hv1.c0); (try have q1 := hv1.c1); (try have q4 := hv1.c4); (try have q5 := hv1.c5)) | (go_at_call 46; refine (inline_any _ _).mono ?_; rintro e w1 ⟨rfl, hb1⟩; obtain ⟨hc1, hf1, hl1⟩ := bcell hb1; (try simp only [zdz] at hc1 hf1 hl1); have hz1 := hb1.size; (try simp only [zsz] at hz1); (try have g0 : w.heap.size < w1.heap.size := by omega); (try have g1 : w.heap.size + 1 < w1.heap.size := by omega); (try have gl : lk < w1.heap.size := by omega)) | (go_at_call 47; refine (vtgt_ok (hv1.keep hlow (by (repeat' first | (with_reducible first | exact zb0 _ _ | assumption | refine zb1 ?_ ?_ _ | refine zb2 ?_ | refine zb3 ?_ _ | refine zb4 ?_ ?_ _ | refine zb5 (by assumption) ?_ ?_ | exact zb6 _) | omega | (simp only [zsz]; omega) | (simp <;> omega))) (by omega)) p q t k lim H2.out h4 h9 h7 h8 HT.out).mono ?_; rintro e w1 ⟨rfl, hv1, ht1⟩; obtain ⟨hc1, hf1, hl1⟩ := tcell ht1 hlow; (try simp only [zdz] at hc1 hf1 hl1); have hz1 := ht1.size; (try simp only [zsz] at hz1); (try have g0 : w.heap.size < w1.heap.size := by omega); (try have g1 : w.heap.size + 1 < w1.heap.size := by omega); (try have g2 : w.heap.size + 2 < w1.heap.size := by omega); (try have g3 : w.heap.size + 3 < w1.heap.size := by omega); (try have g4 : w.heap.size + 4 < w1.heap.size := by omega); (try have hB1 : w.heap.size ≤ w1.heap.size := by omega); (try have gl : lk < w1.heap.size := hv1.low.l); (try have q0 := hv1.c0); (try have q1 := hv1.c1); (try have q4 := hv1.c4); (try have q5 := hv1.c5)))
  refine wp_named (fun wn => VOk wn lk hm cm b o n cap D dp bud { S with s := S.s + 1 } O ∧ Tch w.heap.size [lk, hm, cm] w wn ∧ w.heap.size ≤ w1.heap.size ∧ w.heap.size < w1.heap.size ∧ w1.heap.size < wn.heap.size ∧ wn.cell? ⟨w.heap.size, 0, none⟩ = some (.int .i64 p) ∧ wn.cell? ⟨w.heap.size, 1, none⟩ = some (.int .i64 q) ∧ wn.cell? ⟨w.heap.size, 2, none⟩ = some (.int .i64 t) ∧ wn.cell? ⟨w.heap.size, 3, none⟩ = some (.int .i64 k) ∧
    wn.cell? ⟨w1.heap.size, 0, none⟩ = some (.int .i64 t) ∧ wn.cell? ⟨w1.heap.size, 1, none⟩ = some (.int .i64 (p - loadV D p q)) ∧ wn.cell? ⟨w1.heap.size, 2, none⟩ = some (.int .i64 k)) ⟨hv1.keep hlow (by (repeat' first | (with_reducible first | exact zb0 _ _ | assumption | refine zb1 ?_ ?_ _ | refine zb2 ?_ | refine zb3 ?_ _ | refine zb4 ?_ ?_ _ | refine zb5 (by assumption) ?_ ?_ | exact zb6 _) | omega | (simp only [zsz]; omega) | (simp <;> omega))) (by omega), by (repeat' first | (with_reducible first | exact Tch.refl _ _ _ | assumption | refine Tch.alloc ?_ ?_ _ | refine Tch.drew ?_ | refine Tch.drewN ?_ _ | refine Tch.setCell ?_ ?_ _ | refine Tch.setBlock ?_ (by simp) _ | refine tch_call (by assumption) ?_ ?_ | refine tch_below (by assumption) ?_ ?_ | exact zb6 _) | omega | (simp only [zsz, size_setBlock]; omega) | (simp; omega)), by omega, by omega, by (first | omega | (simp; omega) | simp), by go_simp, by go_simp, by go_simp, by go_simp, by go_simp, by go_simp, by go_simp⟩ ?_
  generalize w1.heap.size = g
  rintro wn ⟨hvn, htn, hg0, hg1, hzn, z0, z1, z2, z3, y0, y1, y2⟩
  have hBn : w.heap.size ≤ wn.heap.size := htn.size
  have gln : lk < wn.heap.size := hvn.low.l
  have q1 := hvn.c1
  have q4 := hvn.c4
  have hvd : VOk wn.drew lk hm cm b o n cap D dp bud { S with s := S.s + 1 } O := hvn.keep hlow ((Below.refl _ _).drew) hBn
  have hvdd : VOk wn.drew.drew lk hm cm b o n cap D dp bud { S with s := S.s + 1 } O := hvn.keep hlow (((Below.refl _ _).drew).drew) hBn
  have f1 : (Lit.int .i64 t).wf = true := wf64 (by omega) (by omega)
  have f2 : (Lit.int .i64 (p - loadV D p q)).wf = true := wf64 (by omega) (by omega)
  have f3 : (Lit.int .i64 k).wf = true := wf64 (by omega) (by omega)
  have hlk : (Instr.lookup 61 (.map (some hm)) (.agg #[.int .i64 t, .int .i64 (p - loadV D p q), .int .i64 k]) true).run Try.prog wn.drew = .ok (.tuple #[.int .i64 0, .bool false]) wn.drew := by
    have hx := hvd.lookH f1 f2 f3 HO.out
    rw [show vknown _ _ = none from HK.out] at hx
    exact hx
  obtain ⟨w2, hup0, hv2, ht2⟩ := hvdd.openH f1 f2 f3
  have hup : (Instr.mapUpdate 61 (.map (some hm)) (.agg #[.int .i64 t, .int .i64 (p - loadV D p q), .int .i64 k]) (.int .i64 (-1))).run Try.prog wn.drew.drew = .ok () w2 := hup0
  have F1 := Lib.hid f1
  have F2 := Lib.hid f2
  have F3 := Lib.hid f3
  clear hup0 f1 f2 f3
  have hz2 : wn.heap.size ≤ w2.heap.size := ht2.size
  have hE2 : ∀ x o', w.heap.size ≤ x → x < wn.heap.size → w2.cell? ⟨x, o', none⟩ = wn.cell? ⟨x, o', none⟩ := fun x o' a1 a2 => (tcell ht2 hlow).1 x o' a1 a2
  have hM2 : (∀ o', w2.cell? ⟨w.heap.size, o', none⟩ = wn.cell? ⟨w.heap.size, o', none⟩) ∧ (∀ o', w2.cell? ⟨g, o', none⟩ = wn.cell? ⟨g, o', none⟩) := ⟨fun o' => hE2 _ o' (Nat.le_refl _) (by omega), fun o' => hE2 _ o' hg0 hzn⟩
  go_region
  all_goals go_wp2
  all_goals go_region
  all_goals go_upto_region 15 with fail
  all_goals refine wp_named (fun wx => VOk wx lk hm cm b o n cap D dp bud { S with s := S.s + 1 } ((t, p - loadV D p q, k) :: O) ∧ Tch w.heap.size [lk, hm, cm] w wx ∧ g < wx.heap.size ∧ wx.cell? ⟨w.heap.size, 0, none⟩ = some (.int .i64 p) ∧ wx.cell? ⟨w.heap.size, 1, none⟩ = some (.int .i64 q) ∧ wx.cell? ⟨w.heap.size, 2, none⟩ = some (.int .i64 t) ∧ wx.cell? ⟨w.heap.size, 3, none⟩ = some (.int .i64 k) ∧
    wx.cell? ⟨g, 0, none⟩ = some (.int .i64 t) ∧ wx.cell? ⟨g, 1, none⟩ = some (.int .i64 (p - loadV D p q)) ∧ wx.cell? ⟨g, 2, none⟩ = some (.int .i64 k)) ⟨hv2, by (repeat' first | (with_reducible first | exact Tch.refl _ _ _ | assumption | refine Tch.alloc ?_ ?_ _ | refine Tch.drew ?_ | refine Tch.drewN ?_ _ | refine Tch.setCell ?_ ?_ _ | refine Tch.setBlock ?_ (by simp) _ | refine tch_call (by assumption) ?_ ?_ | refine tch_below (by assumption) ?_ ?_ | exact zb6 _) | omega | (simp only [zsz, size_setBlock]; omega) | (simp; omega)), by omega, (hM2.1 0).trans z0, (hM2.1 1).trans z1, (hM2.1 2).trans z2, (hM2.1 3).trans z3, (hM2.2 0).trans y0, (hM2.2 1).trans y1, (hM2.2 2).trans y2⟩ ?_
  all_goals clear hM2 hE2 hup hlk z0 z1 z2 z3 y0 y1 y2 ht2 hv2 hvd hvdd q1 q4 hvn htn hzn hBn gln hz2
  all_goals rintro wx ⟨hvx, htx, hgx, z0, z1, z2, z3, y0, y1, y2⟩
  all_goals (have hBx : w.heap.size ≤ wx.heap.size := htx.size)
  all_goals (have glx : lk < wx.heap.size := hvx.low.l)
  all_goals (have q4 := hvx.c4)
  all_goals go_wp2_with (go_at_call 48; refine (HP _ (hvx.keep hlow (by (repeat' first | (with_reducible first | exact zb0 _ _ | assumption | refine zb1 ?_ ?_ _ | refine zb2 ?_ | refine zb3 ?_ _ | refine zb4 ?_ ?_ _ | refine zb5 (by assumption) ?_ ?_ | exact zb6 _) | omega | (simp only [zsz]; omega) | (simp <;> omega))) hBx)).mono ?_; rintro e w1 ⟨⟨x1, rfl⟩, hv1, ht1⟩; obtain ⟨hc1, hf1, hl1⟩ := tcell ht1 hlow; (try simp only [zdz] at hc1 hf1 hl1); have hz1 := ht1.size; (try simp only [zsz] at hz1); (try have g0 : w.heap.size < w1.heap.size := by omega); (try have g1 : w.heap.size + 1 < w1.heap.size := by omega); (try have g2 : w.heap.size + 2 < w1.heap.size := by omega); (try have g3 : w.heap.size + 3 < w1.heap.size := by omega); (try have g4 : w.heap.size + 4 < w1.heap.size := by omega); (try have hB1 : w.heap.size ≤ w1.heap.size := by omega); (try have gl : lk < w1.heap.size := hv1.low.l); (try have q0 := hv1.c0); (try have q1 := hv1.c1); (try have q4 := hv1.c4); (try have q5 := hv1.c5); have q44 := hv1.c4; obtain ⟨w3, hdel0, hv3, ht3⟩ := (hv1.keep hlow ((Below.refl _ _).drew) hB1 : VNo w1.drew lk hm cm b o n cap D dp s' a' e').delH F1.out F2.out F3.out 0; have hdel : (Builtin.delete_ #[61, 100] 0 #[.map (some hm), .agg #[.int .i64 t, .int .i64 (p - loadV D p q), .int .i64 k]]).run Try.prog w1.drew = .ok (.tuple #[]) w3 := hdel0; clear hdel0)
  all_goals go_region
  all_goals go_wp2
  all_goals go_returns
  all_goals exact ⟨⟨_, rfl⟩, hv3, Tch.touch (by (repeat' first | (with_reducible first | exact Tch.refl _ _ _ | assumption | refine Tch.alloc ?_ ?_ _ | refine Tch.drew ?_ | refine Tch.drewN ?_ _ | refine Tch.setCell ?_ ?_ _ | refine Tch.setBlock ?_ (by simp) _ | refine tch_call (by assumption) ?_ ?_ | refine tch_below (by assumption) ?_ ?_ | exact zb6 _) | omega | (simp only [zsz, size_setBlock]; omega) | (simp; omega)))⟩
set_option maxHeartbeats 4000000 in
set_option maxRecDepth 100000 in
theorem vlook_fn4 (h : VOk w lk hm cm b o n cap D dp bud S O) (p q k lim deep s' a' e' : Int) (hm' : mayE n p q 4 k = 0) (hs : S.s + 1 ≤ bud) (hd : ¬ dp < deep) (hi : inlineB 4 = false) (ht : tgtB D p q 4 k lim = true)
    (hk : vknown S.L (4, p - loadV D p q, 0) = none) (hO : (4, p - loadV D p q, 0) ∉ O) (hd0 : 0 ≤ deep) (hd1 : deep ≤ 2147483648)
    (HP : HypPart lk hm cm b o n cap D dp bud { S with s := S.s + 1 } ((4, p - loadV D p q, 0) :: O) p q 4 k (p - loadV D p q) deep (.error (s', a', e'))) :
    Calls Try.prog 29 #[.pointer (some ⟨lk, 0, none⟩), .agg #[.int .i64 p, .int .i64 q, .int .i64 4, .int .i64 k], .int .i64 lim, .int .i64 deep] w (LPost w lk hm cm b o n cap D dp bud O (.error (s', a', e'))) := by
  have hlow := h.low
  have hlw := hlow.l
  have Hs := Lib.hid hs
  have HT := Lib.hid ht
  obtain ⟨h1, h2, h3, h4, h5, h6, h7, h8, h9⟩ := mayE_zero hm'
  obtain ⟨t0, t37⟩ := kindOf_in h1
  have H2 := Lib.hid h2
  have hD := h.doc
  obtain ⟨hn1, hn2⟩ := hD.bd
  have v0 := loadV_nonneg D p q
  have v1 := (tgtB_le ht).1
  have HK := Lib.hid hk
  have HO := Lib.hid hO
  clear hs ht hm' h1 h2 h3 hk hO
  go_enter Try.func29, Try.ntmps29
  go_upto_region 11 with (first | (go_at_call 44; refine (vstep_ok (h.keep hlow (by (repeat' first | (with_reducible first | exact zb0 _ _ | assumption | refine zb1 ?_ ?_ _ | refine zb2 ?_ | refine zb3 ?_ _ | refine zb4 ?_ ?_ _ | refine zb5 (by assumption) ?_ ?_ | exact zb6 _) | omega | (simp only [zsz]; omega) | (simp <;> omega))) (Nat.le_refl _)) 1 p (by omega) Hs.out).mono ?_; rintro e w1 ⟨rfl, hv1, ht1⟩; obtain ⟨hc1, hf1, hl1⟩ := tcell ht1 hlow; (try simp only [zdz] at hc1 hf1 hl1); have hz1 := ht1.size; (try simp only [zsz] at hz1); (try have g0 : w.heap.size < w1.heap.size := by omega); (try have g1 : w.heap.size + 1 < w1.heap.size := by omega); (try have g2 : w.heap.size + 2 < w1.heap.size := by omega); (try have g3 : w.heap.size + 3 < w1.heap.size := by omega); (try have g4 : w.heap.size + 4 < w1.heap.size := by omega); (try have hB1 : w.heap.size ≤ w1.heap.size := by omega); (try have gl : lk < w1.heap.size := hv1.low.l); (try have q0 := hv1.c0); (try have q1 := hv1.c1); (try have q4 := hv1.c4); (try have q5 := hv1.c5)) | (go_at_call 46; refine (inline_any _ _).mono ?_; rintro e w1 ⟨rfl, hb1⟩; obtain ⟨hc1, hf1, hl1⟩ := bcell hb1; (try simp only [zdz] at hc1 hf1 hl1); have hz1 := hb1.size; (try simp only [zsz] at hz1); (try have g0 : w.heap.size < w1.heap.size := by omega); (try have g1 : w.heap.size + 1 < w1.heap.size := by omega); (try have gl : lk < w1.heap.size := by omega)) | (go_at_call 47; refine (vtgt_ok (hv1.keep hlow (by (repeat' first | (with_reducible first | exact zb0 _ _ | assumption | refine zb1 ?_ ?_ _ | refine zb2 ?_ | refine zb3 ?_ _ | refine zb4 ?_ ?_ _ | refine zb5 (by assumption) ?_ ?_ | exact zb6 _) | omega | (simp only [zsz]; omega) | (simp <;> omega))) (by omega)) p q 4 k lim H2.out h4 h9 h7 h8 HT.out).mono ?_; rintro e w1 ⟨rfl, hv1, ht1⟩; obtain ⟨hc1, hf1, hl1⟩ := tcell ht1 hlow; (try simp only [zdz] at hc1 hf1 hl1); have hz1 := ht1.size; (try simp only [zsz] at hz1); (try have g0 : w.heap.size < w1.heap.size := by omega); (try have g1 : w.heap.size + 1 < w1.heap.size := by omega); (try have g2 : w.heap.size + 2 < w1.heap.size := by omega); (try have g3 : w.heap.size + 3 < w1.heap.size := by omega); (try have g4 : w.heap.size + 4 < w1.heap.size := by omega); (try have hB1 : w.heap.size ≤ w1.heap.size := by omega); (try have gl : lk < w1.heap.size := hv1.low.l); (try have q0 := hv1.c0); (try have q1 := hv1.c1); (try have q4 := hv1.c4); (try have q5 := hv1.c5)))
  refine wp_named (fun wn => VOk wn lk hm cm b o n cap D dp bud { S with s := S.s + 1 } O ∧ Tch w.heap.size [lk, hm, cm] w wn ∧ w.heap.size ≤ w1.heap.size ∧ w.heap.size < w1.heap.size ∧ w1.heap.size < wn.heap.size ∧ wn.cell? ⟨w.heap.size, 0, none⟩ = some (.int .i64 p) ∧ wn.cell? ⟨w.heap.size, 1, none⟩ = some (.int .i64 q) ∧ wn.cell? ⟨w.heap.size, 2, none⟩ = some (.int .i64 4) ∧ wn.cell? ⟨w.heap.size, 3, none⟩ = some (.int .i64 k) ∧
    wn.cell? ⟨w1.heap.size, 0, none⟩ = some (.int .i64 4) ∧ wn.cell? ⟨w1.heap.size, 1, none⟩ = some (.int .i64 (p - loadV D p q)) ∧ wn.cell? ⟨w1.heap.size, 2, none⟩ = some (.int .i64 0)) ⟨hv1.keep hlow (by (repeat' first | (with_reducible first | exact zb0 _ _ | assumption | refine zb1 ?_ ?_ _ | refine zb2 ?_ | refine zb3 ?_ _ | refine zb4 ?_ ?_ _ | refine zb5 (by assumption) ?_ ?_ | exact zb6 _) | omega | (simp only [zsz]; omega) | (simp <;> omega))) (by omega), by (repeat' first | (with_reducible first | exact Tch.refl _ _ _ | assumption | refine Tch.alloc ?_ ?_ _ | refine Tch.drew ?_ | refine Tch.drewN ?_ _ | refine Tch.setCell ?_ ?_ _ | refine Tch.setBlock ?_ (by simp) _ | refine tch_call (by assumption) ?_ ?_ | refine tch_below (by assumption) ?_ ?_ | exact zb6 _) | omega | (simp only [zsz, size_setBlock]; omega) | (simp; omega)), by omega, by omega, by (first | omega | (simp; omega) | simp), by go_simp, by go_simp, by go_simp, by go_simp, by go_simp, by go_simp, by go_simp⟩ ?_
  generalize w1.heap.size = g
  rintro wn ⟨hvn, htn, hg0, hg1, hzn, z0, z1, z2, z3, y0, y1, y2⟩
  have hBn : w.heap.size ≤ wn.heap.size := htn.size
  have gln : lk < wn.heap.size := hvn.low.l
  have q1 := hvn.c1
  have q4 := hvn.c4
  have hvd : VOk wn.drew lk hm cm b o n cap D dp bud { S with s := S.s + 1 } O := hvn.keep hlow ((Below.refl _ _).drew) hBn
  have hvdd : VOk wn.drew.drew lk hm cm b o n cap D dp bud { S with s := S.s + 1 } O := hvn.keep hlow (((Below.refl _ _).drew).drew) hBn
  have f1 : (Lit.int .i64 4).wf = true := wf64 (by omega) (by omega)
  have f2 : (Lit.int .i64 (p - loadV D p q)).wf = true := wf64 (by omega) (by omega)
  have f3 : (Lit.int .i64 0).wf = true := wf64 (by omega) (by omega)
  have hlk : (Instr.lookup 61 (.map (some hm)) (.agg #[.int .i64 4, .int .i64 (p - loadV D p q), .int .i64 0]) true).run Try.prog wn.drew = .ok (.tuple #[.int .i64 0, .bool false]) wn.drew := by
    have hx := hvd.lookH f1 f2 f3 HO.out
    rw [show vknown _ _ = none from HK.out] at hx
    exact hx
  obtain ⟨w2, hup0, hv2, ht2⟩ := hvdd.openH f1 f2 f3
  have hup : (Instr.mapUpdate 61 (.map (some hm)) (.agg #[.int .i64 4, .int .i64 (p - loadV D p q), .int .i64 0]) (.int .i64 (-1))).run Try.prog wn.drew.drew = .ok () w2 := hup0
  have F1 := Lib.hid f1
  have F2 := Lib.hid f2
  have F3 := Lib.hid f3
  clear hup0 f1 f2 f3
  have hz2 : wn.heap.size ≤ w2.heap.size := ht2.size
  have hE2 : ∀ x o', w.heap.size ≤ x → x < wn.heap.size → w2.cell? ⟨x, o', none⟩ = wn.cell? ⟨x, o', none⟩ := fun x o' a1 a2 => (tcell ht2 hlow).1 x o' a1 a2
  have hM2 : (∀ o', w2.cell? ⟨w.heap.size, o', none⟩ = wn.cell? ⟨w.heap.size, o', none⟩) ∧ (∀ o', w2.cell? ⟨g, o', none⟩ = wn.cell? ⟨g, o', none⟩) := ⟨fun o' => hE2 _ o' (Nat.le_refl _) (by omega), fun o' => hE2 _ o' hg0 hzn⟩
  go_region
  all_goals go_wp2
  all_goals go_region
  all_goals go_upto_region 15 with fail
  all_goals refine wp_named (fun wx => VOk wx lk hm cm b o n cap D dp bud { S with s := S.s + 1 } ((4, p - loadV D p q, 0) :: O) ∧ Tch w.heap.size [lk, hm, cm] w wx ∧ g < wx.heap.size ∧ wx.cell? ⟨w.heap.size, 0, none⟩ = some (.int .i64 p) ∧ wx.cell? ⟨w.heap.size, 1, none⟩ = some (.int .i64 q) ∧ wx.cell? ⟨w.heap.size, 2, none⟩ = some (.int .i64 4) ∧ wx.cell? ⟨w.heap.size, 3, none⟩ = some (.int .i64 k) ∧
    wx.cell? ⟨g, 0, none⟩ = some (.int .i64 4) ∧ wx.cell? ⟨g, 1, none⟩ = some (.int .i64 (p - loadV D p q)) ∧ wx.cell? ⟨g, 2, none⟩ = some (.int .i64 0)) ⟨hv2, by (repeat' first | (with_reducible first | exact Tch.refl _ _ _ | assumption | refine Tch.alloc ?_ ?_ _ | refine Tch.drew ?_ | refine Tch.drewN ?_ _ | refine Tch.setCell ?_ ?_ _ | refine Tch.setBlock ?_ (by simp) _ | refine tch_call (by assumption) ?_ ?_ | refine tch_below (by assumption) ?_ ?_ | exact zb6 _) | omega | (simp only [zsz, size_setBlock]; omega) | (simp; omega)), by omega, (hM2.1 0).trans z0, (hM2.1 1).trans z1, (hM2.1 2).trans z2, (hM2.1 3).trans z3, (hM2.2 0).trans y0, (hM2.2 1).trans y1, (hM2.2 2).trans y2⟩ ?_
  all_goals clear hM2 hE2 hup hlk z0 z1 z2 z3 y0 y1 y2 ht2 hv2 hvd hvdd q1 q4 hvn htn hzn hBn gln hz2
  all_goals rintro wx ⟨hvx, htx, hgx, z0, z1, z2, z3, y0, y1, y2⟩
  all_goals (have hBx : w.heap.size ≤ wx.heap.size := htx.size)
  all_goals (have glx : lk < wx.heap.size := hvx.low.l)
  all_goals (have q4 := hvx.c4)
  all_goals go_wp2_with (go_at_call 48; refine (HP _ (hvx.keep hlow (by (repeat' first | (with_reducible first | exact zb0 _ _ | assumption | refine zb1 ?_ ?_ _ | refine zb2 ?_ | refine zb3 ?_ _ | refine zb4 ?_ ?_ _ | refine zb5 (by assumption) ?_ ?_ | exact zb6 _) | omega | (simp only [zsz]; omega) | (simp <;> omega))) hBx)).mono ?_; rintro e w1 ⟨⟨x1, rfl⟩, hv1, ht1⟩; obtain ⟨hc1, hf1, hl1⟩ := tcell ht1 hlow; (try simp only [zdz] at hc1 hf1 hl1); have hz1 := ht1.size; (try simp only [zsz] at hz1); (try have g0 : w.heap.size < w1.heap.size := by omega); (try have g1 : w.heap.size + 1 < w1.heap.size := by omega); (try have g2 : w.heap.size + 2 < w1.heap.size := by omega); (try have g3 : w.heap.size + 3 < w1.heap.size := by omega); (try have g4 : w.heap.size + 4 < w1.heap.size := by omega); (try have hB1 : w.heap.size ≤ w1.heap.size := by omega); (try have gl : lk < w1.heap.size := hv1.low.l); (try have q0 := hv1.c0); (try have q1 := hv1.c1); (try have q4 := hv1.c4); (try have q5 := hv1.c5); have q44 := hv1.c4; obtain ⟨w3, hdel0, hv3, ht3⟩ := (hv1.keep hlow ((Below.refl _ _).drew) hB1 : VNo w1.drew lk hm cm b o n cap D dp s' a' e').delH F1.out F2.out F3.out 0; have hdel : (Builtin.delete_ #[61, 100] 0 #[.map (some hm), .agg #[.int .i64 4, .int .i64 (p - loadV D p q), .int .i64 0]]).run Try.prog w1.drew = .ok (.tuple #[]) w3 := hdel0; clear hdel0)
  all_goals go_region
  all_goals go_wp2
  all_goals go_returns
  all_goals exact ⟨⟨_, rfl⟩, hv3, Tch.touch (by (repeat' first | (with_reducible first | exact Tch.refl _ _ _ | assumption | refine Tch.alloc ?_ ?_ _ | refine Tch.drew ?_ | refine Tch.drewN ?_ _ | refine Tch.setCell ?_ ?_ _ | refine Tch.setBlock ?_ (by simp) _ | refine tch_call (by assumption) ?_ ?_ | refine tch_below (by assumption) ?_ ?_ | exact zb6 _) | omega | (simp only [zsz, size_setBlock]; omega) | (simp; omega)))⟩
end
end Go.Proofs.Ytmpflnlajakibaa
