/- The reference's check: keys. -/
import Derived.Test.YtmpflnlajakibaaChk5
import Derived.Test.YtmpflnlajakibaaLess
namespace Go.Proofs.Ytmpflnlajakibaa
set_option linter.unusedVariables false
set_option linter.unusedSimpArgs false
set_option linter.unusedSectionVars false
open Go.RowKit
section
variable {K : Nat → Prop} {w w' : World} {lk b o n cap : Nat} {D : List UInt8} {dp bud : Int} {S : VS}
set_option maxHeartbeats 8000000 in
set_option maxRecDepth 100000 in
theorem rkeys_a1 (h : ROk K w lk b o n cap D dp bud S) (p q k f m : Int) (hk : wideB k = true) (h0 : 0 ≤ f) (h1 : f + 3 * k ≤ n) (hv : f < loadV D f k) :
    Calls Try.prog 95 #[.pointer (some ⟨lk, 0, none⟩), .agg #[.int .i64 p, .int .i64 q, .int .i64 9, .int .i64 k], .int .i64 f, .int .i64 m] w fun en w' => en = .returned (.tuple #[]) ∧ RV K w' lk b o n cap D dp bud (.error (S.s, f, 211)) ∧ RKept K w w' := by
  have n3 : decide (f < loadV D f k) = true := by simpa using hv
  have hK := h.hK
  have hlk := h.lkt
  have hD := h.doc
  obtain ⟨hn1, hn2⟩ := hD.bd
  have hkb := wideB_bd hk
  have v0 := loadV_nonneg D f k
  have u0 := loadV_nonneg D (f + k) k
  have HK := Lib.hid hk
  have cf : IntKind.u64.wrap f = f := IntWalk.u64_in _ (by omega)
  have cfk : IntKind.i64.wrap (f + k) = f + k := IntWalk.i64_in _ (by omega)
  clear hk
  go_enter Try.func95, Try.ntmps95
  go_upto_region 1 with fail
  refine wp_named (fun wn => ROk (fun i => K i ∨ i = w.heap.size) wn lk b o n cap D dp bud S ∧ RKept K w wn ∧ w.heap.size < wn.heap.size ∧ CL wn w.heap.size p q 9 k) ⟨h.enter (by (repeat' first | (with_reducible first | exact zb0 _ _ | assumption | refine zb1 ?_ ?_ _ | refine zb2 ?_ | refine zb3 ?_ _ | refine zb4 ?_ ?_ _ | refine zb5 (by assumption) ?_ ?_ | exact zb6 _) | omega | (simp <;> omega))) (fun i hi => by subst hi; simp), by (repeat' first | (with_reducible first | exact zr0 _ _ | assumption | refine zr1 hK ?_ ?_ _ | refine zr2 ?_ | refine zr3 hK ?_ _ | refine zr4 hK ?_ ?_ _ | refine zr5 (by assumption) ?_ | refine zr6 (by assumption) ?_ | refine zr7 hK (by assumption) ?_ ?_ | exact zb6 _) | omega | (simp <;> omega)), by simp, by go_simp, by go_simp, by go_simp, by go_simp⟩ ?_
  rintro wn ⟨hvn, hkn, hX, z0, z1, z2, z3⟩
  have z4 := hvn.c0
  have gln := hvn.lkt
  have hDn := hvn.doc
  go_region_held3 (fun w' => w'.cell? ⟨w.heap.size, 0, none⟩ = some (.int .i64 p) ∧ w'.cell? ⟨w.heap.size, 1, none⟩ = some (.int .i64 q) ∧ w'.cell? ⟨w.heap.size, 2, none⟩ = some (.int .i64 9) ∧ w'.cell? ⟨w.heap.size, 3, none⟩ = some (.int .i64 k) ∧ w'.cell? ⟨lk, 0, none⟩ = some (.slice (some ⟨b, o, none⟩) n cap)) (first | (with_reducible exact ⟨z0, z1, z2, z3, z4⟩) | (refine ⟨?_, ?_, ?_, ?_, ?_⟩ <;> go_keep)) (((go_at_call 87; refine (rload_any _ _ _ _ D f k _ (hDn.below (by (repeat' first | (with_reducible first | exact zb0 _ _ | assumption | refine zb1 ?_ ?_ _ | refine zb2 ?_ | refine zb3 ?_ _ | refine zb4 ?_ ?_ _ | refine zb5 (by assumption) ?_ ?_ | exact zb6 _) | omega | (simp <;> omega))))).mono ?_; rintro e w1 ⟨rfl, rfl⟩)))
  go_wp2_with (go_at_call 52; refine (rtell_no (hvn.keep (by (repeat' first | (with_reducible first | exact zb0 _ _ | assumption | refine zb1 ?_ ?_ _ | refine zb2 ?_ | refine zb3 ?_ _ | refine zb4 ?_ ?_ _ | refine zb5 (by assumption) ?_ ?_ | exact zb6 _) | omega | (simp <;> omega)))) f 211 (by omega)).mono ?_; rintro en w2 ⟨rfl, hv2, hk2⟩)
  go_returns
  exact ⟨rfl, hv2.less h.kb, by (repeat' first | (with_reducible first | exact zr0 _ _ | assumption | refine zr1 hK ?_ ?_ _ | refine zr2 ?_ | refine zr3 hK ?_ _ | refine zr4 hK ?_ ?_ _ | refine zr5 (by assumption) ?_ | refine zr6 (by assumption) ?_ | refine zr7 hK (by assumption) ?_ ?_ | exact zb6 _) | omega | (simp <;> omega))⟩
set_option maxHeartbeats 8000000 in
set_option maxRecDepth 100000 in
theorem rkeys_a2 (h : ROk K w lk b o n cap D dp bud S) (p q k f m : Int) (hk : wideB k = true) (h0 : 0 ≤ f) (h1 : f + 3 * k ≤ n) (hv : ¬ f < loadV D f k) (hw : wideB (kwOf D k f) = false) :
    Calls Try.prog 95 #[.pointer (some ⟨lk, 0, none⟩), .agg #[.int .i64 p, .int .i64 q, .int .i64 9, .int .i64 k], .int .i64 f, .int .i64 m] w fun en w' => en = .returned (.tuple #[]) ∧ RV K w' lk b o n cap D dp bud (.error (S.s, f + k, 212)) ∧ RKept K w w' := by
  have n3 : decide (f < loadV D f k) = false := by simpa using hv
  by_cases h8 : 8 < loadV D (f + k) k
  · have n8 : decide (8 < loadV D (f + k) k) = true := by simpa using h8
    have hK := h.hK
    have hlk := h.lkt
    have hD := h.doc
    obtain ⟨hn1, hn2⟩ := hD.bd
    have hkb := wideB_bd hk
    have v0 := loadV_nonneg D f k
    have u0 := loadV_nonneg D (f + k) k
    have HK := Lib.hid hk
    have cf : IntKind.u64.wrap f = f := IntWalk.u64_in _ (by omega)
    have cfk : IntKind.i64.wrap (f + k) = f + k := IntWalk.i64_in _ (by omega)
    clear hk
    go_enter Try.func95, Try.ntmps95
    go_upto_region 1 with fail
    refine wp_named (fun wn => ROk (fun i => K i ∨ i = w.heap.size) wn lk b o n cap D dp bud S ∧ RKept K w wn ∧ w.heap.size < wn.heap.size ∧ CL wn w.heap.size p q 9 k) ⟨h.enter (by (repeat' first | (with_reducible first | exact zb0 _ _ | assumption | refine zb1 ?_ ?_ _ | refine zb2 ?_ | refine zb3 ?_ _ | refine zb4 ?_ ?_ _ | refine zb5 (by assumption) ?_ ?_ | exact zb6 _) | omega | (simp <;> omega))) (fun i hi => by subst hi; simp), by (repeat' first | (with_reducible first | exact zr0 _ _ | assumption | refine zr1 hK ?_ ?_ _ | refine zr2 ?_ | refine zr3 hK ?_ _ | refine zr4 hK ?_ ?_ _ | refine zr5 (by assumption) ?_ | refine zr6 (by assumption) ?_ | refine zr7 hK (by assumption) ?_ ?_ | exact zb6 _) | omega | (simp <;> omega)), by simp, by go_simp, by go_simp, by go_simp, by go_simp⟩ ?_
    rintro wn ⟨hvn, hkn, hX, z0, z1, z2, z3⟩
    have z4 := hvn.c0
    have gln := hvn.lkt
    have hDn := hvn.doc
    go_region_held3 (fun w' => w'.cell? ⟨w.heap.size, 0, none⟩ = some (.int .i64 p) ∧ w'.cell? ⟨w.heap.size, 1, none⟩ = some (.int .i64 q) ∧ w'.cell? ⟨w.heap.size, 2, none⟩ = some (.int .i64 9) ∧ w'.cell? ⟨w.heap.size, 3, none⟩ = some (.int .i64 k) ∧ w'.cell? ⟨lk, 0, none⟩ = some (.slice (some ⟨b, o, none⟩) n cap)) (first | (with_reducible exact ⟨z0, z1, z2, z3, z4⟩) | (refine ⟨?_, ?_, ?_, ?_, ?_⟩ <;> go_keep)) (((go_at_call 87; refine (rload_any _ _ _ _ D f k _ (hDn.below (by (repeat' first | (with_reducible first | exact zb0 _ _ | assumption | refine zb1 ?_ ?_ _ | refine zb2 ?_ | refine zb3 ?_ _ | refine zb4 ?_ ?_ _ | refine zb5 (by assumption) ?_ ?_ | exact zb6 _) | omega | (simp <;> omega))))).mono ?_; rintro e w1 ⟨rfl, rfl⟩)))
    go_upto_region 4 with fail
    go_region_held3 (fun w' => w'.cell? ⟨w.heap.size, 0, none⟩ = some (.int .i64 p) ∧ w'.cell? ⟨w.heap.size, 1, none⟩ = some (.int .i64 q) ∧ w'.cell? ⟨w.heap.size, 2, none⟩ = some (.int .i64 9) ∧ w'.cell? ⟨w.heap.size, 3, none⟩ = some (.int .i64 k) ∧ w'.cell? ⟨lk, 0, none⟩ = some (.slice (some ⟨b, o, none⟩) n cap)) (first | (with_reducible exact ⟨z0, z1, z2, z3, z4⟩) | (refine ⟨?_, ?_, ?_, ?_, ?_⟩ <;> go_keep)) (((go_at_call 87; refine (rload_any _ _ _ _ D (f + k) k _ (hDn.below (by (repeat' first | (with_reducible first | exact zb0 _ _ | assumption | refine zb1 ?_ ?_ _ | refine zb2 ?_ | refine zb3 ?_ _ | refine zb4 ?_ ?_ _ | refine zb5 (by assumption) ?_ ?_ | exact zb6 _) | omega | (simp <;> omega))))).mono ?_; rintro e w1 ⟨rfl, rfl⟩)))
    go_wp2_with (go_at_call 52; refine (rtell_no (hvn.keep (by (repeat' first | (with_reducible first | exact zb0 _ _ | assumption | refine zb1 ?_ ?_ _ | refine zb2 ?_ | refine zb3 ?_ _ | refine zb4 ?_ ?_ _ | refine zb5 (by assumption) ?_ ?_ | exact zb6 _) | omega | (simp <;> omega)))) (f + k) 212 (by omega)).mono ?_; rintro en w2 ⟨rfl, hv2, hk2⟩)
    go_returns
    exact ⟨rfl, hv2.less h.kb, by (repeat' first | (with_reducible first | exact zr0 _ _ | assumption | refine zr1 hK ?_ ?_ _ | refine zr2 ?_ | refine zr3 hK ?_ _ | refine zr4 hK ?_ ?_ _ | refine zr5 (by assumption) ?_ | refine zr6 (by assumption) ?_ | refine zr7 hK (by assumption) ?_ ?_ | exact zb6 _) | omega | (simp <;> omega))⟩
  · have n8 : decide (8 < loadV D (f + k) k) = false := by simpa using h8
    have hkw : kwOf D k f = loadV D (f + k) k := by unfold kwOf; omega
    rw [hkw] at hw
    have cv : IntKind.i64.wrap (loadV D (f + k) k) = loadV D (f + k) k := IntWalk.i64_in _ (by have := loadV_nonneg D (f + k) k; omega)
    have hK := h.hK
    have hlk := h.lkt
    have hD := h.doc
    obtain ⟨hn1, hn2⟩ := hD.bd
    have hkb := wideB_bd hk
    have v0 := loadV_nonneg D f k
    have u0 := loadV_nonneg D (f + k) k
    have HK := Lib.hid hk
    have cf : IntKind.u64.wrap f = f := IntWalk.u64_in _ (by omega)
    have cfk : IntKind.i64.wrap (f + k) = f + k := IntWalk.i64_in _ (by omega)
    clear hk
    go_enter Try.func95, Try.ntmps95
    go_upto_region 1 with fail
    refine wp_named (fun wn => ROk (fun i => K i ∨ i = w.heap.size) wn lk b o n cap D dp bud S ∧ RKept K w wn ∧ w.heap.size < wn.heap.size ∧ CL wn w.heap.size p q 9 k) ⟨h.enter (by (repeat' first | (with_reducible first | exact zb0 _ _ | assumption | refine zb1 ?_ ?_ _ | refine zb2 ?_ | refine zb3 ?_ _ | refine zb4 ?_ ?_ _ | refine zb5 (by assumption) ?_ ?_ | exact zb6 _) | omega | (simp <;> omega))) (fun i hi => by subst hi; simp), by (repeat' first | (with_reducible first | exact zr0 _ _ | assumption | refine zr1 hK ?_ ?_ _ | refine zr2 ?_ | refine zr3 hK ?_ _ | refine zr4 hK ?_ ?_ _ | refine zr5 (by assumption) ?_ | refine zr6 (by assumption) ?_ | refine zr7 hK (by assumption) ?_ ?_ | exact zb6 _) | omega | (simp <;> omega)), by simp, by go_simp, by go_simp, by go_simp, by go_simp⟩ ?_
    rintro wn ⟨hvn, hkn, hX, z0, z1, z2, z3⟩
    have z4 := hvn.c0
    have gln := hvn.lkt
    have hDn := hvn.doc
    go_region_held3 (fun w' => w'.cell? ⟨w.heap.size, 0, none⟩ = some (.int .i64 p) ∧ w'.cell? ⟨w.heap.size, 1, none⟩ = some (.int .i64 q) ∧ w'.cell? ⟨w.heap.size, 2, none⟩ = some (.int .i64 9) ∧ w'.cell? ⟨w.heap.size, 3, none⟩ = some (.int .i64 k) ∧ w'.cell? ⟨lk, 0, none⟩ = some (.slice (some ⟨b, o, none⟩) n cap)) (first | (with_reducible exact ⟨z0, z1, z2, z3, z4⟩) | (refine ⟨?_, ?_, ?_, ?_, ?_⟩ <;> go_keep)) (((go_at_call 87; refine (rload_any _ _ _ _ D f k _ (hDn.below (by (repeat' first | (with_reducible first | exact zb0 _ _ | assumption | refine zb1 ?_ ?_ _ | refine zb2 ?_ | refine zb3 ?_ _ | refine zb4 ?_ ?_ _ | refine zb5 (by assumption) ?_ ?_ | exact zb6 _) | omega | (simp <;> omega))))).mono ?_; rintro e w1 ⟨rfl, rfl⟩)))
    go_upto_region 4 with fail
    go_region_held3 (fun w' => w'.cell? ⟨w.heap.size, 0, none⟩ = some (.int .i64 p) ∧ w'.cell? ⟨w.heap.size, 1, none⟩ = some (.int .i64 q) ∧ w'.cell? ⟨w.heap.size, 2, none⟩ = some (.int .i64 9) ∧ w'.cell? ⟨w.heap.size, 3, none⟩ = some (.int .i64 k) ∧ w'.cell? ⟨lk, 0, none⟩ = some (.slice (some ⟨b, o, none⟩) n cap)) (first | (with_reducible exact ⟨z0, z1, z2, z3, z4⟩) | (refine ⟨?_, ?_, ?_, ?_, ?_⟩ <;> go_keep)) (((go_at_call 87; refine (rload_any _ _ _ _ D (f + k) k _ (hDn.below (by (repeat' first | (with_reducible first | exact zb0 _ _ | assumption | refine zb1 ?_ ?_ _ | refine zb2 ?_ | refine zb3 ?_ _ | refine zb4 ?_ ?_ _ | refine zb5 (by assumption) ?_ ?_ | exact zb6 _) | omega | (simp <;> omega))))).mono ?_; rintro e w1 ⟨rfl, rfl⟩)))
    go_wp2_with (first | (go_at_call 49; refine (rwide_any _ _).mono ?_; rintro e w1 ⟨rfl, rfl⟩) | (go_at_call 52; refine (rtell_no (hvn.keep (by (repeat' first | (with_reducible first | exact zb0 _ _ | assumption | refine zb1 ?_ ?_ _ | refine zb2 ?_ | refine zb3 ?_ _ | refine zb4 ?_ ?_ _ | refine zb5 (by assumption) ?_ ?_ | exact zb6 _) | omega | (simp <;> omega)))) (f + k) 212 (by omega)).mono ?_; rintro en w2 ⟨rfl, hv2, hk2⟩))
    go_returns
    exact ⟨rfl, hv2.less h.kb, by (repeat' first | (with_reducible first | exact zr0 _ _ | assumption | refine zr1 hK ?_ ?_ _ | refine zr2 ?_ | refine zr3 hK ?_ _ | refine zr4 hK ?_ ?_ _ | refine zr5 (by assumption) ?_ | refine zr6 (by assumption) ?_ | refine zr7 hK (by assumption) ?_ ?_ | exact zb6 _) | omega | (simp <;> omega))⟩
set_option maxHeartbeats 8000000 in
set_option maxRecDepth 100000 in
theorem rkeys_a3 (h : ROk K w lk b o n cap D dp bud S) (p q k f m : Int) (hk : wideB k = true) (h0 : 0 ≤ f) (h1 : f + 3 * k ≤ n) (hv : ¬ f < loadV D f k) (hw : wideB (kwOf D k f) = true) (ht : ¬ tgtB D f k 14 (kwOf D k f) f = true) :
    Calls Try.prog 95 #[.pointer (some ⟨lk, 0, none⟩), .agg #[.int .i64 p, .int .i64 q, .int .i64 9, .int .i64 k], .int .i64 f, .int .i64 m] w fun en w' => en = .returned (.tuple #[]) ∧ RV K w' lk b o n cap D dp bud (.error (S.s, f, 211)) ∧ RKept K w w' := by
  have HT := Lib.hid ht
  clear ht
  have n3 : decide (f < loadV D f k) = false := by simpa using hv
  obtain ⟨hkw, hkw8⟩ := kwOf_wide hw
  have n8 : decide (8 < loadV D (f + k) k) = false := by simp; omega
  have cv : IntKind.i64.wrap (loadV D (f + k) k) = loadV D (f + k) k := IntWalk.i64_in _ (by have := loadV_nonneg D (f + k) k; omega)
  have hwb := wideB_bd hw
  have HW := Lib.hid hw
  have hmay : mayE n f k 14 (kwOf D k f) = 0 := by
    have hi : insideB n f k = true := by simp only [insideB, Bool.and_eq_true, decide_eq_true_eq]; have := wideB_bd hk; omega
    unfold mayE
    rw [show legalB 14 = true from rfl, hk, hw, hi]; rfl
  have HM := Lib.hid hmay
  have HB := Lib.hid h.kb
  rw [hkw] at hw
  clear hmay
  have hK := h.hK
  have hlk := h.lkt
  have hD := h.doc
  obtain ⟨hn1, hn2⟩ := hD.bd
  have hkb := wideB_bd hk
  have v0 := loadV_nonneg D f k
  have u0 := loadV_nonneg D (f + k) k
  have HK := Lib.hid hk
  have cf : IntKind.u64.wrap f = f := IntWalk.u64_in _ (by omega)
  have cfk : IntKind.i64.wrap (f + k) = f + k := IntWalk.i64_in _ (by omega)
  clear hk
  go_enter Try.func95, Try.ntmps95
  go_upto_region 1 with fail
  refine wp_named (fun wn => ROk (fun i => K i ∨ i = w.heap.size) wn lk b o n cap D dp bud S ∧ RKept K w wn ∧ w.heap.size < wn.heap.size ∧ CL wn w.heap.size p q 9 k) ⟨h.enter (by (repeat' first | (with_reducible first | exact zb0 _ _ | assumption | refine zb1 ?_ ?_ _ | refine zb2 ?_ | refine zb3 ?_ _ | refine zb4 ?_ ?_ _ | refine zb5 (by assumption) ?_ ?_ | exact zb6 _) | omega | (simp <;> omega))) (fun i hi => by subst hi; simp), by (repeat' first | (with_reducible first | exact zr0 _ _ | assumption | refine zr1 hK ?_ ?_ _ | refine zr2 ?_ | refine zr3 hK ?_ _ | refine zr4 hK ?_ ?_ _ | refine zr5 (by assumption) ?_ | refine zr6 (by assumption) ?_ | refine zr7 hK (by assumption) ?_ ?_ | exact zb6 _) | omega | (simp <;> omega)), by simp, by go_simp, by go_simp, by go_simp, by go_simp⟩ ?_
  rintro wn ⟨hvn, hkn, hX, z0, z1, z2, z3⟩
  have z4 := hvn.c0
  have gln := hvn.lkt
  have hDn := hvn.doc
  go_region_held3 (fun w' => w'.cell? ⟨w.heap.size, 0, none⟩ = some (.int .i64 p) ∧ w'.cell? ⟨w.heap.size, 1, none⟩ = some (.int .i64 q) ∧ w'.cell? ⟨w.heap.size, 2, none⟩ = some (.int .i64 9) ∧ w'.cell? ⟨w.heap.size, 3, none⟩ = some (.int .i64 k) ∧ w'.cell? ⟨lk, 0, none⟩ = some (.slice (some ⟨b, o, none⟩) n cap)) (first | (with_reducible exact ⟨z0, z1, z2, z3, z4⟩) | (refine ⟨?_, ?_, ?_, ?_, ?_⟩ <;> go_keep)) (((go_at_call 87; refine (rload_any _ _ _ _ D f k _ (hDn.below (by (repeat' first | (with_reducible first | exact zb0 _ _ | assumption | refine zb1 ?_ ?_ _ | refine zb2 ?_ | refine zb3 ?_ _ | refine zb4 ?_ ?_ _ | refine zb5 (by assumption) ?_ ?_ | exact zb6 _) | omega | (simp <;> omega))))).mono ?_; rintro e w1 ⟨rfl, rfl⟩)))
  go_upto_region 4 with fail
  go_region_held3 (fun w' => w'.cell? ⟨w.heap.size, 0, none⟩ = some (.int .i64 p) ∧ w'.cell? ⟨w.heap.size, 1, none⟩ = some (.int .i64 q) ∧ w'.cell? ⟨w.heap.size, 2, none⟩ = some (.int .i64 9) ∧ w'.cell? ⟨w.heap.size, 3, none⟩ = some (.int .i64 k) ∧ w'.cell? ⟨lk, 0, none⟩ = some (.slice (some ⟨b, o, none⟩) n cap)) (first | (with_reducible exact ⟨z0, z1, z2, z3, z4⟩) | (refine ⟨?_, ?_, ?_, ?_, ?_⟩ <;> go_keep)) (((go_at_call 87; refine (rload_any _ _ _ _ D (f + k) k _ (hDn.below (by (repeat' first | (with_reducible first | exact zb0 _ _ | assumption | refine zb1 ?_ ?_ _ | refine zb2 ?_ | refine zb3 ?_ _ | refine zb4 ?_ ?_ _ | refine zb5 (by assumption) ?_ ?_ | exact zb6 _) | omega | (simp <;> omega))))).mono ?_; rintro e w1 ⟨rfl, rfl⟩)))
  go_upto_region 8 with (go_at_call 49; refine (rwide_any _ _).mono ?_; rintro e w1 ⟨rfl, rfl⟩)
  refine wp_named (fun wx => ROk (fun i => K i ∨ i = wn.heap.size) wx lk b o n cap D dp bud S ∧ RKept K w wx ∧ wn.heap.size < wx.heap.size ∧ CL wx wn.heap.size f k 14 (kwOf D k f)) ⟨(hvn.less HB.out).enter (by (repeat' first | (with_reducible first | exact zb0 _ _ | assumption | refine zb1 ?_ ?_ _ | refine zb2 ?_ | refine zb3 ?_ _ | refine zb4 ?_ ?_ _ | refine zb5 (by assumption) ?_ ?_ | exact zb6 _) | omega | (simp <;> omega))) (fun i hi => by subst hi; simp), by (repeat' first | (with_reducible first | exact zr0 _ _ | assumption | refine zr1 hK ?_ ?_ _ | refine zr2 ?_ | refine zr3 hK ?_ _ | refine zr4 hK ?_ ?_ _ | refine zr5 (by assumption) ?_ | refine zr6 (by assumption) ?_ | refine zr7 hK (by assumption) ?_ ?_ | exact zb6 _) | omega | (simp <;> omega)), by (first | omega | (simp; omega) | simp), by go_simp, by go_simp, by go_simp, by rw [hkw]; go_simp⟩ ?_
  have hXn : w.heap.size ≤ wn.heap.size := by omega
  clear z0 z1 z2 z3 z4 hvn hkn hX hDn n3 n8 cv hkw hkw8 hw
  generalize wn.heap.size = X at *
  rintro wx ⟨hvx, hkx, hX, z0, z1, z2, z3⟩
  have z4 := hvx.c0
  have z7 := hvx.c7
  have hDx := hvx.doc
  go_wp2_with (go_at_call 54; refine (rtgtNo (hvx.keep (by (repeat' first | (with_reducible first | exact zb0 _ _ | assumption | refine zb1 ?_ ?_ _ | refine zb2 ?_ | refine zb3 ?_ _ | refine zb4 ?_ ?_ _ | refine zb5 (by assumption) ?_ ?_ | exact zb6 _) | omega | (simp <;> omega)))) f k 14 (kwOf D k f) f HM.out rfl HT.out).mono ?_; rintro en w2 ⟨rfl, hv2, hk2⟩; have y7 := hv2.c7)
  go_returns
  exact ⟨rfl, hv2.less h.kb, by (repeat' first | (with_reducible first | exact zr0 _ _ | assumption | refine zr1 hK ?_ ?_ _ | refine zr2 ?_ | refine zr3 hK ?_ _ | refine zr4 hK ?_ ?_ _ | refine zr5 (by assumption) ?_ | refine zr6 (by assumption) ?_ | refine zr7 hK (by assumption) ?_ ?_ | exact zb6 _) | omega | (simp <;> omega))⟩
end
end Go.Proofs.Ytmpflnlajakibaa
