/- The state of the reference's decoder; the walks of tell and target. -/
import Derived.Test.YtmpflnlajakibaaGreatC12
import Derived.Test.YtmpflnlajakibaaGreatA9
import Derived.Test.YtmpflnlajakibaaGreatIn
import Derived.Deep.RegionHeld3
namespace Go.Proofs.YtmpflnlajakibaaGreat
set_option linter.unusedVariables false
set_option linter.unusedSimpArgs false
set_option linter.unusedSectionVars false
open Go.RowKit
section
variable {w : World} {lk b o n cap : Nat} {D : List UInt8} {dp fu at_ e : Int}
theorem rdtell (h : DSt 49 w lk b o n cap D dp fu at_ e) (a x : Int) :
    Calls Tryz.prog 39 #[.pointer (some ⟨lk, 0, none⟩), .int .i64 a, .int .i64 x] w fun en w' =>
      en = .returned (.tuple #[]) ∧ DSt 49 w' lk b o n cap D dp fu (tellA e at_ a) (tellE e x) ∧ Touch [lk] w w' := by
  have HS := Lib.hid h
  have Hr := Lib.hid h.row
  have c3 := h.c3
  have c4 := h.c4
  have f3 := h.fz 3
  have f4 := h.fz 4
  clear h
  by_cases he : e = 0
  · subst he
    have e1 : tellE 0 x = x := by simp [tellE]
    have e2 : tellA 0 at_ a = a := by simp [tellA]
    rw [e1, e2]; clear e1 e2
    go_enter Tryz.func39, Tryz.ntmps39
    go_wp2
    go_returns
    exact ⟨rfl, HS.out.told ((Touch.setCell _ _ _ _).trans (Touch.setCell _ _ _ _)) (heap_setCell_same _ _ _ _ _ _ (heap_setCell_same _ _ _ _ _ _ Hr.out)), (Touch.setCell _ _ _ _).trans (Touch.setCell _ _ _ _)⟩
  · have he' : (e == 0) = false := by simpa using he
    have e1 : tellE e x = e := by simp [tellE, he]
    have e2 : tellA e at_ a = at_ := by simp [tellA, he]
    rw [e1, e2]; clear e1 e2 he
    go_enter Tryz.func39, Tryz.ntmps39
    go_wp2
    go_returns
    exact ⟨rfl, HS.out, Touch.refl _ _⟩
theorem tgtB_le' {L : List UInt8} {p q t k lim : Int} (h : tgtB L p q t k lim = true) : loadV L p q ≤ p ∧ beginsV t k (p - loadV L p q) < lim := by
  simpa [tgtB] using h
set_option maxHeartbeats 4000000 in
theorem r26tgt_ok (w : World) (c0 : w.cell? ⟨lk, 0, none⟩ = some (.slice (some ⟨b, o, none⟩) n cap)) (hD : Doc w b o n cap D) (hlk : lk < w.heap.size) (p q t k lim : Int) (h0 : 0 ≤ p) (h1 : p + q ≤ n) (hq : wideB q = true) (hr : refB t = true) (hk : 1 ≤ k) (hk8 : k ≤ 8) (ht : tgtB D p q t k lim = true) :
    Calls Tryz.prog 42 #[.pointer (some ⟨lk, 0, none⟩), .agg #[.int .i64 p, .int .i64 q, .int .i64 t, .int .i64 k], .int .i64 lim] w fun en w' => en = .returned (.int .i64 (p - loadV D p q)) ∧ Below w.heap.size w w' := by
  obtain ⟨hn1, hn2⟩ := hD.bd
  have hqb := wideB_bd hq
  have v0 := loadV_nonneg D p q
  have hbw := hD.lt
  have HA := fun W => Lib.hid (rahead26 p q t k W hr hk hk8)
  have HL := fun W (hW : Doc W b o n cap D) => Lib.hid (rload_any b o n cap D p q W hW)
  have ha0 : 0 ≤ raheadV t k ∧ raheadV t k ≤ 1000 := by
    unfold raheadV
    split
    · omega
    · split
      · omega
      · have hb := manyOf_bd t
        have ha : 0 ≤ aheadOf t ∧ aheadOf t ≤ 3 := by unfold aheadOf; split <;> (try split) <;> (try split) <;> (try split) <;> omega
        have x0 : 0 ≤ aheadOf t * k := Int.mul_nonneg ha.1 (by omega)
        have x1 : aheadOf t * k ≤ 3 * 8 := Int.mul_le_mul ha.2 hk8 (by omega) (by omega)
        omega
  have c1 : IntKind.i64.wrap p = p := IntWalk.i64_in _ (by omega)
  have c2 : IntKind.u64.wrap p = p := IntWalk.u64_in _ (by omega)
  obtain ⟨g1, g2⟩ := tgtB_le' ht
  rw [rahead_begins hr] at g2
  generalize raheadV t k = A at *
  generalize loadV D p q = v at *
  have c3 : IntKind.i64.wrap v = v := IntWalk.i64_in _ (by omega)
  have c4 : IntKind.i64.wrap (p - v) = p - v := IntWalk.i64_in _ (by omega)
  have c5 : IntKind.i64.wrap (p - v - A) = p - v - A := IntWalk.i64_in _ (by omega)
  have n1 : ¬ p < v := by omega
  have n2 : ¬ lim ≤ p - v - A := by omega
  have n3 : decide (p < v) = false := by simpa using n1
  have n4 : decide (lim ≤ p - v - A) = false := by simpa using n2
  clear ht hr hq
  go_enter Tryz.func42, Tryz.ntmps42
  go_upto_region 1 with fail
  refine wp_named (fun wn => Below w.heap.size w wn ∧ w.heap.size < wn.heap.size ∧ wn.cell? ⟨w.heap.size, 0, none⟩ = some (.int .i64 p) ∧ wn.cell? ⟨w.heap.size, 1, none⟩ = some (.int .i64 q) ∧ wn.cell? ⟨w.heap.size, 2, none⟩ = some (.int .i64 t) ∧ wn.cell? ⟨w.heap.size, 3, none⟩ = some (.int .i64 k) ∧ wn.cell? ⟨lk, 0, none⟩ = some (.slice (some ⟨b, o, none⟩) n cap)) ⟨by exact zw, by simp, by go_simp, by go_simp, by go_simp, by go_simp, by go_simp⟩ ?_
  rintro wn ⟨hbn, hX, z0, z1, z2, z3, z4⟩
  have hDn := hD.below hbn
  go_region_held3 (fun w' => w'.cell? ⟨w.heap.size, 0, none⟩ = some (.int .i64 p) ∧ w'.cell? ⟨w.heap.size, 1, none⟩ = some (.int .i64 q) ∧ w'.cell? ⟨w.heap.size, 2, none⟩ = some (.int .i64 t) ∧ w'.cell? ⟨w.heap.size, 3, none⟩ = some (.int .i64 k) ∧ w'.cell? ⟨lk, 0, none⟩ = some (.slice (some ⟨b, o, none⟩) n cap)) (first | (with_reducible exact ⟨z0, z1, z2, z3, z4⟩) | (refine ⟨?_, ?_, ?_, ?_, ?_⟩ <;> go_keep)) (((go_at_call 65; refine ((HL _ (hDn.below zw)).out).mono ?_; rintro e w1 ⟨rfl, rfl⟩)))
  go_upto_region 2 with fail
  refine wp_named (fun wx => Below w.heap.size w wx ∧ w.heap.size < wx.heap.size ∧ wx.cell? ⟨w.heap.size, 0, none⟩ = some (.int .i64 p) ∧ wx.cell? ⟨w.heap.size, 1, none⟩ = some (.int .i64 q) ∧ wx.cell? ⟨w.heap.size, 2, none⟩ = some (.int .i64 t) ∧ wx.cell? ⟨w.heap.size, 3, none⟩ = some (.int .i64 k) ∧ wx.cell? ⟨lk, 0, none⟩ = some (.slice (some ⟨b, o, none⟩) n cap)) ⟨by exact zw, by (first | omega | (simp; omega) | simp), by go_simp, by go_simp, by go_simp, by go_simp, by go_simp⟩ ?_
  clear hbn hX z0 z1 z2 z3 z4 hDn
  rintro wx ⟨hbx, hX, z0, z1, z2, z3, z4⟩
  have glx : lk < wx.heap.size := by omega
  go_region_held3 (fun w' => w'.cell? ⟨w.heap.size, 0, none⟩ = some (.int .i64 p) ∧ w'.cell? ⟨w.heap.size, 1, none⟩ = some (.int .i64 q) ∧ w'.cell? ⟨w.heap.size, 2, none⟩ = some (.int .i64 t) ∧ w'.cell? ⟨w.heap.size, 3, none⟩ = some (.int .i64 k) ∧ w'.cell? ⟨lk, 0, none⟩ = some (.slice (some ⟨b, o, none⟩) n cap)) (first | (with_reducible exact ⟨z0, z1, z2, z3, z4⟩) | (refine ⟨?_, ?_, ?_, ?_, ?_⟩ <;> go_simp)) (((go_at_call 66; refine ((HA _).out).mono ?_; rintro e w1 ⟨rfl, hb1⟩; obtain ⟨hc1, hf1, hl1⟩ := bcell hb1; (try simp only [zdz] at hc1 hf1 hl1); have hz1 := hb1.size; (try simp only [zsz] at hz1); (try have g0 : w.heap.size < w1.heap.size := by omega); (try have g1 : w.heap.size + 1 < w1.heap.size := by omega); (try have gl : lk < w1.heap.size := by omega)); (have gX : w.heap.size < w1.heap.size := by omega); (have gl9 : lk < w1.heap.size := by omega)))
  go_wp2
  go_returns
  exact ⟨rfl, by exact zw⟩
set_option maxHeartbeats 4000000 in
theorem r26tgt_bad (w : World) (P : World → World → Prop) (c0 : w.cell? ⟨lk, 0, none⟩ = some (.slice (some ⟨b, o, none⟩) n cap)) (hD : Doc w b o n cap D) (hlk : lk < w.heap.size) (p q t k lim : Int) (h0 : 0 ≤ p) (h1 : p + q ≤ n) (hq : wideB q = true) (hr : refB t = true) (hk : 1 ≤ k) (hk8 : k ≤ 8) (ht : ¬ tgtB D p q t k lim = true)
    (HT : ∀ W, Below w.heap.size w W → Calls Tryz.prog 39 #[.pointer (some ⟨lk, 0, none⟩), .int .i64 p, .int .i64 211] W fun en w' => en = .returned (.tuple #[]) ∧ P W w') :
    Calls Tryz.prog 42 #[.pointer (some ⟨lk, 0, none⟩), .agg #[.int .i64 p, .int .i64 q, .int .i64 t, .int .i64 k], .int .i64 lim] w fun en w' => en = .returned (.int .i64 0) ∧ ∃ W, Below w.heap.size w W ∧ P W w' := by
  obtain ⟨hn1, hn2⟩ := hD.bd
  have hqb := wideB_bd hq
  have v0 := loadV_nonneg D p q
  have hbw := hD.lt
  have HA := fun W => Lib.hid (rahead26 p q t k W hr hk hk8)
  have HL := fun W (hW : Doc W b o n cap D) => Lib.hid (rload_any b o n cap D p q W hW)
  have ha0 : 0 ≤ raheadV t k ∧ raheadV t k ≤ 1000 := by
    unfold raheadV
    split
    · omega
    · split
      · omega
      · have hb := manyOf_bd t
        have ha : 0 ≤ aheadOf t ∧ aheadOf t ≤ 3 := by unfold aheadOf; split <;> (try split) <;> (try split) <;> (try split) <;> omega
        have x0 : 0 ≤ aheadOf t * k := Int.mul_nonneg ha.1 (by omega)
        have x1 : aheadOf t * k ≤ 3 * 8 := Int.mul_le_mul ha.2 hk8 (by omega) (by omega)
        omega
  have c1 : IntKind.i64.wrap p = p := IntWalk.i64_in _ (by omega)
  have c2 : IntKind.u64.wrap p = p := IntWalk.u64_in _ (by omega)
  have ht' : ¬ (loadV D p q ≤ p ∧ beginsV t k (p - loadV D p q) < lim) := by simpa [tgtB] using ht
  rw [rahead_begins hr] at ht'
  have HTT := Lib.hid HT
  generalize raheadV t k = A at *
  generalize loadV D p q = v at *
  clear ht hr hq HT
  by_cases hv : p < v
  · have n3 : decide (p < v) = true := by simpa using hv
    clear ht' HA
    go_enter Tryz.func42, Tryz.ntmps42
    go_upto_region 1 with fail
    refine wp_named (fun wn => Below w.heap.size w wn ∧ w.heap.size < wn.heap.size ∧ wn.cell? ⟨w.heap.size, 0, none⟩ = some (.int .i64 p) ∧ wn.cell? ⟨w.heap.size, 1, none⟩ = some (.int .i64 q) ∧ wn.cell? ⟨w.heap.size, 2, none⟩ = some (.int .i64 t) ∧ wn.cell? ⟨w.heap.size, 3, none⟩ = some (.int .i64 k) ∧ wn.cell? ⟨lk, 0, none⟩ = some (.slice (some ⟨b, o, none⟩) n cap)) ⟨by exact zw, by simp, by go_simp, by go_simp, by go_simp, by go_simp, by go_simp⟩ ?_
    rintro wn ⟨hbn, hX, z0, z1, z2, z3, z4⟩
    have hDn := hD.below hbn
    go_region_held3 (fun w' => w'.cell? ⟨w.heap.size, 0, none⟩ = some (.int .i64 p) ∧ w'.cell? ⟨w.heap.size, 1, none⟩ = some (.int .i64 q) ∧ w'.cell? ⟨w.heap.size, 2, none⟩ = some (.int .i64 t) ∧ w'.cell? ⟨w.heap.size, 3, none⟩ = some (.int .i64 k) ∧ w'.cell? ⟨lk, 0, none⟩ = some (.slice (some ⟨b, o, none⟩) n cap)) (first | (with_reducible exact ⟨z0, z1, z2, z3, z4⟩) | (refine ⟨?_, ?_, ?_, ?_, ?_⟩ <;> go_keep)) (((go_at_call 65; refine ((HL _ (hDn.below zw)).out).mono ?_; rintro e w1 ⟨rfl, rfl⟩)))
    go_upto_region 2 with fail
    refine wp_named (fun wx => Below w.heap.size w wx ∧ w.heap.size < wx.heap.size ∧ wx.cell? ⟨w.heap.size, 0, none⟩ = some (.int .i64 p) ∧ wx.cell? ⟨w.heap.size, 1, none⟩ = some (.int .i64 q) ∧ wx.cell? ⟨w.heap.size, 2, none⟩ = some (.int .i64 t) ∧ wx.cell? ⟨w.heap.size, 3, none⟩ = some (.int .i64 k) ∧ wx.cell? ⟨lk, 0, none⟩ = some (.slice (some ⟨b, o, none⟩) n cap)) ⟨by exact zw, by (first | omega | (simp; omega) | simp), by go_simp, by go_simp, by go_simp, by go_simp, by go_simp⟩ ?_
    clear hbn hX z0 z1 z2 z3 z4 hDn
    rintro wx ⟨hbx, hX, z0, z1, z2, z3, z4⟩
    have glx : lk < wx.heap.size := by omega
    go_region
    all_goals go_wp2_with (go_at_call 39; refine (HTT.out _ zw).mono ?_; rintro en w2 ⟨rfl, hp2⟩)
    all_goals go_returns
    all_goals exact ⟨rfl, _, by exact zw, hp2⟩
  · have c3 : IntKind.i64.wrap v = v := IntWalk.i64_in _ (by omega)
    have c4 : IntKind.i64.wrap (p - v) = p - v := IntWalk.i64_in _ (by omega)
    have c5 : IntKind.i64.wrap (p - v - A) = p - v - A := IntWalk.i64_in _ (by omega)
    have n2 : lim ≤ p - v - A := by omega
    have n3 : decide (p < v) = false := by simpa using hv
    have n4 : decide (lim ≤ p - v - A) = true := by simpa using n2
    clear ht'
    go_enter Tryz.func42, Tryz.ntmps42
    go_upto_region 1 with fail
    refine wp_named (fun wn => Below w.heap.size w wn ∧ w.heap.size < wn.heap.size ∧ wn.cell? ⟨w.heap.size, 0, none⟩ = some (.int .i64 p) ∧ wn.cell? ⟨w.heap.size, 1, none⟩ = some (.int .i64 q) ∧ wn.cell? ⟨w.heap.size, 2, none⟩ = some (.int .i64 t) ∧ wn.cell? ⟨w.heap.size, 3, none⟩ = some (.int .i64 k) ∧ wn.cell? ⟨lk, 0, none⟩ = some (.slice (some ⟨b, o, none⟩) n cap)) ⟨by exact zw, by simp, by go_simp, by go_simp, by go_simp, by go_simp, by go_simp⟩ ?_
    rintro wn ⟨hbn, hX, z0, z1, z2, z3, z4⟩
    have hDn := hD.below hbn
    go_region_held3 (fun w' => w'.cell? ⟨w.heap.size, 0, none⟩ = some (.int .i64 p) ∧ w'.cell? ⟨w.heap.size, 1, none⟩ = some (.int .i64 q) ∧ w'.cell? ⟨w.heap.size, 2, none⟩ = some (.int .i64 t) ∧ w'.cell? ⟨w.heap.size, 3, none⟩ = some (.int .i64 k) ∧ w'.cell? ⟨lk, 0, none⟩ = some (.slice (some ⟨b, o, none⟩) n cap)) (first | (with_reducible exact ⟨z0, z1, z2, z3, z4⟩) | (refine ⟨?_, ?_, ?_, ?_, ?_⟩ <;> go_keep)) (((go_at_call 65; refine ((HL _ (hDn.below zw)).out).mono ?_; rintro e w1 ⟨rfl, rfl⟩)))
    go_upto_region 2 with fail
    refine wp_named (fun wx => Below w.heap.size w wx ∧ w.heap.size < wx.heap.size ∧ wx.cell? ⟨w.heap.size, 0, none⟩ = some (.int .i64 p) ∧ wx.cell? ⟨w.heap.size, 1, none⟩ = some (.int .i64 q) ∧ wx.cell? ⟨w.heap.size, 2, none⟩ = some (.int .i64 t) ∧ wx.cell? ⟨w.heap.size, 3, none⟩ = some (.int .i64 k) ∧ wx.cell? ⟨lk, 0, none⟩ = some (.slice (some ⟨b, o, none⟩) n cap)) ⟨by exact zw, by (first | omega | (simp; omega) | simp), by go_simp, by go_simp, by go_simp, by go_simp, by go_simp⟩ ?_
    clear hbn hX z0 z1 z2 z3 z4 hDn
    rintro wx ⟨hbx, hX, z0, z1, z2, z3, z4⟩
    have glx : lk < wx.heap.size := by omega
    go_region_held3 (fun w' => w'.cell? ⟨w.heap.size, 0, none⟩ = some (.int .i64 p) ∧ w'.cell? ⟨w.heap.size, 1, none⟩ = some (.int .i64 q) ∧ w'.cell? ⟨w.heap.size, 2, none⟩ = some (.int .i64 t) ∧ w'.cell? ⟨w.heap.size, 3, none⟩ = some (.int .i64 k) ∧ w'.cell? ⟨lk, 0, none⟩ = some (.slice (some ⟨b, o, none⟩) n cap)) (first | (with_reducible exact ⟨z0, z1, z2, z3, z4⟩) | (refine ⟨?_, ?_, ?_, ?_, ?_⟩ <;> go_simp)) (((go_at_call 66; refine ((HA _).out).mono ?_; rintro e w1 ⟨rfl, hb1⟩; obtain ⟨hc1, hf1, hl1⟩ := bcell hb1; (try simp only [zdz] at hc1 hf1 hl1); have hz1 := hb1.size; (try simp only [zsz] at hz1); (try have g0 : w.heap.size < w1.heap.size := by omega); (try have g1 : w.heap.size + 1 < w1.heap.size := by omega); (try have gl : lk < w1.heap.size := by omega)); (have gX : w.heap.size < w1.heap.size := by omega); (have gl9 : lk < w1.heap.size := by omega)))
    go_wp2_with (go_at_call 39; refine (HTT.out _ zw).mono ?_; rintro en w2 ⟨rfl, hp2⟩)
    go_returns
    exact ⟨rfl, _, by exact zw, hp2⟩
theorem rdtarget (h : DSt 49 w lk b o n cap D dp fu at_ e) (p q t k lim : Int) (h0 : 0 ≤ p) (h1 : p + q ≤ n) (hq : wideB q = true) (hr : refB t = true) (hk : 1 ≤ k) (hk8 : k ≤ 8) :
    Calls Tryz.prog 42 #[.pointer (some ⟨lk, 0, none⟩), .agg #[.int .i64 p, .int .i64 q, .int .i64 t, .int .i64 k], .int .i64 lim] w fun en w' =>
      en = .returned (.int .i64 (tgtX D p q t k lim)) ∧ DSt 49 w' lk b o n cap D dp fu (tgtA D p q t k lim e at_) (tgtE D p q t k lim e) ∧ Touch [lk] w w' := by
  by_cases ht : tgtB D p q t k lim = true
  · have e1 : tgtX D p q t k lim = p - loadV D p q := if_pos ht
    have e2 : tgtA D p q t k lim e at_ = at_ := if_pos ht
    have e3 : tgtE D p q t k lim e = e := if_pos ht
    rw [e1, e2, e3]
    refine (r26tgt_ok w h.c0 h.doc h.lkt p q t k lim h0 h1 hq hr hk hk8 ht).mono ?_
    rintro en w1 ⟨rfl, hb⟩
    exact ⟨rfl, h.keep h.low hb (Nat.le_refl _), Touch.quiet hb⟩
  · have e1 : tgtX D p q t k lim = 0 := if_neg ht
    have e2 : tgtA D p q t k lim e at_ = tellA e at_ p := if_neg ht
    have e3 : tgtE D p q t k lim e = tellE e 211 := if_neg ht
    rw [e1, e2, e3]
    refine (r26tgt_bad w (fun W w' => DSt 49 w' lk b o n cap D dp fu (tellA e at_ p) (tellE e 211) ∧ Touch [lk] W w') h.c0 h.doc h.lkt p q t k lim h0 h1 hq hr hk hk8 ht (fun W hW => rdtell (h.keep h.low hW (Nat.le_refl _)) p 211)).mono ?_
    rintro en w1 ⟨rfl, W, hb, h1, h2⟩
    exact ⟨rfl, h1, (Touch.quiet hb).trans h2⟩
end
end Go.Proofs.YtmpflnlajakibaaGreat
