/- The walk of decode.walker's keysRef. -/
import Derived.Test.YtmpflnlajakibaaC89
namespace Go.Proofs.Ytmpflnlajakibaa
set_option linter.unusedVariables false
set_option linter.unusedSimpArgs false
set_option linter.unusedSectionVars false
open Go.RowKit
theorem tch_row {B : Nat} {T : List Nat} {w w' : World} (h : Tch B T w w') {i : Nat} (hi : i < B) (hn : i ∉ T) : w'.heap[i]? = w.heap[i]? := h.block i hi hn
/-- The failure after the two looks of keysRef. -/
def krE1 (D : List UInt8) (k f : Int) : Int := if f < loadV D f k then 211 else 0
def krA1 (D : List UInt8) (k f a0 : Int) : Int := if f < loadV D f k then f else a0
def krE2 (D : List UInt8) (k f : Int) : Int := if wideB (kwOf D k f) then krE1 D k f else tellE (krE1 D k f) 212
def krA2 (D : List UInt8) (k f a0 : Int) : Int := if wideB (kwOf D k f) then krA1 D k f a0 else tellA (krE1 D k f) (krA1 D k f a0) (f + k)
def KrPost (w : World) (lk b o n cap : Nat) (D : List UInt8) (dp fu a0 k f : Int) (en : Ending) (w' : World) : Prop :=
  en = .returned (.tuple #[.agg #[.int .i64 f, .int .i64 k, .int .i64 14, .int .i64 (kwOf D k f)], .int .i64 (tgtX D f k 14 (kwOf D k f) f)]) ∧
    DSt 76 w' lk b o n cap D dp fu (tgtA D f k 14 (kwOf D k f) f (krE2 D k f) (krA2 D k f a0)) (tgtE D f k 14 (kwOf D k f) f (krE2 D k f)) ∧ Touch [lk] w w'
section
variable {w : World} {lk b o n cap : Nat} {D : List UInt8} {dp fu a0 : Int}
theorem touch_cell {T : List Nat} {w w' : World} (h : Touch T w w') {x : Nat} (hx : x < w.heap.size) (hn : x ∉ T) (j : Nat) : w'.cell? ⟨x, j, none⟩ = w.cell? ⟨x, j, none⟩ := World.cell?_of_block (a := ⟨x, j, none⟩) (h.block x hx hn)
set_option maxHeartbeats 8000000 in
theorem dkref (h : DSt 76 w lk b o n cap D dp fu a0 0) (p q k f : Int) (hk : wideB k = true) (h0 : 0 ≤ f) (h1 : f + 3 * k ≤ n) :
    Calls Try.prog 125 #[.pointer (some ⟨lk, 0, none⟩), .agg #[.int .i64 p, .int .i64 q, .int .i64 9, .int .i64 k], .int .i64 f] w (KrPost w lk b o n cap D dp fu a0 k f) := by
  have hlow := h.low
  have hD := h.doc
  obtain ⟨hn1, hn2⟩ := hD.bd
  have hbw := hlow.b
  have hlw := hlow.l
  have c0 := h.c0
  have hkb := wideB_bd hk
  have v0 := loadV_nonneg D f k
  have v1 := loadV_nonneg D (f + k) k
  have v2 := loadV_lt D (f + k) k
  have hmin : min (loadV D (f + k) k) 9 = kwOf D k f := rfl
  have w09 : 0 ≤ kwOf D k f ∧ kwOf D k f ≤ 9 := by unfold kwOf; omega
  obtain ⟨w0, w9⟩ := w09
  have hwr : IntKind.i64.wrap (f + k) = f + k := IntWalk.i64_in _ (by omega)
  have HT := Lib.hid (fun W a e (hW : DSt 76 W lk b o n cap D dp fu a e) => dtarget hW f k 14 (kwOf D k f) f hk h0 (by omega) w0 w9)
  have HL1 := Lib.hid (fun W (hW : Doc W b o n cap D) => load_any b o n cap D f k W hW)
  have HL2 := Lib.hid (fun W (hW : Doc W b o n cap D) => load_any b o n cap D (f + k) k W hW)
  have HC := Lib.hid (fun W => code_any (kwOf D k f) W)
  have hcu : IntKind.i64.wrap (kwOf D k f) = kwOf D k f := IntWalk.i64_in _ (by omega)
  have hcf : IntKind.u64.wrap f = f := IntWalk.u64_in _ (by omega)
  unfold KrPost
  have hE1 : krE1 D k f = if f < loadV D f k then 211 else 0 := rfl
  have hA1 : krA1 D k f a0 = if f < loadV D f k then f else a0 := rfl
  have hE2 : krE2 D k f = if wideB (kwOf D k f) then krE1 D k f else tellE (krE1 D k f) 212 := rfl
  have hA2 : krA2 D k f a0 = if wideB (kwOf D k f) then krA1 D k f a0 else tellA (krE1 D k f) (krA1 D k f a0) (f + k) := rfl
  have HE : codeE (kwOf D k f) = if wideB (kwOf D k f) then 0 else 2 := rfl
  generalize krE1 D k f = E1 at *
  generalize krA1 D k f a0 = A1 at *
  generalize krE2 D k f = E2 at *
  generalize krA2 D k f a0 = A2 at *
  generalize tgtX D f k 14 (kwOf D k f) f = X at *
  generalize kwOf D k f = kw at *
  generalize loadV D (f + k) k = v at *
  generalize loadV D f k = u at *
  go_enter Try.func125, Try.ntmps125
  go_upto_region 1 with fail
  refine wp_named (fun wn => Below w.heap.size w wn ∧ w.heap.size + 1 < wn.heap.size ∧ wn.cell? ⟨w.heap.size, 0, none⟩ = some (.int .i64 p) ∧ wn.cell? ⟨w.heap.size, 1, none⟩ = some (.int .i64 q) ∧ wn.cell? ⟨w.heap.size, 2, none⟩ = some (.int .i64 9) ∧ wn.cell? ⟨w.heap.size, 3, none⟩ = some (.int .i64 k) ∧ wn.cell? ⟨lk, 0, none⟩ = some (.slice (some ⟨b, o, none⟩) n cap) ∧ wn.heap[w.heap.size + 1]? = some (.cells #[.int .i64 0, .int .i64 0, .int .i64 0, .int .i64 0] 39 (0, 0))) ⟨by exact zw, by simp, by go_simp, by go_simp, by go_simp, by go_simp, by go_simp, heap_made_2 _ _ _⟩ ?_
  rintro wn ⟨hbn, hX, z0, z1, z2, z3, z4, hz⟩
  have hDn := hD.below hbn
  have hKn := h.keep hlow hbn (Nat.le_refl _)
  have gln : lk < wn.heap.size := hKn.lkt
  have hX0 : w.heap.size < wn.heap.size := by omega
  go_region_held3 (fun w' => w'.cell? ⟨w.heap.size, 0, none⟩ = some (.int .i64 p) ∧ w'.cell? ⟨w.heap.size, 1, none⟩ = some (.int .i64 q) ∧ w'.cell? ⟨w.heap.size, 2, none⟩ = some (.int .i64 9) ∧ w'.cell? ⟨w.heap.size, 3, none⟩ = some (.int .i64 k) ∧ w'.cell? ⟨lk, 0, none⟩ = some (.slice (some ⟨b, o, none⟩) n cap)) (first | (with_reducible exact ⟨z0, z1, z2, z3, z4⟩) | (refine ⟨?_, ?_, ?_, ?_, ?_⟩ <;> go_keep)) ((go_at_call 79; refine (HL1.out _ (hDn.below zw)).mono ?_; rintro e w1 ⟨rfl, hb1⟩; obtain ⟨hc1, hf1, hl1⟩ := bcell hb1; (try simp only [zdz] at hc1 hf1 hl1); have hz1 := hb1.size; (try simp only [zsz] at hz1); (try have g0 : w.heap.size < w1.heap.size := by omega); (try have g1 : w.heap.size + 1 < w1.heap.size := by omega); (try have gl : lk < w1.heap.size := by omega)))
  have hnl : w.heap.size ∉ [lk] := by simp; omega
  have htn : Touch [lk] w wn := Touch.quiet hbn
  by_cases hv : f < u
  · rw [if_pos hv] at hE1 hA1
    go_upto_region 4 with (go_at_call 64; refine (dtell (hKn.keep hKn.low zw (Nat.le_refl _)) f 211).mono ?_; rintro e w2 ⟨rfl, hv1, ht1⟩)
    refine wp_named (fun wx => DSt 76 wx lk b o n cap D dp fu A1 E1 ∧ Touch [lk] wn wx) ⟨by rw [hE1, hA1]; exact hv1, (Touch.quiet zw).trans ht1⟩ ?_
    clear hb1 hc1 hf1 hl1 hz1 g0 g1 gl hv1 ht1
    rintro wx ⟨hKx, htx⟩
    have y0 := (touch_cell htx hX0 hnl 0).trans z0
    have y1 := (touch_cell htx hX0 hnl 1).trans z1
    have y2 := (touch_cell htx hX0 hnl 2).trans z2
    have y3 := (touch_cell htx hX0 hnl 3).trans z3
    have y4 := hKx.c0
    have hDx := hKx.doc
    have glx : lk < wx.heap.size := hKx.lkt
    have hXx : w.heap.size < wx.heap.size := Nat.lt_of_lt_of_le hX0 htx.size
    go_region_held3 (fun w' => w'.cell? ⟨w.heap.size, 0, none⟩ = some (.int .i64 p) ∧ w'.cell? ⟨w.heap.size, 1, none⟩ = some (.int .i64 q) ∧ w'.cell? ⟨w.heap.size, 2, none⟩ = some (.int .i64 9) ∧ w'.cell? ⟨w.heap.size, 3, none⟩ = some (.int .i64 k) ∧ w'.cell? ⟨lk, 0, none⟩ = some (.slice (some ⟨b, o, none⟩) n cap)) (first | (with_reducible exact ⟨y0, y1, y2, y3, y4⟩) | (refine ⟨?_, ?_, ?_, ?_, ?_⟩ <;> go_keep)) ((go_at_call 79; refine (HL2.out _ (hDx.below zw)).mono ?_; rintro e w1 ⟨rfl, hb1⟩; obtain ⟨hc1, hf1, hl1⟩ := bcell hb1; (try simp only [zdz] at hc1 hf1 hl1); have hz1 := hb1.size; (try simp only [zsz] at hz1); (try have g0 : w.heap.size < w1.heap.size := by omega); (try have g1 : w.heap.size + 1 < w1.heap.size := by omega); (try have gl : lk < w1.heap.size := by omega)))
    go_upto_region 6 with fail
    refine wp_named (fun wy => DSt 76 wy lk b o n cap D dp fu A1 E1 ∧ Touch [lk] wn wy ∧ wn.heap.size ≤ w1.heap.size ∧ w1.heap.size < wy.heap.size ∧ wy.cell? ⟨w1.heap.size, 0, none⟩ = some (.int .i64 f) ∧ wy.cell? ⟨w1.heap.size, 1, none⟩ = some (.int .i64 k) ∧ wy.cell? ⟨w1.heap.size, 2, none⟩ = some (.int .i64 14) ∧ wy.cell? ⟨w1.heap.size, 3, none⟩ = some (.int .i64 kw)) ⟨hKx.keep hKx.low zw (Nat.le_refl _), htx.trans (Touch.quiet zw), Nat.le_trans htx.size hz1, by simp, by go_simp, by go_simp, by go_simp, by go_simp⟩ ?_
    (try clear g1)
    clear hb1 hc1 hf1 hl1 hz1 g0 gl y0 y1 y2 y3 y4 hKx htx hDx glx hXx
    generalize w1.heap.size = G
    rintro wy ⟨hKy, hty, hG0, hG, x0, x1, x2, x3⟩
    have u3 := (touch_cell hty hX0 hnl 3).trans z3
    by_cases hw : wideB kw = true
    · rw [if_pos hw] at HE hE2 hA2
      rw [HE] at HC
      go_upto_region 9 with (go_at_call 77; refine (HC.out _).mono ?_; rintro e w1 ⟨rfl, rfl⟩)
      have hzy := (hty.block _ hX (by simp; omega)).trans hz
      have hXy : w.heap.size + 1 < wy.heap.size := Nat.lt_of_lt_of_le hX hty.size
      have hfz := fun (j : Nat) => frozen_of_row _ _ j _ _ hzy
      have n0 : wy.cell? ⟨w.heap.size + 1, 0, none⟩ = some (.int .i64 0) := cell_of_row _ _ _ _ _ _ hzy
      have n1 : wy.cell? ⟨w.heap.size + 1, 1, none⟩ = some (.int .i64 0) := cell_of_row _ _ _ _ _ _ hzy
      have n2 : wy.cell? ⟨w.heap.size + 1, 2, none⟩ = some (.int .i64 0) := cell_of_row _ _ _ _ _ _ hzy
      have n3 : wy.cell? ⟨w.heap.size + 1, 3, none⟩ = some (.int .i64 0) := cell_of_row _ _ _ _ _ _ hzy
      have hlowy : DLow w.heap.size lk b := hlow
      have gG0 : w.heap.size ≤ G := by omega
      clear hzy z0 z1 z2 z3 z4 hz
      have fz0 := hfz 0
      have fz1 := hfz 1
      have fz2 := hfz 2
      have fz3 := hfz 3
      clear hfz
      go_region_held3 (fun w' => w'.cell? ⟨G, 0, none⟩ = some (.int .i64 f) ∧ w'.cell? ⟨G, 1, none⟩ = some (.int .i64 k) ∧ w'.cell? ⟨G, 2, none⟩ = some (.int .i64 14) ∧ w'.cell? ⟨G, 3, none⟩ = some (.int .i64 kw)) (first | (with_reducible exact ⟨x0, x1, x2, x3⟩) | (refine ⟨?_, ?_, ?_, ?_⟩ <;> go_simp)) ((go_at_call 65; refine (HT.out _ _ _ (hKy.keep hKy.low zw (Nat.le_refl _))).mono ?_; rintro e w1 ⟨rfl, hv1, ht1⟩; obtain ⟨hc1, hf1, hl1⟩ := dcell ht1 hlowy; simp only [zdz] at hc1 hf1 hl1; have hs1 := ht1.size; simp only [zsz] at hs1; (have hXz : w.heap.size + 1 < w1.heap.size := by omega); (have hGz : G < w1.heap.size := by omega)))
      all_goals go_wp2
      all_goals (refine bodyPost_ret (v := .tuple #[.agg #[.int .i64 f, .int .i64 k, .int .i64 14, .int .i64 kw], .int .i64 X]) (by simp [results, Try.results125, go_sem, *]) rfl ?_)
      all_goals (rw [hE2, hA2]; exact ⟨rfl, hv1.keep (B := w.heap.size + 1) (hlow.mono (by omega)) zw (by omega), Tch.touch (by (repeat' first | (with_reducible first | exact Tch.refl _ _ _ | assumption | refine Tch.alloc ?_ ?_ _ | refine Tch.drew ?_ | refine Tch.drewN ?_ _ | refine Tch.setCell ?_ ?_ _ | refine Tch.setBlock ?_ (by simp) _ | refine tch_call (by assumption) ?_ ?_ | refine tch_below (by assumption) ?_ ?_ | exact zb6 _) | omega | (simp only [zsz, size_setBlock]; omega) | (simp; omega)))⟩)
    · rw [if_neg hw] at HE hE2 hA2
      rw [HE] at HC
      go_upto_region 8 with (go_at_call 77; refine (HC.out _).mono ?_; rintro e w1 ⟨rfl, rfl⟩)
      go_upto_region 9 with (go_at_call 64; refine (dtell hKy (f + k) 212).mono ?_; rintro e w2 ⟨rfl, hv1, ht1⟩)
      have gG := Nat.lt_of_lt_of_le hG ht1.size
      have hnG : G ∉ [lk] := by simp; omega
      refine wp_named (fun wz => DSt 76 wz lk b o n cap D dp fu (tellA E1 A1 (f + k)) (tellE E1 212) ∧ Touch [lk] wn wz ∧ G < wz.heap.size ∧ wz.cell? ⟨G, 0, none⟩ = some (.int .i64 f) ∧ wz.cell? ⟨G, 1, none⟩ = some (.int .i64 k) ∧ wz.cell? ⟨G, 2, none⟩ = some (.int .i64 14) ∧ wz.cell? ⟨G, 3, none⟩ = some (.int .i64 kw)) ⟨hv1, hty.trans ht1, gG, (touch_cell ht1 hG hnG 0).trans x0, (touch_cell ht1 hG hnG 1).trans x1, (touch_cell ht1 hG hnG 2).trans x2, (touch_cell ht1 hG hnG 3).trans x3⟩ ?_
      clear hv1 ht1 gG hKy hty hG x0 x1 x2 x3
      rintro wy ⟨hKy, hty, hG, x0, x1, x2, x3⟩
      have hzy := (hty.block _ hX (by simp; omega)).trans hz
      have hXy : w.heap.size + 1 < wy.heap.size := Nat.lt_of_lt_of_le hX hty.size
      have hfz := fun (j : Nat) => frozen_of_row _ _ j _ _ hzy
      have n0 : wy.cell? ⟨w.heap.size + 1, 0, none⟩ = some (.int .i64 0) := cell_of_row _ _ _ _ _ _ hzy
      have n1 : wy.cell? ⟨w.heap.size + 1, 1, none⟩ = some (.int .i64 0) := cell_of_row _ _ _ _ _ _ hzy
      have n2 : wy.cell? ⟨w.heap.size + 1, 2, none⟩ = some (.int .i64 0) := cell_of_row _ _ _ _ _ _ hzy
      have n3 : wy.cell? ⟨w.heap.size + 1, 3, none⟩ = some (.int .i64 0) := cell_of_row _ _ _ _ _ _ hzy
      have hlowy : DLow w.heap.size lk b := hlow
      have gG0 : w.heap.size ≤ G := by omega
      clear hzy z0 z1 z2 z3 z4 hz
      have fz0 := hfz 0
      have fz1 := hfz 1
      have fz2 := hfz 2
      have fz3 := hfz 3
      clear hfz
      go_region_held3 (fun w' => w'.cell? ⟨G, 0, none⟩ = some (.int .i64 f) ∧ w'.cell? ⟨G, 1, none⟩ = some (.int .i64 k) ∧ w'.cell? ⟨G, 2, none⟩ = some (.int .i64 14) ∧ w'.cell? ⟨G, 3, none⟩ = some (.int .i64 kw)) (first | (with_reducible exact ⟨x0, x1, x2, x3⟩) | (refine ⟨?_, ?_, ?_, ?_⟩ <;> go_simp)) ((go_at_call 65; refine (HT.out _ _ _ (hKy.keep hKy.low zw (Nat.le_refl _))).mono ?_; rintro e w1 ⟨rfl, hv1, ht1⟩; obtain ⟨hc1, hf1, hl1⟩ := dcell ht1 hlowy; simp only [zdz] at hc1 hf1 hl1; have hs1 := ht1.size; simp only [zsz] at hs1; (have hXz : w.heap.size + 1 < w1.heap.size := by omega); (have hGz : G < w1.heap.size := by omega)))
      all_goals go_wp2
      all_goals (refine bodyPost_ret (v := .tuple #[.agg #[.int .i64 f, .int .i64 k, .int .i64 14, .int .i64 kw], .int .i64 X]) (by simp [results, Try.results125, go_sem, *]) rfl ?_)
      all_goals (rw [hE2, hA2]; exact ⟨rfl, hv1.keep (B := w.heap.size + 1) (hlow.mono (by omega)) zw (by omega), Tch.touch (by (repeat' first | (with_reducible first | exact Tch.refl _ _ _ | assumption | refine Tch.alloc ?_ ?_ _ | refine Tch.drew ?_ | refine Tch.drewN ?_ _ | refine Tch.setCell ?_ ?_ _ | refine Tch.setBlock ?_ (by simp) _ | refine tch_call (by assumption) ?_ ?_ | refine tch_below (by assumption) ?_ ?_ | exact zb6 _) | omega | (simp only [zsz, size_setBlock]; omega) | (simp; omega)))⟩)
  · rw [if_neg hv] at hE1 hA1
    go_upto_region 4 with fail
    refine wp_named (fun wx => DSt 76 wx lk b o n cap D dp fu A1 E1 ∧ Touch [lk] wn wx) ⟨by rw [hE1, hA1]; exact hKn.keep hKn.low zw (Nat.le_refl _), Touch.quiet zw⟩ ?_
    clear hb1 hc1 hf1 hl1 hz1 g0 g1 gl
    rintro wx ⟨hKx, htx⟩
    have y0 := (touch_cell htx hX0 hnl 0).trans z0
    have y1 := (touch_cell htx hX0 hnl 1).trans z1
    have y2 := (touch_cell htx hX0 hnl 2).trans z2
    have y3 := (touch_cell htx hX0 hnl 3).trans z3
    have y4 := hKx.c0
    have hDx := hKx.doc
    have glx : lk < wx.heap.size := hKx.lkt
    have hXx : w.heap.size < wx.heap.size := Nat.lt_of_lt_of_le hX0 htx.size
    go_region_held3 (fun w' => w'.cell? ⟨w.heap.size, 0, none⟩ = some (.int .i64 p) ∧ w'.cell? ⟨w.heap.size, 1, none⟩ = some (.int .i64 q) ∧ w'.cell? ⟨w.heap.size, 2, none⟩ = some (.int .i64 9) ∧ w'.cell? ⟨w.heap.size, 3, none⟩ = some (.int .i64 k) ∧ w'.cell? ⟨lk, 0, none⟩ = some (.slice (some ⟨b, o, none⟩) n cap)) (first | (with_reducible exact ⟨y0, y1, y2, y3, y4⟩) | (refine ⟨?_, ?_, ?_, ?_, ?_⟩ <;> go_keep)) ((go_at_call 79; refine (HL2.out _ (hDx.below zw)).mono ?_; rintro e w1 ⟨rfl, hb1⟩; obtain ⟨hc1, hf1, hl1⟩ := bcell hb1; (try simp only [zdz] at hc1 hf1 hl1); have hz1 := hb1.size; (try simp only [zsz] at hz1); (try have g0 : w.heap.size < w1.heap.size := by omega); (try have g1 : w.heap.size + 1 < w1.heap.size := by omega); (try have gl : lk < w1.heap.size := by omega)))
    go_upto_region 6 with fail
    refine wp_named (fun wy => DSt 76 wy lk b o n cap D dp fu A1 E1 ∧ Touch [lk] wn wy ∧ wn.heap.size ≤ w1.heap.size ∧ w1.heap.size < wy.heap.size ∧ wy.cell? ⟨w1.heap.size, 0, none⟩ = some (.int .i64 f) ∧ wy.cell? ⟨w1.heap.size, 1, none⟩ = some (.int .i64 k) ∧ wy.cell? ⟨w1.heap.size, 2, none⟩ = some (.int .i64 14) ∧ wy.cell? ⟨w1.heap.size, 3, none⟩ = some (.int .i64 kw)) ⟨hKx.keep hKx.low zw (Nat.le_refl _), htx.trans (Touch.quiet zw), Nat.le_trans htx.size hz1, by simp, by go_simp, by go_simp, by go_simp, by go_simp⟩ ?_
    (try clear g1)
    clear hb1 hc1 hf1 hl1 hz1 g0 gl y0 y1 y2 y3 y4 hKx htx hDx glx hXx
    generalize w1.heap.size = G
    rintro wy ⟨hKy, hty, hG0, hG, x0, x1, x2, x3⟩
    have u3 := (touch_cell hty hX0 hnl 3).trans z3
    by_cases hw : wideB kw = true
    · rw [if_pos hw] at HE hE2 hA2
      rw [HE] at HC
      go_upto_region 9 with (go_at_call 77; refine (HC.out _).mono ?_; rintro e w1 ⟨rfl, rfl⟩)
      have hzy := (hty.block _ hX (by simp; omega)).trans hz
      have hXy : w.heap.size + 1 < wy.heap.size := Nat.lt_of_lt_of_le hX hty.size
      have hfz := fun (j : Nat) => frozen_of_row _ _ j _ _ hzy
      have n0 : wy.cell? ⟨w.heap.size + 1, 0, none⟩ = some (.int .i64 0) := cell_of_row _ _ _ _ _ _ hzy
      have n1 : wy.cell? ⟨w.heap.size + 1, 1, none⟩ = some (.int .i64 0) := cell_of_row _ _ _ _ _ _ hzy
      have n2 : wy.cell? ⟨w.heap.size + 1, 2, none⟩ = some (.int .i64 0) := cell_of_row _ _ _ _ _ _ hzy
      have n3 : wy.cell? ⟨w.heap.size + 1, 3, none⟩ = some (.int .i64 0) := cell_of_row _ _ _ _ _ _ hzy
      have hlowy : DLow w.heap.size lk b := hlow
      have gG0 : w.heap.size ≤ G := by omega
      clear hzy z0 z1 z2 z3 z4 hz
      have fz0 := hfz 0
      have fz1 := hfz 1
      have fz2 := hfz 2
      have fz3 := hfz 3
      clear hfz
      go_region_held3 (fun w' => w'.cell? ⟨G, 0, none⟩ = some (.int .i64 f) ∧ w'.cell? ⟨G, 1, none⟩ = some (.int .i64 k) ∧ w'.cell? ⟨G, 2, none⟩ = some (.int .i64 14) ∧ w'.cell? ⟨G, 3, none⟩ = some (.int .i64 kw)) (first | (with_reducible exact ⟨x0, x1, x2, x3⟩) | (refine ⟨?_, ?_, ?_, ?_⟩ <;> go_simp)) ((go_at_call 65; refine (HT.out _ _ _ (hKy.keep hKy.low zw (Nat.le_refl _))).mono ?_; rintro e w1 ⟨rfl, hv1, ht1⟩; obtain ⟨hc1, hf1, hl1⟩ := dcell ht1 hlowy; simp only [zdz] at hc1 hf1 hl1; have hs1 := ht1.size; simp only [zsz] at hs1; (have hXz : w.heap.size + 1 < w1.heap.size := by omega); (have hGz : G < w1.heap.size := by omega)))
      all_goals go_wp2
      all_goals (refine bodyPost_ret (v := .tuple #[.agg #[.int .i64 f, .int .i64 k, .int .i64 14, .int .i64 kw], .int .i64 X]) (by simp [results, Try.results125, go_sem, *]) rfl ?_)
      all_goals (rw [hE2, hA2]; exact ⟨rfl, hv1.keep (B := w.heap.size + 1) (hlow.mono (by omega)) zw (by omega), Tch.touch (by (repeat' first | (with_reducible first | exact Tch.refl _ _ _ | assumption | refine Tch.alloc ?_ ?_ _ | refine Tch.drew ?_ | refine Tch.drewN ?_ _ | refine Tch.setCell ?_ ?_ _ | refine Tch.setBlock ?_ (by simp) _ | refine tch_call (by assumption) ?_ ?_ | refine tch_below (by assumption) ?_ ?_ | exact zb6 _) | omega | (simp only [zsz, size_setBlock]; omega) | (simp; omega)))⟩)
    · rw [if_neg hw] at HE hE2 hA2
      rw [HE] at HC
      go_upto_region 8 with (go_at_call 77; refine (HC.out _).mono ?_; rintro e w1 ⟨rfl, rfl⟩)
      go_upto_region 9 with (go_at_call 64; refine (dtell hKy (f + k) 212).mono ?_; rintro e w2 ⟨rfl, hv1, ht1⟩)
      have gG := Nat.lt_of_lt_of_le hG ht1.size
      have hnG : G ∉ [lk] := by simp; omega
      refine wp_named (fun wz => DSt 76 wz lk b o n cap D dp fu (tellA E1 A1 (f + k)) (tellE E1 212) ∧ Touch [lk] wn wz ∧ G < wz.heap.size ∧ wz.cell? ⟨G, 0, none⟩ = some (.int .i64 f) ∧ wz.cell? ⟨G, 1, none⟩ = some (.int .i64 k) ∧ wz.cell? ⟨G, 2, none⟩ = some (.int .i64 14) ∧ wz.cell? ⟨G, 3, none⟩ = some (.int .i64 kw)) ⟨hv1, hty.trans ht1, gG, (touch_cell ht1 hG hnG 0).trans x0, (touch_cell ht1 hG hnG 1).trans x1, (touch_cell ht1 hG hnG 2).trans x2, (touch_cell ht1 hG hnG 3).trans x3⟩ ?_
      clear hv1 ht1 gG hKy hty hG x0 x1 x2 x3
      rintro wy ⟨hKy, hty, hG, x0, x1, x2, x3⟩
      have hzy := (hty.block _ hX (by simp; omega)).trans hz
      have hXy : w.heap.size + 1 < wy.heap.size := Nat.lt_of_lt_of_le hX hty.size
      have hfz := fun (j : Nat) => frozen_of_row _ _ j _ _ hzy
      have n0 : wy.cell? ⟨w.heap.size + 1, 0, none⟩ = some (.int .i64 0) := cell_of_row _ _ _ _ _ _ hzy
      have n1 : wy.cell? ⟨w.heap.size + 1, 1, none⟩ = some (.int .i64 0) := cell_of_row _ _ _ _ _ _ hzy
      have n2 : wy.cell? ⟨w.heap.size + 1, 2, none⟩ = some (.int .i64 0) := cell_of_row _ _ _ _ _ _ hzy
      have n3 : wy.cell? ⟨w.heap.size + 1, 3, none⟩ = some (.int .i64 0) := cell_of_row _ _ _ _ _ _ hzy
      have hlowy : DLow w.heap.size lk b := hlow
      have gG0 : w.heap.size ≤ G := by omega
      clear hzy z0 z1 z2 z3 z4 hz
      have fz0 := hfz 0
      have fz1 := hfz 1
      have fz2 := hfz 2
      have fz3 := hfz 3
      clear hfz
      go_region_held3 (fun w' => w'.cell? ⟨G, 0, none⟩ = some (.int .i64 f) ∧ w'.cell? ⟨G, 1, none⟩ = some (.int .i64 k) ∧ w'.cell? ⟨G, 2, none⟩ = some (.int .i64 14) ∧ w'.cell? ⟨G, 3, none⟩ = some (.int .i64 kw)) (first | (with_reducible exact ⟨x0, x1, x2, x3⟩) | (refine ⟨?_, ?_, ?_, ?_⟩ <;> go_simp)) ((go_at_call 65; refine (HT.out _ _ _ (hKy.keep hKy.low zw (Nat.le_refl _))).mono ?_; rintro e w1 ⟨rfl, hv1, ht1⟩; obtain ⟨hc1, hf1, hl1⟩ := dcell ht1 hlowy; simp only [zdz] at hc1 hf1 hl1; have hs1 := ht1.size; simp only [zsz] at hs1; (have hXz : w.heap.size + 1 < w1.heap.size := by omega); (have hGz : G < w1.heap.size := by omega)))
      all_goals go_wp2
      all_goals (refine bodyPost_ret (v := .tuple #[.agg #[.int .i64 f, .int .i64 k, .int .i64 14, .int .i64 kw], .int .i64 X]) (by simp [results, Try.results125, go_sem, *]) rfl ?_)
      all_goals (rw [hE2, hA2]; exact ⟨rfl, hv1.keep (B := w.heap.size + 1) (hlow.mono (by omega)) zw (by omega), Tch.touch (by (repeat' first | (with_reducible first | exact Tch.refl _ _ _ | assumption | refine Tch.alloc ?_ ?_ _ | refine Tch.drew ?_ | refine Tch.drewN ?_ _ | refine Tch.setCell ?_ ?_ _ | refine Tch.setBlock ?_ (by simp) _ | refine tch_call (by assumption) ?_ ?_ | refine tch_below (by assumption) ?_ ?_ | exact zb6 _) | omega | (simp only [zsz, size_setBlock]; omega) | (simp; omega)))⟩)
end
end Go.Proofs.Ytmpflnlajakibaa
