/- The walk of the reference's Keys. The walk of the reference's vector. -/
import Derived.Test.YtmpflnlajakibaaGreatCb
import Derived.Test.YtmpflnlajakibaaGreatC3
import Derived.Test.YtmpflnlajakibaaGreatRef7
import Derived.Test.YtmpflnlajakibaaGreatCcd
import Derived.Test.YtmpflnlajakibaaGreatC7
namespace Go.Proofs.YtmpflnlajakibaaGreat
set_option linter.unusedVariables false
set_option linter.unusedSimpArgs false
set_option linter.unusedSectionVars false
section
open Go.RowKit
theorem rdtell0 {w : World} {lk b o n cap : Nat} {D : List UInt8} {dp fu at_ : Int} (h : DSt 49 w lk b o n cap D dp fu at_ 0) (a x : Int) :
    Calls Tryz.prog 39 #[.pointer (some ⟨lk, 0, none⟩), .int .i64 a, .int .i64 x] w fun en w' => en = .returned (.tuple #[]) ∧ DSt 49 w' lk b o n cap D dp fu a x ∧ Touch [lk] w w' := rdtell h a x
def RHypAtK (b o n cap : Nat) (D : List UInt8) (f k kw j P : Int) : Prop := ∀ W, Doc W b o n cap D → Calls Tryz.prog 72 #[.slice (some ⟨b, o, none⟩) n cap, .agg #[.int .i64 f, .int .i64 k, .int .i64 14, .int .i64 kw], .int .i64 j] W fun en w' =>
  en = .returned (.tuple #[.agg #[.int .i64 P, .int .i64 kw, .int .i64 4, .int .i64 kw], .int .i64 0]) ∧ Below W.heap.size W w'
section
variable {w : World} {lk b o n cap : Nat} {D : List UInt8} {dp fu a0 : Int}
set_option maxHeartbeats 8000000 in
set_option maxRecDepth 100000 in
theorem rkeysW (h : DSt 49 w lk b o n cap D dp fu a0 0) (p q k f m : Int) (hk : wideB k = true) (h0 : 0 ≤ f) (h1 : f + 3 * k ≤ n) (hm0 : 0 ≤ m) (r : DR (List (List UInt8))) (hr : keysD D k f m = r) :
    Calls Tryz.prog 71 #[.pointer (some ⟨lk, 0, none⟩), .agg #[.int .i64 p, .int .i64 q, .int .i64 9, .int .i64 k], .int .i64 f, .int .i64 m] w (KyPost 49 w lk b o n cap D dp fu r) := by
  have hlow := h.low
  have hD := h.doc
  obtain ⟨hn1, hn2⟩ := hD.bd
  have hbw := hlow.b
  have hlw := hlow.l
  have hkb := wideB_bd hk
  have v0 := loadV_nonneg D f k
  have v1 := loadV_nonneg D (f + k) k
  have v2 := loadV_lt D (f + k) k
  have hwr : IntKind.i64.wrap (f + k) = f + k := IntWalk.i64_in _ (by omega)
  have hcf : IntKind.u64.wrap f = f := IntWalk.u64_in _ (by omega)
  have HL1 := Lib.hid (fun W (hW : Doc W b o n cap D) => rload_any b o n cap D f k W hW)
  have HL2 := Lib.hid (fun W (hW : Doc W b o n cap D) => rload_any b o n cap D (f + k) k W hW)
  unfold keysD krefD at hr
  have hHR := Lib.hid hr
  have hHK := Lib.hid hk
  clear hr hk
  go_enter Tryz.func71, Tryz.ntmps71
  go_upto_region 2 with fail
  refine wp_named (fun wn => Touch [lk] w wn ∧ DSt 49 wn lk b o n cap D dp fu a0 0 ∧ w.heap.size < wn.heap.size ∧ wn.cell? ⟨w.heap.size, 0, none⟩ = some (.int .i64 p) ∧ wn.cell? ⟨w.heap.size, 1, none⟩ = some (.int .i64 q) ∧ wn.cell? ⟨w.heap.size, 2, none⟩ = some (.int .i64 9) ∧ wn.cell? ⟨w.heap.size, 3, none⟩ = some (.int .i64 k)) ⟨Touch.quiet zw, h.keep hlow zw (Nat.le_refl _), by simp, by go_simp, by go_simp, by go_simp, by go_simp⟩ ?_
  rintro wn ⟨htn, hKn, hX, z0, z1, z2, z3⟩
  have hDn := hKn.doc
  have gln : lk < wn.heap.size := hKn.lkt
  have z4 := hKn.c0
  go_region_held3 (fun w' => w'.cell? ⟨w.heap.size, 0, none⟩ = some (.int .i64 p) ∧ w'.cell? ⟨w.heap.size, 1, none⟩ = some (.int .i64 q) ∧ w'.cell? ⟨w.heap.size, 2, none⟩ = some (.int .i64 9) ∧ w'.cell? ⟨w.heap.size, 3, none⟩ = some (.int .i64 k) ∧ w'.cell? ⟨lk, 0, none⟩ = some (.slice (some ⟨b, o, none⟩) n cap)) (first | (with_reducible exact ⟨z0, z1, z2, z3, z4⟩) | (with_reducible exact ⟨k0, k1, k2, k3, k4⟩) | (refine ⟨?_, ?_, ?_, ?_, ?_⟩ <;> go_keep)) (((go_at_call 65; refine (HL1.out _ (hDn.below zw)).mono ?_; rintro e w1 ⟨rfl, rfl⟩)))
  have hr := hHR.out
  have hKn1 := hKn.keep (w' := wn.drew) hKn.low (Below.refl _ _).drew (Nat.le_refl _)
  by_cases hv : f < loadV D f k
  · rw [if_pos hv] at hr
    obtain rfl : r = .error (f, 211) := hr.symm
    clear hHR hr
    go_wp2_with fail
    refine (rdtell0 hKn1 f 211).mono ?_
    rintro e w1 ⟨rfl, hv1, ht1⟩
    go_wp2_with fail
    go_returns
    exact ⟨_, _, _, rfl, by decide, hv1, htn.trans ((Touch.drew _ _).trans ht1)⟩
  rw [if_neg hv] at hr
  have hr2' := Lib.hid hr
  clear hHR hr
  go_upto_region 6 with fail
  refine wp_named (fun wx => Touch [lk] w wx ∧ DSt 49 wx lk b o n cap D dp fu a0 0 ∧ w.heap.size < wx.heap.size ∧ wx.cell? ⟨w.heap.size, 0, none⟩ = some (.int .i64 p) ∧ wx.cell? ⟨w.heap.size, 1, none⟩ = some (.int .i64 q) ∧ wx.cell? ⟨w.heap.size, 2, none⟩ = some (.int .i64 9) ∧ wx.cell? ⟨w.heap.size, 3, none⟩ = some (.int .i64 k)) ⟨htn.trans (Touch.drew _ _), hKn1, hX, by go_simp, by go_simp, by go_simp, by go_simp⟩ ?_
  clear htn hKn hX z0 z1 z2 z3 z4 hDn gln hKn1
  rintro wn ⟨htn, hKn, hX, z0, z1, z2, z3⟩
  have hDn := hKn.doc
  have gln : lk < wn.heap.size := hKn.lkt
  have z4 := hKn.c0
  go_region_held3 (fun w' => w'.cell? ⟨w.heap.size, 0, none⟩ = some (.int .i64 p) ∧ w'.cell? ⟨w.heap.size, 1, none⟩ = some (.int .i64 q) ∧ w'.cell? ⟨w.heap.size, 2, none⟩ = some (.int .i64 9) ∧ w'.cell? ⟨w.heap.size, 3, none⟩ = some (.int .i64 k) ∧ w'.cell? ⟨lk, 0, none⟩ = some (.slice (some ⟨b, o, none⟩) n cap)) (first | (with_reducible exact ⟨z0, z1, z2, z3, z4⟩) | (with_reducible exact ⟨k0, k1, k2, k3, k4⟩) | (refine ⟨?_, ?_, ?_, ?_, ?_⟩ <;> go_keep)) (((go_at_call 65; refine (HL2.out _ (hDn.below zw)).mono ?_; rintro e w1 ⟨rfl, rfl⟩)))
  have hKn1 := hKn.keep (w' := wn.drew) hKn.low (Below.refl _ _).drew (Nat.le_refl _)
  have z3d : wn.drew.cell? ⟨w.heap.size, 3, none⟩ = some (.int .i64 k) := by go_simp
  have hr := hr2'.out
  by_cases hw : wideB (kwOf D k f) = true
  rotate_left
  · rw [if_pos (by simpa using hw)] at hr
    obtain rfl : r = .error (f + k, 212) := hr.symm
    have hkw : kwOf D k f = min (loadV D (f + k) k) 9 := rfl
    generalize kwOf D k f = kw at *
    generalize loadV D (f + k) k = v at *
    clear hr2' hr
    by_cases hv8 : 8 < v
    · go_wp2_with fail
      refine (rdtell0 hKn1 (f + k) 212).mono ?_
      rintro e w1 ⟨rfl, hv1, ht1⟩
      go_wp2_with fail
      go_returns
      exact ⟨_, _, _, rfl, by decide, hv1, htn.trans ((Touch.drew _ _).trans ht1)⟩
    · have hvk : kw = v := by omega
      subst hvk
      have hci : IntKind.i64.wrap kw = kw := IntWalk.i64_in _ (by omega)
      have hwf' : wideB kw = false := by simpa using hw
      have HW := fun W => Lib.hid (rwide_any kw W)
      rw [hwf'] at HW
      clear hw hwf' hkw
      go_wp2_with (go_at_call 37; refine ((HW _).out).mono ?_; rintro e w1 ⟨rfl, rfl⟩)
      refine (rdtell0 hKn1 (f + k) 212).mono ?_
      rintro e w1 ⟨rfl, hv1, ht1⟩
      go_wp2_with fail
      go_returns
      exact ⟨_, _, _, rfl, by decide, hv1, htn.trans ((Touch.drew _ _).trans ht1)⟩
  rw [if_neg (by simpa using hw)] at hr
  have hkv : kwOf D k f = loadV D (f + k) k ∧ loadV D (f + k) k ≤ 8 := by
    have hb := wideB_bd hw
    unfold kwOf at hb ⊢
    omega
  obtain ⟨hkv, hv8⟩ := hkv
  rw [← hkv] at v1 v2 hv8
  rw [← hkv]
  have hrr := Lib.hid hr
  clear hr hr2' hkv HL1 HL2
  generalize hkw : kwOf D k f = kw at *
  have hci : IntKind.i64.wrap kw = kw := IntWalk.i64_in _ (by omega)
  have hwb := wideB_bd hw
  have hv8' : ¬ 8 < kw := by omega
  have HW := fun W => Lib.hid (rwide_any kw W)
  rw [hw] at HW
  have HWW := Lib.hid hw
  have HT := Lib.hid (fun W (hW : DSt 49 W lk b o n cap D dp fu a0 0) => rdtarget hW f k 14 kw f h0 (by omega) hHK.out rfl hwb.1 hwb.2)
  clear hw
  go_upto_region 11 with (go_at_call 37; refine ((HW _).out).mono ?_; rintro e w1 ⟨rfl, rfl⟩)
  refine wp_named (fun wx => Touch [lk] w wx ∧ DSt 49 wx lk b o n cap D dp fu a0 0 ∧ w.heap.size < wn.heap.size ∧ wn.heap.size < wx.heap.size ∧ wx.cell? ⟨wn.heap.size, 0, none⟩ = some (.int .i64 f) ∧ wx.cell? ⟨wn.heap.size, 1, none⟩ = some (.int .i64 k) ∧ wx.cell? ⟨wn.heap.size, 2, none⟩ = some (.int .i64 14) ∧ wx.cell? ⟨wn.heap.size, 3, none⟩ = some (.int .i64 kw)) ⟨htn.trans (Touch.quiet zw), hKn.keep hKn.low zw (Nat.le_refl _), hX, by simp, by go_simp, by go_simp, by go_simp, by go_simp⟩ ?_
  clear htn hKn hKn1 z0 z1 z2 z3 z4 z3d hDn gln hX HW
  generalize wn.heap.size = X
  rintro wn ⟨htn, hKn, hX0, hX1, z0, z1, z2, z3⟩
  go_wp2_with fail
  refine (HT.out _ hKn).mono ?_
  rintro e w1 ⟨rfl, hv1, ht1⟩
  have hr := hrr.out
  have hnX : X ∉ [lk] := by simp; omega
  by_cases htb : tgtB D f k 14 kw f = true
  rotate_left
  · rw [if_pos (by simpa using htb)] at hr
    obtain rfl : r = .error (f, 211) := hr.symm
    rw [show tgtE D f k 14 kw f 0 = 211 by simp [tgtE, htb, tellE], show tgtA D f k 14 kw f 0 a0 = f by simp [tgtA, htb, tellA]] at hv1
    have q4 := hv1.c4
    clear htb hrr hr
    go_wp2_with fail
    go_returns
    exact ⟨_, _, _, rfl, by decide, hv1, htn.trans ht1⟩
  rw [if_neg (by simpa using htb)] at hr
  rw [show tgtE D f k 14 kw f 0 = 0 by simp [tgtE, htb], show tgtA D f k 14 kw f 0 a0 = a0 by simp [tgtA, htb]] at hv1
  have hX3 : tgtX D f k 14 kw f = f - loadV D f k := by simp [tgtX, htb]
  have hr : (if lfindE D f k 14 kw ≠ 0 then Except.error (f - loadV D f k, lfindE D f k 14 kw) else if lCnt D f k 14 kw ≠ m then Except.error (f - loadV D f k, 214) else kloopD D f k kw m.toNat 0 []) = r := hr
  rw [hX3]
  generalize f - loadV D f k = X3 at *
  have q4 := hv1.c4
  have hHr := Lib.hid hr
  have HSp := Lib.hid (fun W (hW : Doc W b o n cap D) => rSpan_any b o n cap D f k 14 kw W hW)
  have HLe := Lib.hid (fun W (hW : Doc W b o n cap D) => rLen_any b o n cap D f k 14 kw W hW)
  clear hr hrr htb HT hX3
  go_upto_region 14 with fail
  refine wp_named (fun wx => Touch [lk] w wx ∧ DSt 49 wx lk b o n cap D dp fu a0 0 ∧ X < wx.heap.size ∧ wx.cell? ⟨X, 0, none⟩ = some (.int .i64 f) ∧ wx.cell? ⟨X, 1, none⟩ = some (.int .i64 k) ∧ wx.cell? ⟨X, 2, none⟩ = some (.int .i64 14) ∧ wx.cell? ⟨X, 3, none⟩ = some (.int .i64 kw)) ⟨htn.trans ht1, hv1, Nat.lt_of_lt_of_le hX1 ht1.size, (touch_cell ht1 hX1 hnX 0).trans z0, (touch_cell ht1 hX1 hnX 1).trans z1, (touch_cell ht1 hX1 hnX 2).trans z2, (touch_cell ht1 hX1 hnX 3).trans z3⟩ ?_
  clear htn hKn hX1 z0 z1 z2 z3 hv1 ht1 q4
  rintro wn ⟨htn, hKn, hX1, z0, z1, z2, z3⟩
  have hDn := hKn.doc
  have gln : lk < wn.heap.size := hKn.lkt
  have z4 := hKn.c0
  go_region_held3 (fun w' => w'.cell? ⟨X, 0, none⟩ = some (.int .i64 f) ∧ w'.cell? ⟨X, 1, none⟩ = some (.int .i64 k) ∧ w'.cell? ⟨X, 2, none⟩ = some (.int .i64 14) ∧ w'.cell? ⟨X, 3, none⟩ = some (.int .i64 kw) ∧ w'.cell? ⟨lk, 0, none⟩ = some (.slice (some ⟨b, o, none⟩) n cap)) (first | (with_reducible exact ⟨z0, z1, z2, z3, z4⟩) | (with_reducible exact ⟨k0, k1, k2, k3, k4⟩) | (refine ⟨?_, ?_, ?_, ?_, ?_⟩ <;> go_keep)) (((go_at_call 69; refine (HSp.out _ (hDn.below zw)).mono ?_; rintro e w1 ⟨rfl, hb1⟩; obtain ⟨hc1, hf1, hl1⟩ := bcell hb1; (try simp only [zdz] at hc1 hf1 hl1); have hz1 := hb1.size; (try simp only [zsz] at hz1); (try have g0 : w.heap.size < w1.heap.size := by omega); (try have g1 : w.heap.size + 1 < w1.heap.size := by omega); (try have gl : lk < w1.heap.size := by omega)); (have gX : X < w1.heap.size := by omega)))
  go_upto_region 15 with fail
  refine wp_named (fun wx => Touch [lk] wn wx ∧ DSt 49 wx lk b o n cap D dp fu a0 0) ⟨Touch.quiet zw, hKn.keep hKn.low zw (Nat.le_refl _)⟩ ?_
  clear hb1 hc1 hf1 hl1 hz1 gl gX
  rintro wx ⟨htx, hKx⟩
  have hw := HWW.out
  by_cases he : lfindE D f k 14 kw = 0
  rotate_left
  · have hr := hHr.out
    rw [if_pos he] at hr
    subst hr
    have he1 : (lfindE D f k 14 kw != 0) = true := by simpa using he
    have HE := Lib.hid he
    clear he hHr
    go_wp2_with fail
    refine (rdtell0 hKx X3 (lfindE D f k 14 kw)).mono ?_
    rintro e w1 ⟨rfl, hv1, ht1⟩
    go_wp2_with fail
    go_returns
    exact ⟨_, _, _, rfl, HE.out, hv1, htn.trans (htx.trans ht1)⟩
  have hr := hHr.out
  rw [if_neg (by simpa using he)] at hr
  have hHr2 := Lib.hid hr
  have hL := lfindE_zero he
  have hcm : lCnt D f k 14 kw ≤ 1073741824 := by rw [hD.len] at hL; omega
  have Hfe := Lib.hid he
  rw [he] at HLe
  rw [he]
  clear hr hHr hL he hw
  go_upto_region 18 with fail
  have x0 := (touch_cell htx hX1 hnX 0).trans z0
  have x1 := (touch_cell htx hX1 hnX 1).trans z1
  have x2 := (touch_cell htx hX1 hnX 2).trans z2
  have x3 := (touch_cell htx hX1 hnX 3).trans z3
  have x4 := hKx.c0
  have hDx := hKx.doc
  have glx : lk < wx.heap.size := hKx.lkt
  have gXx : X < wx.heap.size := Nat.lt_of_lt_of_le hX1 htx.size
  clear z0 z1 z2 z3 z4 hDn gln
  go_region_held3 (fun w' => w'.cell? ⟨X, 0, none⟩ = some (.int .i64 f) ∧ w'.cell? ⟨X, 1, none⟩ = some (.int .i64 k) ∧ w'.cell? ⟨X, 2, none⟩ = some (.int .i64 14) ∧ w'.cell? ⟨X, 3, none⟩ = some (.int .i64 kw) ∧ w'.cell? ⟨lk, 0, none⟩ = some (.slice (some ⟨b, o, none⟩) n cap)) (first | (with_reducible exact ⟨x0, x1, x2, x3, x4⟩) | (with_reducible exact ⟨k0, k1, k2, k3, k4⟩) | (refine ⟨?_, ?_, ?_, ?_, ?_⟩ <;> go_keep)) (((go_at_call 70; refine (HLe.out _ (hDx.below zw)).mono ?_; rintro e w1 ⟨rfl, hb1⟩; obtain ⟨hc1, hf1, hl1⟩ := bcell hb1; (try simp only [zdz] at hc1 hf1 hl1); have hz1 := hb1.size; (try simp only [zsz] at hz1); (try have g0 : w.heap.size < w1.heap.size := by omega); (try have g1 : w.heap.size + 1 < w1.heap.size := by omega); (try have gl : lk < w1.heap.size := by omega)); (have gX : X < w1.heap.size := by omega)))
  go_upto_region 19 with fail
  refine wp_named (fun wy => Touch [lk] wn wy ∧ DSt 49 wy lk b o n cap D dp fu a0 0) ⟨htx.trans (Touch.quiet zw), hKx.keep hKx.low zw (Nat.le_refl _)⟩ ?_
  have y0 := x0
  clear hb1 hc1 hf1 hl1 hz1 gl gX y0
  rintro wy ⟨hty, hKy⟩
  have hc0 := hHr2.out
  by_cases hc : lCnt D f k 14 kw = m
  rotate_left
  · rw [if_pos hc] at hc0
    subst hc0
    have hc1' : (lCnt D f k 14 kw != m) = true := by simpa using hc
    clear hc hHr2
    go_wp2_with fail
    refine (rdtell0 hKy X3 214).mono ?_
    rintro e w1 ⟨rfl, hv1, ht1⟩
    go_wp2_with fail
    go_returns
    exact ⟨_, _, _, rfl, by decide, hv1, htn.trans (hty.trans ht1)⟩
  rw [if_neg (by simpa using hc)] at hc0
  have hc1' : (lCnt D f k 14 kw != m) = false := by simpa using hc
  have hHl := Lib.hid hc0
  have HC := Lib.hid hc
  rw [hc] at hcm
  have hw := HWW.out
  clear hc0 hHr2 hc
  have htyx : ∀ j, wy.cell? ⟨X, j, none⟩ = wn.cell? ⟨X, j, none⟩ := fun j => touch_cell hty hX1 hnX j
  have htxx : ∀ j, wx.cell? ⟨X, j, none⟩ = wn.cell? ⟨X, j, none⟩ := fun j => touch_cell htx hX1 hnX j
  have v0' := (htyx 0).trans ((htxx 0).symm.trans x0)
  have v1' := (htyx 1).trans ((htxx 1).symm.trans x1)
  have v2' := (htyx 2).trans ((htxx 2).symm.trans x2)
  have v3' := (htyx 3).trans ((htxx 3).symm.trans x3)
  have hXy : X < wy.heap.size := Nat.lt_of_lt_of_le hX1 hty.size
  have htw := htn.trans hty
  have hSw : w.heap.size ≤ wy.heap.size := htw.size
  clear x0 x1 x2 x3 x4 hDx glx gXx htx hKx htn hty hKn hX1 htyx htxx
  have x0 := v0'
  have x1 := v1'
  have x2 := v2'
  have x3 := v3'
  clear v0' v1' v2' v3'
  go_wp2_with fail
  go_loopw [9, 22] (fun v i wr => ∃ (j : Nat) (acc : List (List UInt8)) (a' : Int), (j : Int) ≤ m ∧ i = .int .i64 j ∧ acc.length = j ∧ wr.ownsRow wy.heap.size 9 1 v acc.length (acc.map strV) ∧ (∀ i, i < acc.length → (acc.getD i []).length ≤ 1073741824) ∧ DSt 49 wr lk b o n cap D dp fu a' 0 ∧ Touch [lk] wy wr ∧
    kloopD D f k kw (m.toNat - j) j acc = r) (fun _ i _ => m.toNat - (intOf i).toNat)
  case atStart => exact ⟨0, [], a0, by omega, rfl, rfl, ⟨rfl, .inl ⟨rfl, rfl⟩⟩, by simp, hKy, Touch.refl _ _, hHl.out⟩
  case round =>
    obtain ⟨j, acc, ar, hj, rfl, hacc, hown, hlsm, hKr, htr, hl⟩ := hrel
    have hXr : X < wr.heap.size := Nat.lt_of_lt_of_le hXy htr.size
    have y0 := (touch_cell htr hXy hnX 0).trans x0
    have y1 := (touch_cell htr hXy hnX 1).trans x1
    have y2 := (touch_cell htr hXy hnX 2).trans x2
    have y3 := (touch_cell htr hXy hnX 3).trans x3
    have y4 := hKr.c0
    have hDr := hKr.doc
    have gr : lk < wr.heap.size := hKr.lkt
    have htwr := htw.trans htr
    have hSr : wy.heap.size ≤ wr.heap.size := htr.size
    clear hHl x0 x1 x2 x3
    by_cases hlt : (j : Int) < m
    · obtain ⟨r', hr'⟩ : ∃ r', m.toNat - j = r' + 1 := ⟨m.toNat - j - 1, by omega⟩
      have hr2 : m.toNat - (j + 1) = r' := by omega
      obtain ⟨eE, eP, eQ, eT, eW⟩ := dlat14 (i := (j : Int)) Hfe.out (by omega) (by rw [HC.out]; omega)
      have hmay := (dlat_may eE).1
      have HA : Hid (RHypAtK b o n cap D f k kw j (lAt D f k 14 kw + j * kw)) := Lib.hid (fun W hW => by
        have hx := rAt_any b o n cap D f k 14 kw j W hW
        unfold latV at hx
        rw [eE, eP, eQ, eT, eW] at hx; exact hx)
      rw [hr', kloopD, eP, eQ, eT, eW] at hl
      rw [eP, eQ, eT, eW, hD.len] at hmay
      generalize lAt D f k 14 kw + j * kw = P at hl hmay HA
      obtain ⟨-, -, -, P0, -, -, k1, k8, P1⟩ := mayE_zero hmay
      have hT := Lib.hid (fun W a (hW : DSt 49 W lk b o n cap D dp fu a 0) => rdtarget hW P kw 4 kw (lFrom D f k 14 kw) P0 P1 hw rfl (by omega) (by omega))
      have hlh := Lib.hid hl
      clear hmay eE eP eQ eT eW hr' hl
      generalize lFrom D f k 14 kw = lim at *
      have n0 := World.new_ne _ _ y0
      have n4 := World.new_ne _ _ y4
      go_wp2
      go_region_held3 (fun w' => w'.cell? ⟨X, 0, none⟩ = some (.int .i64 f) ∧ w'.cell? ⟨X, 1, none⟩ = some (.int .i64 k) ∧ w'.cell? ⟨X, 2, none⟩ = some (.int .i64 14) ∧ w'.cell? ⟨X, 3, none⟩ = some (.int .i64 kw) ∧ w'.cell? ⟨lk, 0, none⟩ = some (.slice (some ⟨b, o, none⟩) n cap)) (first | (with_reducible exact ⟨y0, y1, y2, y3, y4⟩) | (with_reducible exact ⟨k0, k1, k2, k3, k4⟩) | (refine ⟨?_, ?_, ?_, ?_, ?_⟩ <;> go_keep)) (((go_at_call 72; refine (HA.out _ (hDr.below zw)).mono ?_; rintro e w1 ⟨rfl, hb1⟩; obtain ⟨hc1, hf1, hl1⟩ := bcell hb1; (try simp only [zdz] at hc1 hf1 hl1); have hz1 := hb1.size; (try simp only [zsz] at hz1); (try have g0 : w.heap.size < w1.heap.size := by omega); (try have g1 : w.heap.size + 1 < w1.heap.size := by omega); (try have gl : lk < w1.heap.size := by omega)); (have gX : X < w1.heap.size := by omega); (try have gR : wr.heap.size < w1.heap.size := by omega); (have k0 : w1.cell? ⟨X, 0, none⟩ = some (.int .i64 f) := by go_simp); (have k1 : w1.cell? ⟨X, 1, none⟩ = some (.int .i64 k) := by go_simp); (have k2 : w1.cell? ⟨X, 2, none⟩ = some (.int .i64 14) := by go_simp); (have k3 : w1.cell? ⟨X, 3, none⟩ = some (.int .i64 kw) := by go_simp); (have k4 : w1.cell? ⟨lk, 0, none⟩ = some (.slice (some ⟨b, o, none⟩) n cap) := by go_simp); have m0 := World.new_ne _ _ k0; have m4 := World.new_ne _ _ k4))
      · go_upto_region 26 with fail
        refine wp_named (fun wz => Touch [lk] wr wz ∧ DSt 49 wz lk b o n cap D dp fu ar 0 ∧ wy.heap.size ≤ w1.heap.size ∧ w1.heap.size < wz.heap.size ∧ wz.cell? ⟨w1.heap.size, 0, none⟩ = some (.int .i64 P) ∧ wz.cell? ⟨w1.heap.size, 1, none⟩ = some (.int .i64 kw) ∧ wz.cell? ⟨w1.heap.size, 2, none⟩ = some (.int .i64 4) ∧ wz.cell? ⟨w1.heap.size, 3, none⟩ = some (.int .i64 kw)) ⟨Touch.quiet zw, hKr.keep hKr.low zw (Nat.le_refl _), by omega, by (first | omega | (simp <;> omega)), by go_simp, by go_simp, by go_simp, by go_simp⟩ ?_
        clear hb1 hc1 hf1 hl1 hz1 gl gX
        generalize w1.heap.size = G
        rintro wz ⟨htz, hKz, hG0, hG1, u0, u1, u2, u3⟩
        clear y0 y1 y2 y3 y4 n0 n4
        go_upto_region 27 with (go_at_call 42; refine (hT.out _ _ (hKz.keep hKz.low zw (Nat.le_refl _))).mono ?_; rintro e w1 ⟨rfl, hv1, ht1⟩)
        have hl := hlh.out
        by_cases htb : tgtB D P kw 4 kw lim = true
        rotate_left
        · rw [if_pos (by simpa using htb)] at hl
          subst hl
          rw [show tgtE D P kw 4 kw lim 0 = 211 by simp [tgtE, htb, tellE], show tgtA D P kw 4 kw lim 0 ar = P by simp [tgtA, htb, tellA]] at hv1
          have q4 := hv1.c4
          clear hT HA u0 u1 u2 u3
          obtain ⟨A8, c8, rfl⟩ := owns_ptr hown
          go_wp2
          go_returns
          exact ⟨_, _, _, rfl, by decide, hv1, htwr.trans (htz.trans ht1)⟩
        · rw [if_neg (by simpa using htb)] at hl
          rw [show tgtE D P kw 4 kw lim 0 = 0 by simp [tgtE, htb], show tgtA D P kw 4 kw lim 0 ar = ar by simp [tgtA, htb]] at hv1
          have hX : tgtX D P kw 4 kw lim = P - loadV D P kw := by simp [tgtX, htb]
          have q4 := hv1.c4
          have hnG : G ∉ [lk] := by have := hKy.lkt; simp; omega
          have hlh := Lib.hid hl
          clear hT HA hl
          go_upto_region 29 with fail
          refine wp_named (fun wx => Touch [lk] wr wx ∧ DSt 49 wx lk b o n cap D dp fu ar 0 ∧ G < wx.heap.size ∧ wx.cell? ⟨G, 0, none⟩ = some (.int .i64 P) ∧ wx.cell? ⟨G, 1, none⟩ = some (.int .i64 kw) ∧ wx.cell? ⟨G, 2, none⟩ = some (.int .i64 4) ∧ wx.cell? ⟨G, 3, none⟩ = some (.int .i64 kw)) ⟨htz.trans ht1, hv1, Nat.lt_of_lt_of_le hG1 ht1.size, (touch_cell ht1 hG1 hnG 0).trans u0, (touch_cell ht1 hG1 hnG 1).trans u1, (touch_cell ht1 hG1 hnG 2).trans u2, (touch_cell ht1 hG1 hnG 3).trans u3⟩ ?_
          clear htz hKz hG1 u0 u1 u2 u3 hv1 ht1 q4
          rintro wx ⟨htx, hKx, hG1, u0, u1, u2, u3⟩
          have u4 := hKx.c0
          have hDx := hKx.doc
          have glx : lk < wx.heap.size := hKx.lkt
          have HKey := Lib.hid (fun W (hW : Doc W b o n cap D) => rkey_any b o n cap D P kw kw W hW)
          unfold strV at HKey
          go_region_held3 (fun w' => w'.cell? ⟨G, 0, none⟩ = some (.int .i64 P) ∧ w'.cell? ⟨G, 1, none⟩ = some (.int .i64 kw) ∧ w'.cell? ⟨G, 2, none⟩ = some (.int .i64 4) ∧ w'.cell? ⟨G, 3, none⟩ = some (.int .i64 kw) ∧ w'.cell? ⟨lk, 0, none⟩ = some (.slice (some ⟨b, o, none⟩) n cap)) (first | (with_reducible exact ⟨u0, u1, u2, u3, u4⟩) | (with_reducible exact ⟨k0, k1, k2, k3, k4⟩) | (refine ⟨?_, ?_, ?_, ?_, ?_⟩ <;> go_keep)) (((go_at_call 45; refine (HKey.out _ (hDx.below zw)).mono ?_; rintro e w1 ⟨rfl, hb1⟩; obtain ⟨hc1, hf1, hl1⟩ := bcell hb1; (try simp only [zdz] at hc1 hf1 hl1); have hz1 := hb1.size; (try simp only [zsz] at hz1); (try have g0 : w.heap.size < w1.heap.size := by omega); (try have g1 : w.heap.size + 1 < w1.heap.size := by omega); (try have gl : lk < w1.heap.size := by omega)); (have gG : G < w1.heap.size := by omega)))
          go_upto_region 30 with fail
          have e0 : w1.cell? ⟨G, 0, none⟩ = some (.int .i64 P) := by go_simp
          refine wp_named (fun wv => Touch [lk] wr wv ∧ DSt 49 wv lk b o n cap D dp fu ar 0 ∧ G < wv.heap.size ∧ wv.cell? ⟨G, 0, none⟩ = some (.int .i64 P)) ⟨htx.trans (Touch.quiet zw), hKx.keep hKx.low zw (Nat.le_refl _), by (first | omega | (simp; omega)), by go_simp⟩ ?_
          clear hb1 hc1 hf1 hl1 hz1 gl gG e0 u0 u1 u2 u3 u4 htx hKx hG1 hDx glx HKey
          rintro wv ⟨htv, hKv, hGv, u0⟩
          have hl := hlh.out
          have ownv := own_touch hown htv (by have := hKy.lkt; omega)
          by_cases hfe : findE D P kw 4 kw true = 0
          rotate_left
          · rw [if_pos hfe] at hl
            subst hl
            have HFE := Lib.hid hfe
            have hfe1 : (findE D P kw 4 kw true != 0) = true := by simpa using hfe
            clear hfe
            obtain ⟨A8, c8, rfl⟩ := owns_ptr hown
            go_wp2_with fail
            refine (rdtell0 hKv (P - loadV D P kw) (findE D P kw 4 kw true)).mono ?_
            rintro e w1 ⟨rfl, hv1, ht1⟩
            go_wp2_with fail
            go_returns
            exact ⟨_, _, _, rfl, HFE.out, hv1, htwr.trans (htv.trans ht1)⟩
          · rw [if_neg (by simpa using hfe)] at hl
            (try rw [hfe])
            have hfsl : (findS D P kw 4 kw true).length ≤ 1073741824 := Nat.le_trans (findS_le D P kw 4 kw true) (by rw [hD.len]; exact hD.sm)
            generalize hs : findS D P kw 4 kw true = s at *
            have hlh := Lib.hid hl
            have hlkB : lk < wy.heap.size := by have := hKy.lkt; omega
            have hbB : b < wy.heap.size := hKy.low.b
            obtain ⟨i0, hi, hz0, hz1, hz2⟩ := info_parts strinfo
            clear hl hfe
            by_cases hj0 : j = 0
            · subst hj0
              rw [hacc] at hown ownv
              have hHacc := Lib.hid hacc
              clear hacc
              obtain ⟨A8, c8, rfl⟩ := owns_ptr hown
              have hlf := hlh.out
              rw [if_neg (by omega)] at hlf
              go_upto_region 36 with fail
              have ownw := Lib.hid ownv
              clear ownv hown
              have hmap : (acc ++ [s]).map strV = acc.map strV ++ [strV s] := by simp
              have HM := Lib.hid hmap
              clear hmap
              generalize acc.map strV = xs at *
              have hHlf := Lib.hid hlf
              clear hlf
              go_wp2_with (at_builtin; refine wpList_append_own _ rfl _ _ 28 rfl wy.heap.size 9 i0 (.string ⟨#[]⟩) 1 16 Tryz.underlying28 hi hz0 hz1 hz2 rfl (by decide) _ _ xs rfl (ownw.out.alloc _) ⟨_, 0, none⟩ 1 1 [strV s] rfl rfl ?c2 ?c3 ?c4 ?c5 ?c6 ?_)
              case c2 => exact one_at (heap_alloc_new _ _)
              case c3 => intro x hx; simp at hx; subst hx; rfl
              case c4 => unfold maxLen; omega
              case c5 => omega
              case c6 => have := htv.size; simp; omega
              intro v3 w3 ho hgr _
              have hslt := fun k hk => ownw.out.lt k hk
              have hb1 : Below wv.heap.size wv (wv.alloc (.cells #[strV s] 9)) := (Below.refl _ _).alloc (Nat.le_refl _) _
              have ht3 : Touch [lk] wy w3 := touch_grown ((htr.trans htv).trans (Touch.quiet hb1)) hgr (fun k hk => (hslt k hk).1)
              have hv3 := (hKv.keep hKv.low hb1 (Nat.le_refl _)).grown hgr (fun e => by have := (hslt lk e).1; omega) (fun e => by have := (hslt b e).1; omega)
              have hsm2 : ∀ i, i < (acc ++ [s]).length → ((acc ++ [s]).getD i []).length ≤ 1073741824 := by
                intro i hi
                rw [List.getD_eq_getElem?_getD]
                by_cases hi2 : i < acc.length
                · rw [List.getElem?_append_left hi2, ← List.getD_eq_getElem?_getD]; exact hlsm i hi2
                · rw [List.getElem?_append_right (by omega)]
                  have : i - acc.length = 0 := by simp at hi; omega
                  rw [this]; exact hfsl
              have hlen2 : (acc ++ [s]).length = acc.length + 1 := by simp
              clear hgr htv hKv ownw
              go_wp2_with fail
              go_roundw
              case rel => exact ⟨acc.length + 1, acc ++ [s], _, by rw [hHacc.out]; omega, by rw [hHacc.out]; go_num, hlen2, by rw [hlen2, hHacc.out, HM.out]; exact ho, hsm2, hv3, ht3, by rw [hHacc.out, hr2]; exact hHlf.out⟩
              case measure => simp only [intOf]; omega
            · obtain ⟨jj, rfl⟩ : ∃ jj, j = jj + 1 := ⟨j - 1, by omega⟩
              obtain ⟨g, c8, rfl, hlast, hc8⟩ := row_last hown jj hacc
              rw [hacc] at hown ownv
              have hHacc := Lib.hid hacc
              clear hacc
              have hg := hown.lt g rfl
              have hng : g ∉ [lk] := by simp; omega
              have hl1 := (touch_cell htv hg.2 hng jj).trans hlast
              have hwj : IntKind.i64.wrap (((jj + 1 : Nat) : Int) - 1) = jj := by rw [IntWalk.i64_in _ (by omega)]; omega
              have hjp : (0 : Int) < ((jj + 1 : Nat) : Int) := by omega
              have hlf := hlh.out
              rw [show (((jj + 1 : Nat) : Int) - 1).toNat = jj by omega] at hlf
              have hlastl := hlsm jj (by rw [hHacc.out]; omega)
              generalize hlv : acc.getD jj [] = last at *
              have HLS := Lib.hid (fun W => rless_any last s hlastl hfsl W)
              have j0 : (0 : Int) ≤ (jj : Int) := by omega
              have j1 : (jj : Int) < ((jj + 1 : Nat) : Int) := by omega
              clear hlast
              cases hles : lessB last s with
              | false =>
                rw [if_pos ⟨hjp, hles⟩] at hlf
                subst hlf
                rw [hles] at HLS
                go_upto_region 34 with (go_at_call 93; refine (HLS.out _).mono ?_; rintro e w9 ⟨rfl, hb9⟩)
                refine wp_named (fun wu => Touch [lk] wr wu ∧ DSt 49 wu lk b o n cap D dp fu ar 0 ∧ wu.cell? ⟨G, 0, none⟩ = some (.int .i64 P)) ⟨htv.trans (Touch.quiet hb9), hKv.keep hKv.low hb9 (Nat.le_refl _), (hb9.cell (p := ⟨G, 0, none⟩) hGv).trans u0⟩ ?_
                clear hb9 htv hKv hGv u0 ownv
                rintro wv ⟨htv, hKv, u0⟩
                go_wp2_with fail
                refine (rdtell0 hKv P 215).mono ?_
                rintro e w2 ⟨rfl, hv2, ht2⟩
                go_wp2_with fail
                go_returns
                exact ⟨_, _, _, rfl, by decide, hv2, htwr.trans (htv.trans ht2)⟩
              | true =>
                rw [if_neg (by rintro ⟨-, h⟩; rw [hles] at h; cases h)] at hlf
                rw [hles] at HLS
                go_upto_region 36 with (go_at_call 93; refine (HLS.out _).mono ?_; rintro e w9 ⟨rfl, hb9⟩)
                refine wp_named (fun wu => Touch [lk] wr wu ∧ DSt 49 wu lk b o n cap D dp fu ar 0 ∧ wu.ownsRow wy.heap.size 9 1 (.slice (some ⟨g, 0, none⟩) (jj + 1) c8) (jj + 1) (acc.map strV)) ⟨htv.trans (Touch.quiet hb9), hKv.keep hKv.low hb9 (Nat.le_refl _), own_touch ownv (Touch.quiet hb9) hlkB⟩ ?_
                clear hb9 htv hKv hGv u0 ownv hl1
                rintro wv ⟨htv, hKv, ownv⟩
                have ownw := Lib.hid ownv
                clear ownv hown
                have hmap : (acc ++ [s]).map strV = acc.map strV ++ [strV s] := by simp
                have HM := Lib.hid hmap
                clear hmap
                generalize acc.map strV = xs at *
                have hHlf := Lib.hid hlf
                clear hlf
                go_wp2_with (at_builtin; refine wpList_append_own _ rfl _ _ 28 rfl wy.heap.size 9 i0 (.string ⟨#[]⟩) 1 16 Tryz.underlying28 hi hz0 hz1 hz2 rfl (by decide) _ _ xs rfl (ownw.out.alloc _) ⟨_, 0, none⟩ 1 1 [strV s] rfl rfl ?c2 ?c3 ?c4 ?c5 ?c6 ?_)
                case c2 => exact one_at (heap_alloc_new _ _)
                case c3 => intro x hx; simp at hx; subst hx; rfl
                case c4 => unfold maxLen; omega
                case c5 => omega
                case c6 => have := htv.size; simp; omega
                intro v3 w3 ho hgr _
                have hslt := fun k hk => ownw.out.lt k hk
                have hb1 : Below wv.heap.size wv (wv.alloc (.cells #[strV s] 9)) := (Below.refl _ _).alloc (Nat.le_refl _) _
                have ht3 : Touch [lk] wy w3 := touch_grown ((htr.trans htv).trans (Touch.quiet hb1)) hgr (fun k hk => (hslt k hk).1)
                have hv3 := (hKv.keep hKv.low hb1 (Nat.le_refl _)).grown hgr (fun e => by have := (hslt lk e).1; omega) (fun e => by have := (hslt b e).1; omega)
                have hsm2 : ∀ i, i < (acc ++ [s]).length → ((acc ++ [s]).getD i []).length ≤ 1073741824 := by
                  intro i hi
                  rw [List.getD_eq_getElem?_getD]
                  by_cases hi2 : i < acc.length
                  · rw [List.getElem?_append_left hi2, ← List.getD_eq_getElem?_getD]; exact hlsm i hi2
                  · rw [List.getElem?_append_right (by omega)]
                    have : i - acc.length = 0 := by simp at hi; omega
                    rw [this]; exact hfsl
                have hlen2 : (acc ++ [s]).length = acc.length + 1 := by simp
                clear hgr htv hKv ownw
                go_wp2_with fail
                go_roundw
                case rel => exact ⟨acc.length + 1, acc ++ [s], _, by rw [hHacc.out]; omega, by rw [hHacc.out]; go_num, hlen2, by rw [hlen2, hHacc.out, HM.out]; exact ho, hsm2, hv3, ht3, by rw [hHacc.out, hr2]; exact hHlf.out⟩
                case measure => simp only [intOf]; omega
      · go_upto_region 26 with fail
        refine wp_named (fun wz => Touch [lk] wr wz ∧ DSt 49 wz lk b o n cap D dp fu ar 0 ∧ wy.heap.size ≤ wr.heap.size ∧ wr.heap.size < wz.heap.size ∧ wz.cell? ⟨wr.heap.size, 0, none⟩ = some (.int .i64 P) ∧ wz.cell? ⟨wr.heap.size, 1, none⟩ = some (.int .i64 kw) ∧ wz.cell? ⟨wr.heap.size, 2, none⟩ = some (.int .i64 4) ∧ wz.cell? ⟨wr.heap.size, 3, none⟩ = some (.int .i64 kw)) ⟨Touch.quiet zw, hKr.keep hKr.low zw (Nat.le_refl _), by omega, by (first | omega | (simp <;> omega)), by go_simp, by go_simp, by go_simp, by go_simp⟩ ?_
        clear hb1 hc1 hf1 hl1 hz1 gl gX
        generalize hGq : wr.heap.size = G
        clear hGq
        rintro wz ⟨htz, hKz, hG0, hG1, u0, u1, u2, u3⟩
        clear y0 y1 y2 y3 y4 n0 n4
        go_upto_region 27 with (go_at_call 42; refine (hT.out _ _ (hKz.keep hKz.low zw (Nat.le_refl _))).mono ?_; rintro e w1 ⟨rfl, hv1, ht1⟩)
        have hl := hlh.out
        by_cases htb : tgtB D P kw 4 kw lim = true
        rotate_left
        · rw [if_pos (by simpa using htb)] at hl
          subst hl
          rw [show tgtE D P kw 4 kw lim 0 = 211 by simp [tgtE, htb, tellE], show tgtA D P kw 4 kw lim 0 ar = P by simp [tgtA, htb, tellA]] at hv1
          have q4 := hv1.c4
          clear hT HA u0 u1 u2 u3
          obtain ⟨A8, c8, rfl⟩ := owns_ptr hown
          go_wp2
          go_returns
          exact ⟨_, _, _, rfl, by decide, hv1, htwr.trans (htz.trans ht1)⟩
        · rw [if_neg (by simpa using htb)] at hl
          rw [show tgtE D P kw 4 kw lim 0 = 0 by simp [tgtE, htb], show tgtA D P kw 4 kw lim 0 ar = ar by simp [tgtA, htb]] at hv1
          have hX : tgtX D P kw 4 kw lim = P - loadV D P kw := by simp [tgtX, htb]
          have q4 := hv1.c4
          have hnG : G ∉ [lk] := by have := hKy.lkt; simp; omega
          have hlh := Lib.hid hl
          clear hT HA hl
          go_upto_region 29 with fail
          refine wp_named (fun wx => Touch [lk] wr wx ∧ DSt 49 wx lk b o n cap D dp fu ar 0 ∧ G < wx.heap.size ∧ wx.cell? ⟨G, 0, none⟩ = some (.int .i64 P) ∧ wx.cell? ⟨G, 1, none⟩ = some (.int .i64 kw) ∧ wx.cell? ⟨G, 2, none⟩ = some (.int .i64 4) ∧ wx.cell? ⟨G, 3, none⟩ = some (.int .i64 kw)) ⟨htz.trans ht1, hv1, Nat.lt_of_lt_of_le hG1 ht1.size, (touch_cell ht1 hG1 hnG 0).trans u0, (touch_cell ht1 hG1 hnG 1).trans u1, (touch_cell ht1 hG1 hnG 2).trans u2, (touch_cell ht1 hG1 hnG 3).trans u3⟩ ?_
          clear htz hKz hG1 u0 u1 u2 u3 hv1 ht1 q4
          rintro wx ⟨htx, hKx, hG1, u0, u1, u2, u3⟩
          have u4 := hKx.c0
          have hDx := hKx.doc
          have glx : lk < wx.heap.size := hKx.lkt
          have HKey := Lib.hid (fun W (hW : Doc W b o n cap D) => rkey_any b o n cap D P kw kw W hW)
          unfold strV at HKey
          go_region_held3 (fun w' => w'.cell? ⟨G, 0, none⟩ = some (.int .i64 P) ∧ w'.cell? ⟨G, 1, none⟩ = some (.int .i64 kw) ∧ w'.cell? ⟨G, 2, none⟩ = some (.int .i64 4) ∧ w'.cell? ⟨G, 3, none⟩ = some (.int .i64 kw) ∧ w'.cell? ⟨lk, 0, none⟩ = some (.slice (some ⟨b, o, none⟩) n cap)) (first | (with_reducible exact ⟨u0, u1, u2, u3, u4⟩) | (with_reducible exact ⟨k0, k1, k2, k3, k4⟩) | (refine ⟨?_, ?_, ?_, ?_, ?_⟩ <;> go_keep)) (((go_at_call 45; refine (HKey.out _ (hDx.below zw)).mono ?_; rintro e w1 ⟨rfl, hb1⟩; obtain ⟨hc1, hf1, hl1⟩ := bcell hb1; (try simp only [zdz] at hc1 hf1 hl1); have hz1 := hb1.size; (try simp only [zsz] at hz1); (try have g0 : w.heap.size < w1.heap.size := by omega); (try have g1 : w.heap.size + 1 < w1.heap.size := by omega); (try have gl : lk < w1.heap.size := by omega)); (have gG : G < w1.heap.size := by omega)))
          go_upto_region 30 with fail
          have e0 : w1.cell? ⟨G, 0, none⟩ = some (.int .i64 P) := by go_simp
          refine wp_named (fun wv => Touch [lk] wr wv ∧ DSt 49 wv lk b o n cap D dp fu ar 0 ∧ G < wv.heap.size ∧ wv.cell? ⟨G, 0, none⟩ = some (.int .i64 P)) ⟨htx.trans (Touch.quiet zw), hKx.keep hKx.low zw (Nat.le_refl _), by (first | omega | (simp; omega)), by go_simp⟩ ?_
          clear hb1 hc1 hf1 hl1 hz1 gl gG e0 u0 u1 u2 u3 u4 htx hKx hG1 hDx glx HKey
          rintro wv ⟨htv, hKv, hGv, u0⟩
          have hl := hlh.out
          have ownv := own_touch hown htv (by have := hKy.lkt; omega)
          by_cases hfe : findE D P kw 4 kw true = 0
          rotate_left
          · rw [if_pos hfe] at hl
            subst hl
            have HFE := Lib.hid hfe
            have hfe1 : (findE D P kw 4 kw true != 0) = true := by simpa using hfe
            clear hfe
            obtain ⟨A8, c8, rfl⟩ := owns_ptr hown
            go_wp2_with fail
            refine (rdtell0 hKv (P - loadV D P kw) (findE D P kw 4 kw true)).mono ?_
            rintro e w1 ⟨rfl, hv1, ht1⟩
            go_wp2_with fail
            go_returns
            exact ⟨_, _, _, rfl, HFE.out, hv1, htwr.trans (htv.trans ht1)⟩
          · rw [if_neg (by simpa using hfe)] at hl
            (try rw [hfe])
            have hfsl : (findS D P kw 4 kw true).length ≤ 1073741824 := Nat.le_trans (findS_le D P kw 4 kw true) (by rw [hD.len]; exact hD.sm)
            generalize hs : findS D P kw 4 kw true = s at *
            have hlh := Lib.hid hl
            have hlkB : lk < wy.heap.size := by have := hKy.lkt; omega
            have hbB : b < wy.heap.size := hKy.low.b
            obtain ⟨i0, hi, hz0, hz1, hz2⟩ := info_parts strinfo
            clear hl hfe
            by_cases hj0 : j = 0
            · subst hj0
              rw [hacc] at hown ownv
              have hHacc := Lib.hid hacc
              clear hacc
              obtain ⟨A8, c8, rfl⟩ := owns_ptr hown
              have hlf := hlh.out
              rw [if_neg (by omega)] at hlf
              go_upto_region 36 with fail
              have ownw := Lib.hid ownv
              clear ownv hown
              have hmap : (acc ++ [s]).map strV = acc.map strV ++ [strV s] := by simp
              have HM := Lib.hid hmap
              clear hmap
              generalize acc.map strV = xs at *
              have hHlf := Lib.hid hlf
              clear hlf
              go_wp2_with (at_builtin; refine wpList_append_own _ rfl _ _ 28 rfl wy.heap.size 9 i0 (.string ⟨#[]⟩) 1 16 Tryz.underlying28 hi hz0 hz1 hz2 rfl (by decide) _ _ xs rfl (ownw.out.alloc _) ⟨_, 0, none⟩ 1 1 [strV s] rfl rfl ?c2 ?c3 ?c4 ?c5 ?c6 ?_)
              case c2 => exact one_at (heap_alloc_new _ _)
              case c3 => intro x hx; simp at hx; subst hx; rfl
              case c4 => unfold maxLen; omega
              case c5 => omega
              case c6 => have := htv.size; simp; omega
              intro v3 w3 ho hgr _
              have hslt := fun k hk => ownw.out.lt k hk
              have hb1 : Below wv.heap.size wv (wv.alloc (.cells #[strV s] 9)) := (Below.refl _ _).alloc (Nat.le_refl _) _
              have ht3 : Touch [lk] wy w3 := touch_grown ((htr.trans htv).trans (Touch.quiet hb1)) hgr (fun k hk => (hslt k hk).1)
              have hv3 := (hKv.keep hKv.low hb1 (Nat.le_refl _)).grown hgr (fun e => by have := (hslt lk e).1; omega) (fun e => by have := (hslt b e).1; omega)
              have hsm2 : ∀ i, i < (acc ++ [s]).length → ((acc ++ [s]).getD i []).length ≤ 1073741824 := by
                intro i hi
                rw [List.getD_eq_getElem?_getD]
                by_cases hi2 : i < acc.length
                · rw [List.getElem?_append_left hi2, ← List.getD_eq_getElem?_getD]; exact hlsm i hi2
                · rw [List.getElem?_append_right (by omega)]
                  have : i - acc.length = 0 := by simp at hi; omega
                  rw [this]; exact hfsl
              have hlen2 : (acc ++ [s]).length = acc.length + 1 := by simp
              clear hgr htv hKv ownw
              go_wp2_with fail
              go_roundw
              case rel => exact ⟨acc.length + 1, acc ++ [s], _, by rw [hHacc.out]; omega, by rw [hHacc.out]; go_num, hlen2, by rw [hlen2, hHacc.out, HM.out]; exact ho, hsm2, hv3, ht3, by rw [hHacc.out, hr2]; exact hHlf.out⟩
              case measure => simp only [intOf]; omega
            · obtain ⟨jj, rfl⟩ : ∃ jj, j = jj + 1 := ⟨j - 1, by omega⟩
              obtain ⟨g, c8, rfl, hlast, hc8⟩ := row_last hown jj hacc
              rw [hacc] at hown ownv
              have hHacc := Lib.hid hacc
              clear hacc
              have hg := hown.lt g rfl
              have hng : g ∉ [lk] := by simp; omega
              have hl1 := (touch_cell htv hg.2 hng jj).trans hlast
              have hwj : IntKind.i64.wrap (((jj + 1 : Nat) : Int) - 1) = jj := by rw [IntWalk.i64_in _ (by omega)]; omega
              have hjp : (0 : Int) < ((jj + 1 : Nat) : Int) := by omega
              have hlf := hlh.out
              rw [show (((jj + 1 : Nat) : Int) - 1).toNat = jj by omega] at hlf
              have hlastl := hlsm jj (by rw [hHacc.out]; omega)
              generalize hlv : acc.getD jj [] = last at *
              have HLS := Lib.hid (fun W => rless_any last s hlastl hfsl W)
              have j0 : (0 : Int) ≤ (jj : Int) := by omega
              have j1 : (jj : Int) < ((jj + 1 : Nat) : Int) := by omega
              clear hlast
              cases hles : lessB last s with
              | false =>
                rw [if_pos ⟨hjp, hles⟩] at hlf
                subst hlf
                rw [hles] at HLS
                go_upto_region 34 with (go_at_call 93; refine (HLS.out _).mono ?_; rintro e w9 ⟨rfl, hb9⟩)
                refine wp_named (fun wu => Touch [lk] wr wu ∧ DSt 49 wu lk b o n cap D dp fu ar 0 ∧ wu.cell? ⟨G, 0, none⟩ = some (.int .i64 P)) ⟨htv.trans (Touch.quiet hb9), hKv.keep hKv.low hb9 (Nat.le_refl _), (hb9.cell (p := ⟨G, 0, none⟩) hGv).trans u0⟩ ?_
                clear hb9 htv hKv hGv u0 ownv
                rintro wv ⟨htv, hKv, u0⟩
                go_wp2_with fail
                refine (rdtell0 hKv P 215).mono ?_
                rintro e w2 ⟨rfl, hv2, ht2⟩
                go_wp2_with fail
                go_returns
                exact ⟨_, _, _, rfl, by decide, hv2, htwr.trans (htv.trans ht2)⟩
              | true =>
                rw [if_neg (by rintro ⟨-, h⟩; rw [hles] at h; cases h)] at hlf
                rw [hles] at HLS
                go_upto_region 36 with (go_at_call 93; refine (HLS.out _).mono ?_; rintro e w9 ⟨rfl, hb9⟩)
                refine wp_named (fun wu => Touch [lk] wr wu ∧ DSt 49 wu lk b o n cap D dp fu ar 0 ∧ wu.ownsRow wy.heap.size 9 1 (.slice (some ⟨g, 0, none⟩) (jj + 1) c8) (jj + 1) (acc.map strV)) ⟨htv.trans (Touch.quiet hb9), hKv.keep hKv.low hb9 (Nat.le_refl _), own_touch ownv (Touch.quiet hb9) hlkB⟩ ?_
                clear hb9 htv hKv hGv u0 ownv hl1
                rintro wv ⟨htv, hKv, ownv⟩
                have ownw := Lib.hid ownv
                clear ownv hown
                have hmap : (acc ++ [s]).map strV = acc.map strV ++ [strV s] := by simp
                have HM := Lib.hid hmap
                clear hmap
                generalize acc.map strV = xs at *
                have hHlf := Lib.hid hlf
                clear hlf
                go_wp2_with (at_builtin; refine wpList_append_own _ rfl _ _ 28 rfl wy.heap.size 9 i0 (.string ⟨#[]⟩) 1 16 Tryz.underlying28 hi hz0 hz1 hz2 rfl (by decide) _ _ xs rfl (ownw.out.alloc _) ⟨_, 0, none⟩ 1 1 [strV s] rfl rfl ?c2 ?c3 ?c4 ?c5 ?c6 ?_)
                case c2 => exact one_at (heap_alloc_new _ _)
                case c3 => intro x hx; simp at hx; subst hx; rfl
                case c4 => unfold maxLen; omega
                case c5 => omega
                case c6 => have := htv.size; simp; omega
                intro v3 w3 ho hgr _
                have hslt := fun k hk => ownw.out.lt k hk
                have hb1 : Below wv.heap.size wv (wv.alloc (.cells #[strV s] 9)) := (Below.refl _ _).alloc (Nat.le_refl _) _
                have ht3 : Touch [lk] wy w3 := touch_grown ((htr.trans htv).trans (Touch.quiet hb1)) hgr (fun k hk => (hslt k hk).1)
                have hv3 := (hKv.keep hKv.low hb1 (Nat.le_refl _)).grown hgr (fun e => by have := (hslt lk e).1; omega) (fun e => by have := (hslt b e).1; omega)
                have hsm2 : ∀ i, i < (acc ++ [s]).length → ((acc ++ [s]).getD i []).length ≤ 1073741824 := by
                  intro i hi
                  rw [List.getD_eq_getElem?_getD]
                  by_cases hi2 : i < acc.length
                  · rw [List.getElem?_append_left hi2, ← List.getD_eq_getElem?_getD]; exact hlsm i hi2
                  · rw [List.getElem?_append_right (by omega)]
                    have : i - acc.length = 0 := by simp at hi; omega
                    rw [this]; exact hfsl
                have hlen2 : (acc ++ [s]).length = acc.length + 1 := by simp
                clear hgr htv hKv ownw
                go_wp2_with fail
                go_roundw
                case rel => exact ⟨acc.length + 1, acc ++ [s], _, by rw [hHacc.out]; omega, by rw [hHacc.out]; go_num, hlen2, by rw [hlen2, hHacc.out, HM.out]; exact ho, hsm2, hv3, ht3, by rw [hHacc.out, hr2]; exact hHlf.out⟩
                case measure => simp only [intOf]; omega
    · have hjc : m.toNat - j = 0 := by omega
      rw [hjc, kloopD] at hl
      subst hl
      go_wp2
      go_returns
      have hx := hown
      exact ⟨_, _, rfl, owns_base hx hSw, hKr, htwr⟩
end
end
section
open Go.RowKit
/-- The state of the loop: good, or failed; the list lies in a variable. -/
def RSt6 (F : Int) (ty : TypeId) (Z : Nat) (kd : Int) (v : Value) (wr : World) (lk b o n cap : Nat) (D : List UInt8) (dp : Int) (dec : DecF) (p q t k a d : Int) (ks : List (List UInt8)) (rl : DR (List DT × Int)) (j : Nat) : Prop :=
  (∃ kv xs bl acc fu a', wr.heap[Z]? = some (.cells (nodeCells kd 0 0 [] kv (.slice none 0 0)) 31 (0, 0)) ∧ Kids wr (Z + 1) ks acc kv v xs bl ∧ acc.length = j ∧ DSt ty wr lk b o n cap D dp fu a' 0 ∧ InF F fu ∧
    vloopD dec D p q t k a d ((lCnt D p q t k).toNat - j) j acc fu = rl) ∨
  ∃ A1 m1 c1 A2 m2 c2 ae ee f, v = .slice A2 m2 c2 ∧ wr.heap[Z]? = some (.cells (nodeCells kd 0 0 [] (.slice A1 m1 c1) (.slice none 0 0)) 31 (0, 0)) ∧ rl = .error (ae, ee) ∧ ee ≠ 0 ∧ DSt ty wr lk b o n cap D dp f ae ee
theorem touch_row {T : List Nat} {w w' : World} (h : Touch T w w') {x : Nat} {ob : Obj} (hr : w.heap[x]? = some ob) (hn : x ∉ T) : w'.heap[x]? = some ob := (h.block x (Array.getElem?_eq_some_iff.1 hr).1 hn).trans hr
section
variable {w : World} {lk b o n cap : Nat} {D : List UInt8} {dp fu a0 : Int}
set_option maxHeartbeats 8000000 in
set_option maxRecDepth 100000 in
theorem rvec_e (F : Int) (dec : DecF) (hdg : DecGood F dec) (h : DSt 49 w lk b o n cap D dp fu a0 0) (hfu : InF F fu) (p q t k a d : Int) (ha0 : 0 ≤ a) (ha1 : a ≤ 1073741824) (hd0 : 0 ≤ d) (hd1 : d ≤ 2147483648) (hleg : legalB t = true)
    (HN : HypNode F 49 17 dec lk b o n cap D dp (lFrom D p q t k) (d + 1)) (he : lfindE D p q t k ≠ 0) (r : DR (DT × Int)) (hr : vecD dec D p q t k a d fu = r) :
    Calls Tryz.prog 48 #[.pointer (some ⟨lk, 0, none⟩), .agg #[.int .i64 p, .int .i64 q, .int .i64 t, .int .i64 k], .int .i64 a, .int .i64 d] w (VPost 49 (kindD t) w lk b o n cap D dp r) := by
  have H_he := Lib.hid he
  clear he
  have hlow := h.low
  have hD := h.doc
  obtain ⟨hn1, hn2⟩ := hD.bd
  have hbw := hlow.b
  have hlw := hlow.l
  have hHR := Lib.hid hr
  have hHN := Lib.hid HN
  have HSp := Lib.hid (fun W (hW : Doc W b o n cap D) => rSpan_any b o n cap D p q t k W hW)
  have HLe := Lib.hid (fun W (hW : Doc W b o n cap D) => rLen_any b o n cap D p q t k W hW)
  have HKd := fun W => Lib.hid (rkind_any p q t k hleg W)
  generalize kindD t = kd at *
  clear hr HN hleg
  go_enter Tryz.func48, Tryz.ntmps48
  go_upto_region 2 with (go_at_call 40; refine ((HKd _).out).mono ?_; rintro e w1 ⟨rfl, hb1⟩; obtain ⟨hc1, hf1, hl1⟩ := bcell hb1; (try simp only [zdz] at hc1 hf1 hl1); have hz1 := hb1.size; (try simp only [zsz] at hz1); (try have g0 : w.heap.size < w1.heap.size := by omega); (try have g1 : w.heap.size + 1 < w1.heap.size := by omega); (try have gl : lk < w1.heap.size := by omega))
  refine wp_named (fun wn => Touch [lk] w wn ∧ DSt 49 wn lk b o n cap D dp fu a0 0 ∧ w.heap.size + 1 < w1.heap.size ∧ w1.heap.size < wn.heap.size ∧ wn.heap[w.heap.size]? = some (.cells #[.int .i64 p, .int .i64 q, .int .i64 t, .int .i64 k] 24 (0, 0)) ∧ wn.heap[w.heap.size + 1]? = some (.cells #[.int .i64 0, .int .i64 0, .int .u64 0, .string ⟨#[]⟩, .slice none 0 0, .slice none 0 0] 31 (0, 0)) ∧ wn.heap[w1.heap.size]? = some (.cells (nodeCells kd 0 0 [] (.slice none 0 0) (.slice none 0 0)) 31 (0, 0))) ⟨Touch.quiet zw, h.keep hlow zw (Nat.le_refl _), by omega, by simp, ((((Below.refl w1.heap.size w1).alloc (Nat.le_refl _) _).block _ (by omega)).trans (hb1.block _ (by simp; omega))).trans (heap_made_1 _ _ _), ((((Below.refl w1.heap.size w1).alloc (Nat.le_refl _) _).block _ (by omega)).trans (hb1.block _ (by simp))).trans (heap_made_2 _ _ _), heap_alloc_new _ _⟩ ?_
  clear hb1 hc1 hf1 hl1 hz1 HKd
  generalize w1.heap.size = Z
  rintro wn ⟨htn, hKn, hZ0, hZ1, hXb, hYb, hZb⟩
  have hnX : w.heap.size ∉ [lk] := by simp; omega
  have hnY : w.heap.size + 1 ∉ [lk] := by simp; omega
  have hnZ : Z ∉ [lk] := by simp; omega
  have gln : lk < wn.heap.size := hKn.lkt
  have hX : w.heap.size < wn.heap.size := by omega
  have hDn := hKn.doc
  have z0 : wn.cell? ⟨w.heap.size, 0, none⟩ = some (.int .i64 p) := cell_of_row _ _ _ _ _ _ hXb
  have z1 : wn.cell? ⟨w.heap.size, 1, none⟩ = some (.int .i64 q) := cell_of_row _ _ _ _ _ _ hXb
  have z2 : wn.cell? ⟨w.heap.size, 2, none⟩ = some (.int .i64 t) := cell_of_row _ _ _ _ _ _ hXb
  have z3 : wn.cell? ⟨w.heap.size, 3, none⟩ = some (.int .i64 k) := cell_of_row _ _ _ _ _ _ hXb
  have z4 := hKn.c0
  go_region_held3 (fun w' => w'.cell? ⟨w.heap.size, 0, none⟩ = some (.int .i64 p) ∧ w'.cell? ⟨w.heap.size, 1, none⟩ = some (.int .i64 q) ∧ w'.cell? ⟨w.heap.size, 2, none⟩ = some (.int .i64 t) ∧ w'.cell? ⟨w.heap.size, 3, none⟩ = some (.int .i64 k) ∧ w'.cell? ⟨lk, 0, none⟩ = some (.slice (some ⟨b, o, none⟩) n cap)) (first | (with_reducible exact ⟨z0, z1, z2, z3, z4⟩) | (with_reducible exact ⟨k0, k1, k2, k3, k4⟩) | (refine ⟨?_, ?_, ?_, ?_, ?_⟩ <;> go_keep)) (((go_at_call 69; refine (HSp.out _ (hDn.below zw)).mono ?_; rintro e w1 ⟨rfl, hb1⟩; obtain ⟨hc1, hf1, hl1⟩ := bcell hb1; (try simp only [zdz] at hc1 hf1 hl1); have hz1 := hb1.size; (try simp only [zsz] at hz1); (try have g0 : w.heap.size < w1.heap.size := by omega); (try have g1 : w.heap.size + 1 < w1.heap.size := by omega); (try have gl : lk < w1.heap.size := by omega))))
  go_upto_region 3 with fail
  refine wp_named (fun wx => Touch [lk] wn wx ∧ DSt 49 wx lk b o n cap D dp fu a0 0) ⟨Touch.quiet zw, hKn.keep hKn.low zw (Nat.le_refl _)⟩ ?_
  clear hb1 hc1 hf1 hl1 hz1 gl z0 z1 z2 z3 z4 hDn
  rintro wx ⟨htx, hKx⟩
  have hXx := touch_row htx hXb hnX
  have hYx := touch_row htx hYb hnY
  have hZx := touch_row htx hZb hnZ
  have htw := htn.trans htx
  have hs := htx.size
  clear htx htn hKn hXb hYb hZb gln hX
  have he := H_he.out
  have hr := hHR.out
  unfold vecD at hr
  rw [if_pos he] at hr
  subst hr
  have he1 : (lfindE D p q t k != 0) = true := by simpa using he
  clear he hHR HLe
  go_wp2_with fail
  refine (rdtell0 hKx a (lfindE D p q t k)).mono ?_
  rintro e w1 ⟨rfl, hv1, ht1⟩
  have hYe := touch_row ht1 hYx hnY
  have hZe := touch_row ht1 hZx hnZ
  have n0 : w1.cell? ⟨w.heap.size + 1, 0, none⟩ = some (.int .i64 0) := cell_of_row _ _ _ _ _ _ hYe
  have n1 : w1.cell? ⟨w.heap.size + 1, 1, none⟩ = some (.int .i64 0) := cell_of_row _ _ _ _ _ _ hYe
  have n2 : w1.cell? ⟨w.heap.size + 1, 2, none⟩ = some (.int .u64 0) := cell_of_row _ _ _ _ _ _ hYe
  have n3 : w1.cell? ⟨w.heap.size + 1, 3, none⟩ = some (.string ⟨#[]⟩) := cell_of_row _ _ _ _ _ _ hYe
  have n4 : w1.cell? ⟨w.heap.size + 1, 4, none⟩ = some (.slice none 0 0) := cell_of_row _ _ _ _ _ _ hYe
  have n5 : w1.cell? ⟨w.heap.size + 1, 5, none⟩ = some (.slice none 0 0) := cell_of_row _ _ _ _ _ _ hYe
  have cz0 : w1.cell? ⟨Z, 0, none⟩ = some (.int .i64 kd) := cell_of_row _ _ _ _ _ _ hZe
  have cz1 : w1.cell? ⟨Z, 1, none⟩ = some (.int .i64 0) := cell_of_row _ _ _ _ _ _ hZe
  have cz2 : w1.cell? ⟨Z, 2, none⟩ = some (.int .u64 0) := cell_of_row _ _ _ _ _ _ hZe
  have cz3 : w1.cell? ⟨Z, 3, none⟩ = some (.string ⟨#[]⟩) := cell_of_row _ _ _ _ _ _ hZe
  have cz4 : w1.cell? ⟨Z, 4, none⟩ = some (.slice none 0 0) := cell_of_row _ _ _ _ _ _ hZe
  have cz5 : w1.cell? ⟨Z, 5, none⟩ = some (.slice none 0 0) := cell_of_row _ _ _ _ _ _ hZe
  have hfz := fun (j : Nat) => frozen_of_row _ _ j _ _ hYe
  have gYe := (Array.getElem?_eq_some_iff.1 hYe).1
  have gZe := (Array.getElem?_eq_some_iff.1 hZe).1
  have hKY := hv1.still (touch6 (.int .i64 kd) (.int .i64 0) (.int .u64 0) (.string ⟨#[]⟩) (.slice none 0 0) (.slice none 0 0)) (by simp; omega : lk ∉ [w.heap.size + 1]) (by simp; omega : b ∉ [w.heap.size + 1])
  have hBy : Tch w.heap.size [lk] w w1 := (htw.trans ht1).tch (Nat.le_refl _)
  clear hYe hZe hXx hYx hZx htw ht1 hKx hHN hdg
  go_wp2_with fail
  refine bodyPost_ret (v := .agg #[.int .i64 kd, .int .i64 0, .int .u64 0, .string ⟨#[]⟩, .slice none 0 0, .slice none 0 0]) (by simp [results, Tryz.results48, go_sem, *]) rfl ?_
  exact ⟨kd, 0, 0, ⟨#[]⟩, none, 0, 0, none, 0, 0, _, rfl, H_he.out, hKY, Tch.touch (by (repeat' first | (with_reducible first | exact Tch.refl _ _ _ | assumption | refine Tch.alloc ?_ ?_ _ | refine Tch.drew ?_ | refine Tch.drewN ?_ _ | refine Tch.setCell ?_ ?_ _ | refine Tch.setBlock ?_ (by simp) _ | refine tch_call (by assumption) ?_ ?_ | refine tch_below (by assumption) ?_ ?_ | exact zb6 _) | omega | (simp only [zsz, size_setBlock]; omega) | (simp; omega)))⟩
end
end
end Go.Proofs.YtmpflnlajakibaaGreat
