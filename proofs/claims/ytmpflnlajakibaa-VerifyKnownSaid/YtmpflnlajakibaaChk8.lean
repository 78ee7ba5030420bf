/- The reference's check: the keys' loop. -/
import Derived.Test.YtmpflnlajakibaaChk5
import Derived.Test.YtmpflnlajakibaaVer14
namespace Go.Proofs.Ytmpflnlajakibaa
set_option linter.unusedVariables false
set_option linter.unusedSimpArgs false
set_option linter.unusedSectionVars false
open Go.RowKit
/-- keys' result out of that of its loop. -/
def kUp (a k : Int) (r : VR Unit) : RX := match r with
  | .error x => .error x
  | .ok (S, _) => .ok { S with L := ((-1, a, k), 1) :: S.L }
def HypRAt (b o n cap : Nat) (D : List UInt8) (f k kw j P : Int) : Prop := ∀ W, Doc W b o n cap D → Calls Try.prog 96 #[.slice (some ⟨b, o, none⟩) n cap, .agg #[.int .i64 f, .int .i64 k, .int .i64 14, .int .i64 kw], .int .i64 j] W fun en w' =>
      en = .returned (.tuple #[.agg #[.int .i64 P, .int .i64 kw, .int .i64 4, .int .i64 kw], .int .i64 0]) ∧ Below W.heap.size W w'
def rk3 (D : List UInt8) (bud P Q T W a lim : Int) (S : VS) : RX := keyU D bud P Q W a (tgtU D P Q T W lim (stepU bud 1 P (.ok S)))
theorem tell_err (c : Prop) [Decidable c] (a e : Int) (x : Int × Int × Int) : (if c then tellU a e (.error x) else .error x : RX) = .error x := by split <;> rfl
theorem keysStep_U (D : List UInt8) (bud p q k : Int) (next : Int → List UInt8 → VS → VR Unit) (i : Int) (last : List UInt8) (S : VS) :
    keysStep D bud p q k next i last S = match (if 0 < i ∧ lessB last (findS D (latP D p q 14 k i) (latQ D p q 14 k i) 4 (latW D p q 14 k i) true) = false
        then tellU (latP D p q 14 k i) 215 (rk3 D bud (latP D p q 14 k i) (latQ D p q 14 k i) (latT D p q 14 k i) (latW D p q 14 k i) (latP D p q 14 k i - loadV D (latP D p q 14 k i) (latQ D p q 14 k i)) (lFrom D p q 14 k) S)
        else rk3 D bud (latP D p q 14 k i) (latQ D p q 14 k i) (latT D p q 14 k i) (latW D p q 14 k i) (latP D p q 14 k i - loadV D (latP D p q 14 k i) (latQ D p q 14 k i)) (lFrom D p q 14 k) S) with
      | .error x => .error x
      | .ok S3 => next (i + 1) (findS D (latP D p q 14 k i) (latQ D p q 14 k i) 4 (latW D p q 14 k i) true) S3 := by
  unfold keysStep stepM targetM rk3 stepU
  generalize latP D p q 14 k i = P
  generalize latQ D p q 14 k i = Q
  generalize latT D p q 14 k i = T
  generalize latW D p q 14 k i = W
  by_cases h1 : S.s + 1 ≤ bud
  · simp only [h1, if_true]
    by_cases h2 : tgtB D P Q T W (lFrom D p q 14 k) = true
    · simp only [h2, if_true, tgtU]
      cases hk : keyM D bud P Q W (P - loadV D P Q) { S with s := S.s + 1 } with
      | error x =>
        simp only [keyU, hk, tell_err]
      | ok y =>
        obtain ⟨S3, s⟩ := y
        have hs := keyM_val hk
        subst hs
        simp only [keyU, hk]
        by_cases h3 : 0 < i ∧ lessB last (findS D P Q 4 W true) = false
        · simp only [h3, and_self, if_true, tellU]
        · simp only [h3, if_false]
    · have h2' : tgtB D P Q T W (lFrom D p q 14 k) = false := by simpa using h2
      simp only [h2', Bool.false_eq_true, if_false, tgtU, keyU, tell_err]
  · simp only [h1, if_false, tgtU, keyU, tell_err]
theorem rk3_L {D : List UInt8} {bud P Q T W a lim : Int} {S S3 : VS} (h : rk3 D bud P Q T W a lim S = .ok S3) : S3.L = S.L := by
  unfold rk3 stepU at h
  by_cases h1 : S.s + 1 ≤ bud
  · simp only [h1, if_true, tgtU] at h
    by_cases h2 : tgtB D P Q T W lim = true
    · simp only [h2, if_true] at h
      cases hk : keyM D bud P Q W a { S with s := S.s + 1 } with
      | error x => simp only [keyU, hk] at h; cases h
      | ok y =>
        simp only [keyU, hk] at h
        injection h with h
        subst h
        exact (keyM_L (S := { S with s := S.s + 1 }) (S' := y.1) (s := y.2) (by rw [hk]))
    · have h2' : tgtB D P Q T W lim = false := by simpa using h2
      simp only [h2', Bool.false_eq_true, if_false, keyU] at h
      cases h
  · simp only [h1, if_false, tgtU, keyU] at h
    cases h
theorem rk3_a {D : List UInt8} {bud P Q T W a lim x : Int} {S : VS} (h : eOf (tgtU D P Q T W lim (stepU bud 1 P (.ok S))) = 0 → x = a) (h0 : ∀ s a' e, tgtU D P Q T W lim (stepU bud 1 P (.ok S)) = .error (s, a', e) → e ≠ 0) :
    keyU D bud P Q W x (tgtU D P Q T W lim (stepU bud 1 P (.ok S))) = rk3 D bud P Q T W a lim S := by
  unfold rk3
  cases hr : tgtU D P Q T W lim (stepU bud 1 P (.ok S)) with
  | error y => rfl
  | ok S' => rw [hr] at h; rw [h rfl]
section
variable {K : Nat → Prop} {w w' : World} {lk b o n cap : Nat} {D : List UInt8} {dp bud : Int} {S : VS}
set_option maxHeartbeats 16000000 in
set_option maxRecDepth 100000 in
theorem rkeys_e (h : ROk K w lk b o n cap D dp bud S) (hl : (S.L.length : Int) ≤ 4294967296) (p q k f m : Int) (hk : wideB k = true) (h0 : 0 ≤ f) (h1 : f + 3 * k ≤ n) (hv : ¬ f < loadV D f k) (hw : wideB (kwOf D k f) = true) (ht : tgtB D f k 14 (kwOf D k f) f = true) (he : lfindE D f k 14 (kwOf D k f) = 0) (hc : lCnt D f k 14 (kwOf D k f) = m) (hkn : vknown S.L (-1, f - loadV D f k, kwOf D k f) = none)
    (rl : VR Unit) (hrl : keysLoop D bud f k (kwOf D k f) m.toNat 0 [] S = rl) :
    Calls Try.prog 95 #[.pointer (some ⟨lk, 0, none⟩), .agg #[.int .i64 p, .int .i64 q, .int .i64 9, .int .i64 k], .int .i64 f, .int .i64 m] w fun en w' => en = .returned (.tuple #[]) ∧ RV K w' lk b o n cap D dp bud (kUp (f - loadV D f k) (kwOf D k f) rl) ∧ RKept K w w' := by
  have HT := Lib.hid ht
  have HE := Lib.hid he
  have HC := Lib.hid hc
  have HN0 := Lib.hid hkn
  have HN : (vknown S.L (-1, f - loadV D f k, kwOf D k f)).getD 0 = 0 := by rw [hkn]; rfl
  have HN := Lib.hid HN
  have HL := Lib.hid hrl
  have hm0 : 0 ≤ m := hc ▸ (lfindE_zero he).2.2.2.2.2.1
  have hm1 : m ≤ 1073741824 := by
    have h5 := (lfindE_zero he).2.2.2.2.2.2.1
    rw [hc, h.doc.len] at h5
    have := h.doc.sm
    omega
  clear ht he hc hkn hrl
  have n3 : decide (f < loadV D f k) = false := by simpa using hv
  obtain ⟨hkw, hkw8⟩ := kwOf_wide hw
  have n8 : decide (8 < loadV D (f + k) k) = false := by simp; omega
  have cv : IntKind.i64.wrap (loadV D (f + k) k) = loadV D (f + k) k := IntWalk.i64_in _ (by have := loadV_nonneg D (f + k) k; omega)
  have hwb := wideB_bd hw
  have HW := Lib.hid hw
  have hmay : mayE n f k 14 (kwOf D k f) = 0 := by
    have hi : insideB n f k = true := by simp only [insideB, Bool.and_eq_true, decide_eq_true_eq]; have := wideB_bd hk; omega
    unfold mayE
    rw [show legalB 14 = true from rfl, hk, hw, hi]; rfl
  have HM := Lib.hid hmay
  have HB := Lib.hid h.kb
  rw [hkw] at hw
  clear hmay
  have hK := h.hK
  have hlk := h.lkt
  have hD := h.doc
  obtain ⟨hn1, hn2⟩ := hD.bd
  have hkb := wideB_bd hk
  have v0 := loadV_nonneg D f k
  have u0 := loadV_nonneg D (f + k) k
  have HK := Lib.hid hk
  have cf : IntKind.u64.wrap f = f := IntWalk.u64_in _ (by omega)
  have cfk : IntKind.i64.wrap (f + k) = f + k := IntWalk.i64_in _ (by omega)
  clear hk
  go_enter Try.func95, Try.ntmps95
  go_upto_region 1 with fail
  refine wp_named (fun wn => ROk (fun i => K i ∨ i = w.heap.size) wn lk b o n cap D dp bud S ∧ RKept K w wn ∧ w.heap.size < wn.heap.size ∧ CL wn w.heap.size p q 9 k) ⟨h.enter (by (repeat' first | (with_reducible first | exact zb0 _ _ | assumption | refine zb1 ?_ ?_ _ | refine zb2 ?_ | refine zb3 ?_ _ | refine zb4 ?_ ?_ _ | refine zb5 (by assumption) ?_ ?_ | exact zb6 _) | omega | (simp <;> omega))) (fun i hi => by subst hi; simp), by (repeat' first | (with_reducible first | exact zr0 _ _ | assumption | refine zr1 hK ?_ ?_ _ | refine zr2 ?_ | refine zr3 hK ?_ _ | refine zr4 hK ?_ ?_ _ | refine zr5 (by assumption) ?_ | refine zr6 (by assumption) ?_ | refine zr7 hK (by assumption) ?_ ?_ | exact zb6 _) | omega | (simp <;> omega)), by simp, by go_simp, by go_simp, by go_simp, by go_simp⟩ ?_
  rintro wn ⟨hvn, hkn, hX, z0, z1, z2, z3⟩
  have z4 := hvn.c0
  have gln := hvn.lkt
  have hDn := hvn.doc
  go_region_held3 (fun w' => w'.cell? ⟨w.heap.size, 0, none⟩ = some (.int .i64 p) ∧ w'.cell? ⟨w.heap.size, 1, none⟩ = some (.int .i64 q) ∧ w'.cell? ⟨w.heap.size, 2, none⟩ = some (.int .i64 9) ∧ w'.cell? ⟨w.heap.size, 3, none⟩ = some (.int .i64 k) ∧ w'.cell? ⟨lk, 0, none⟩ = some (.slice (some ⟨b, o, none⟩) n cap)) (first | (with_reducible exact ⟨z0, z1, z2, z3, z4⟩) | (refine ⟨?_, ?_, ?_, ?_, ?_⟩ <;> go_keep)) (((go_at_call 87; refine (rload_any _ _ _ _ D f k _ (hDn.below (by (repeat' first | (with_reducible first | exact zb0 _ _ | assumption | refine zb1 ?_ ?_ _ | refine zb2 ?_ | refine zb3 ?_ _ | refine zb4 ?_ ?_ _ | refine zb5 (by assumption) ?_ ?_ | exact zb6 _) | omega | (simp <;> omega))))).mono ?_; rintro e w1 ⟨rfl, rfl⟩)))
  go_upto_region 4 with fail
  go_region_held3 (fun w' => w'.cell? ⟨w.heap.size, 0, none⟩ = some (.int .i64 p) ∧ w'.cell? ⟨w.heap.size, 1, none⟩ = some (.int .i64 q) ∧ w'.cell? ⟨w.heap.size, 2, none⟩ = some (.int .i64 9) ∧ w'.cell? ⟨w.heap.size, 3, none⟩ = some (.int .i64 k) ∧ w'.cell? ⟨lk, 0, none⟩ = some (.slice (some ⟨b, o, none⟩) n cap)) (first | (with_reducible exact ⟨z0, z1, z2, z3, z4⟩) | (refine ⟨?_, ?_, ?_, ?_, ?_⟩ <;> go_keep)) (((go_at_call 87; refine (rload_any _ _ _ _ D (f + k) k _ (hDn.below (by (repeat' first | (with_reducible first | exact zb0 _ _ | assumption | refine zb1 ?_ ?_ _ | refine zb2 ?_ | refine zb3 ?_ _ | refine zb4 ?_ ?_ _ | refine zb5 (by assumption) ?_ ?_ | exact zb6 _) | omega | (simp <;> omega))))).mono ?_; rintro e w1 ⟨rfl, rfl⟩)))
  go_upto_region 8 with (go_at_call 49; refine (rwide_any _ _).mono ?_; rintro e w1 ⟨rfl, rfl⟩)
  refine wp_named (fun wx => ROk (fun i => K i ∨ i = wn.heap.size) wx lk b o n cap D dp bud S ∧ RKept K w wx ∧ wn.heap.size < wx.heap.size ∧ CL wx wn.heap.size f k 14 (kwOf D k f)) ⟨(hvn.less HB.out).enter (by (repeat' first | (with_reducible first | exact zb0 _ _ | assumption | refine zb1 ?_ ?_ _ | refine zb2 ?_ | refine zb3 ?_ _ | refine zb4 ?_ ?_ _ | refine zb5 (by assumption) ?_ ?_ | exact zb6 _) | omega | (simp <;> omega))) (fun i hi => by subst hi; simp), by (repeat' first | (with_reducible first | exact zr0 _ _ | assumption | refine zr1 hK ?_ ?_ _ | refine zr2 ?_ | refine zr3 hK ?_ _ | refine zr4 hK ?_ ?_ _ | refine zr5 (by assumption) ?_ | refine zr6 (by assumption) ?_ | refine zr7 hK (by assumption) ?_ ?_ | exact zb6 _) | omega | (simp <;> omega)), by (first | omega | (simp; omega) | simp), by go_simp, by go_simp, by go_simp, by rw [hkw]; go_simp⟩ ?_
  have hXn : w.heap.size ≤ wn.heap.size := by omega
  clear z0 z1 z2 z3 z4 hvn hkn hX hDn n3 n8 cv hkw hkw8 hw
  generalize wn.heap.size = X at *
  rintro wx ⟨hvx, hkx, hX, z0, z1, z2, z3⟩
  have z4 := hvx.c0
  have z7 := hvx.c7
  have hDx := hvx.doc
  go_upto_region 10 with (go_at_call 54; refine (rtgtOk (hvx.keep (by (repeat' first | (with_reducible first | exact zb0 _ _ | assumption | refine zb1 ?_ ?_ _ | refine zb2 ?_ | refine zb3 ?_ _ | refine zb4 ?_ ?_ _ | refine zb5 (by assumption) ?_ ?_ | exact zb6 _) | omega | (simp <;> omega)))) f k 14 (kwOf D k f) f HM.out rfl HT.out).mono ?_; rintro en w2 ⟨rfl, hv2, hk2⟩; have y7 := hv2.c7; have a0 := hk2.cell (x := X) (.inr rfl); have hz2 := hk2.size)
  refine wp_named (fun wy => ROk (fun i => K i ∨ i = X) wy lk b o n cap D dp bud S ∧ RKept K w wy ∧ X < wy.heap.size ∧ CL wy X f k 14 (kwOf D k f)) ⟨hv2.keep (by (repeat' first | (with_reducible first | exact zb0 _ _ | assumption | refine zb1 ?_ ?_ _ | refine zb2 ?_ | refine zb3 ?_ _ | refine zb4 ?_ ?_ _ | refine zb5 (by assumption) ?_ ?_ | exact zb6 _) | omega | (simp <;> omega))), by (repeat' first | (with_reducible first | exact zr0 _ _ | assumption | refine zr1 hK ?_ ?_ _ | refine zr2 ?_ | refine zr3 hK ?_ _ | refine zr4 hK ?_ ?_ _ | refine zr5 (by assumption) ?_ | refine zr6 (by assumption) ?_ | refine zr7 hK (by assumption) ?_ ?_ | exact zb6 _) | omega | (simp <;> omega)), by (first | omega | (simp at hz2 ⊢; omega)), by go_simp, by go_simp, by go_simp, by go_simp⟩ ?_
  clear z0 z1 z2 z3 z4 z7 hvx hkx hX hDx y7 a0 hz2 hv2 hk2
  rintro wy ⟨hvy, hky, hX, z0, z1, z2, z3⟩
  have z4 := hvy.c0
  have hDy := hvy.doc
  have gly := hvy.lkt
  go_region_held3 (fun w' => w'.cell? ⟨X, 0, none⟩ = some (.int .i64 f) ∧ w'.cell? ⟨X, 1, none⟩ = some (.int .i64 k) ∧ w'.cell? ⟨X, 2, none⟩ = some (.int .i64 14) ∧ w'.cell? ⟨X, 3, none⟩ = some (.int .i64 (kwOf D k f)) ∧ w'.cell? ⟨lk, 0, none⟩ = some (.slice (some ⟨b, o, none⟩) n cap)) (first | (with_reducible exact ⟨z0, z1, z2, z3, z4⟩) | (refine ⟨?_, ?_, ?_, ?_, ?_⟩ <;> go_keep)) (((go_at_call 93; refine (rSpan_any _ _ _ _ D f k 14 (kwOf D k f) _ (hDy.below (by (repeat' first | (with_reducible first | exact zb0 _ _ | assumption | refine zb1 ?_ ?_ _ | refine zb2 ?_ | refine zb3 ?_ _ | refine zb4 ?_ ?_ _ | refine zb5 (by assumption) ?_ ?_ | exact zb6 _) | omega | (simp <;> omega))))).mono ?_; rintro e w1 ⟨rfl, hb1⟩; obtain ⟨hc1, hf1, hl1⟩ := bcell hb1; (try simp only [zdz] at hc1 hf1 hl1); have hz1 := hb1.size; (try simp only [zsz] at hz1); (try have g0 : w.heap.size < w1.heap.size := by omega); (try have g1 : w.heap.size + 1 < w1.heap.size := by omega); (try have gl : lk < w1.heap.size := by omega)); (have gX : X < w1.heap.size := by omega); (have gl9 : lk < w1.heap.size := by omega)))
  have he' : (lfindE D f k 14 (kwOf D k f) != 0) = false := by simpa using HE.out
  go_upto_region 13 with fail
  have glA := hvy.lkt
  refine wp_named (fun wz => ROk (fun i => K i ∨ i = X) wz lk b o n cap D dp bud S ∧ RKept K w wz ∧ X < wz.heap.size ∧ CL wz X f k 14 (kwOf D k f)) ⟨hvy.keep (by (repeat' first | (with_reducible first | exact zb0 _ _ | assumption | refine zb1 ?_ ?_ _ | refine zb2 ?_ | refine zb3 ?_ _ | refine zb4 ?_ ?_ _ | refine zb5 (by assumption) ?_ ?_ | exact zb6 _) | omega | (simp <;> omega))), by have hBy := hky.size; (repeat' first | (with_reducible first | exact zr0 _ _ | assumption | refine zr1 hK ?_ ?_ _ | refine zr2 ?_ | refine zr3 hK ?_ _ | refine zr4 hK ?_ ?_ _ | refine zr5 (by assumption) ?_ | refine zr6 (by assumption) ?_ | refine zr7 hK (by assumption) ?_ ?_ | exact zb6 _) | omega | (simp <;> omega)), by (first | omega | (simp; omega)), by go_simp, by go_simp, by go_simp, by go_simp⟩ ?_
  clear z0 z1 z2 z3 z4 hvy hky hDy gly glA hX gX gl9
  rintro wz ⟨hv1, hk1, hX, e0, e1, e2, e3⟩
  have e4 := hv1.c0
  have hD1 := hv1.doc
  have gl1 := hv1.lkt
  go_region_held3 (fun w' => w'.cell? ⟨X, 0, none⟩ = some (.int .i64 f) ∧ w'.cell? ⟨X, 1, none⟩ = some (.int .i64 k) ∧ w'.cell? ⟨X, 2, none⟩ = some (.int .i64 14) ∧ w'.cell? ⟨X, 3, none⟩ = some (.int .i64 (kwOf D k f)) ∧ w'.cell? ⟨lk, 0, none⟩ = some (.slice (some ⟨b, o, none⟩) n cap)) (first | (with_reducible exact ⟨e0, e1, e2, e3, e4⟩) | (refine ⟨?_, ?_, ?_, ?_, ?_⟩ <;> go_keep)) (((go_at_call 94; refine (rLen_any _ _ _ _ D f k 14 (kwOf D k f) _ (hD1.below (by (repeat' first | (with_reducible first | exact zb0 _ _ | assumption | refine zb1 ?_ ?_ _ | refine zb2 ?_ | refine zb3 ?_ _ | refine zb4 ?_ ?_ _ | refine zb5 (by assumption) ?_ ?_ | exact zb6 _) | omega | (simp <;> omega))))).mono ?_; rintro e w1 ⟨rfl, hb1⟩; obtain ⟨hc1, hf1, hl1⟩ := bcell hb1; (try simp only [zdz] at hc1 hf1 hl1); have hz1 := hb1.size; (try simp only [zsz] at hz1); (try have g0 : w.heap.size < w1.heap.size := by omega); (try have g1 : w.heap.size + 1 < w1.heap.size := by omega); (try have gl : lk < w1.heap.size := by omega)); (have gX : X < w1.heap.size := by omega); (have gl9 : lk < w1.heap.size := by omega)))
  have hc' : (lCnt D f k 14 (kwOf D k f) != m) = false := by simpa using HC.out
  go_upto_region 19 with (go_at_call 55; refine (uknown (hv1.keep (by (repeat' first | (with_reducible first | exact zb0 _ _ | assumption | refine zb1 ?_ ?_ _ | refine zb2 ?_ | refine zb3 ?_ _ | refine zb4 ?_ ?_ _ | refine zb5 (by assumption) ?_ ?_ | exact zb6 _) | omega | (simp <;> omega)))) hl (-1) (f - loadV D f k) (kwOf D k f)).mono ?_; rw [HN.out]; rintro en w2 ⟨rfl, rfl⟩)
  refine wp_named (fun wr => ROk (fun i => K i ∨ i = X) wr lk b o n cap D dp bud S ∧ RKept K w wr ∧ X < wr.heap.size ∧ CL wr X f k 14 (kwOf D k f)) ⟨hv1.keep (by (repeat' first | (with_reducible first | exact zb0 _ _ | assumption | refine zb1 ?_ ?_ _ | refine zb2 ?_ | refine zb3 ?_ _ | refine zb4 ?_ ?_ _ | refine zb5 (by assumption) ?_ ?_ | exact zb6 _) | omega | (simp <;> omega))), by (repeat' first | (with_reducible first | exact zr0 _ _ | assumption | refine zr1 hK ?_ ?_ _ | refine zr2 ?_ | refine zr3 hK ?_ _ | refine zr4 hK ?_ ?_ _ | refine zr5 (by assumption) ?_ | refine zr6 (by assumption) ?_ | refine zr7 hK (by assumption) ?_ ?_ | exact zb6 _) | omega | (simp <;> omega)), by (first | omega | (simp; omega)), by go_simp, by go_simp, by go_simp, by go_simp⟩ ?_
  clear e0 e1 e2 e3 e4 hv1 hk1 hD1 gX gl9
  rintro wy ⟨hvy, hky, hX, z0, z1, z2, z3⟩
  go_loopw [20, 21] (fun x i wr => ∃ (j : Nat) (last : List UInt8) (S2 : VS), (j : Int) ≤ m ∧ i = .int .i64 j ∧ x = .string ⟨last.toArray⟩ ∧ last.length ≤ 1073741824 ∧ ROk (fun i => K i ∨ i = X) wr lk b o n cap D dp bud S2 ∧ RKept K w wr ∧ X < wr.heap.size ∧ wr.cell? ⟨X, 0, none⟩ = some (.int .i64 f) ∧ wr.cell? ⟨X, 1, none⟩ = some (.int .i64 k) ∧ wr.cell? ⟨X, 2, none⟩ = some (.int .i64 14) ∧ wr.cell? ⟨X, 3, none⟩ = some (.int .i64 (kwOf D k f)) ∧ S2.L = S.L ∧ keysLoop D bud f k (kwOf D k f) (m.toNat - j) j last S2 = rl) (fun _ i _ => m.toNat - (intOf i).toNat)
  case atStart => exact ⟨0, [], S, by omega, rfl, rfl, by simp, hvy.keep (by (repeat' first | (with_reducible first | exact zb0 _ _ | assumption | refine zb1 ?_ ?_ _ | refine zb2 ?_ | refine zb3 ?_ _ | refine zb4 ?_ ?_ _ | refine zb5 (by assumption) ?_ ?_ | exact zb6 _) | omega | (simp <;> omega))), by (repeat' first | (with_reducible first | exact zr0 _ _ | assumption | refine zr1 hK ?_ ?_ _ | refine zr2 ?_ | refine zr3 hK ?_ _ | refine zr4 hK ?_ ?_ _ | refine zr5 (by assumption) ?_ | refine zr6 (by assumption) ?_ | refine zr7 hK (by assumption) ?_ ?_ | exact zb6 _) | omega | (simp <;> omega)), by (first | omega | (simp; omega)), by go_simp, by go_simp, by go_simp, by go_simp, rfl, HL.out⟩
  case round =>
    rename_i wr hK0
    clear z0 z1 z2 z3 hvy hky hX
    obtain ⟨j, last, S2, hj, rfl, rfl, hll, hvr, hkr, hX, z0, z1, z2, z3, hSL, hkl⟩ := hrel
    have z4 := hvr.c0
    have hDr := hvr.doc
    have glr := hvr.lkt
    have hBr : w.heap.size ≤ wr.heap.size := hkr.size
    have n0 := World.new_ne _ _ z0
    have n4 := World.new_ne _ _ z4
    by_cases hlt : (j : Int) < m
    · obtain ⟨r', hr'⟩ : ∃ r', m.toNat - j = r' + 1 := ⟨m.toNat - j - 1, by omega⟩
      have hr2 : m.toNat - (j + 1) = r' := by omega
      have hcm := HC.out
      obtain ⟨eE, eP, eQ, eT, eW⟩ := lat14_eq (i := (j : Int)) HE.out (by omega) (by omega)
      have hmay := (lat_may eE).1
      have HA : HypRAt b o n cap D f k (kwOf D k f) j (lAt D f k 14 (kwOf D k f) + j * (kwOf D k f)) := fun W hW => by
        have hx := rAt_any b o n cap D f k 14 (kwOf D k f) j W hW
        unfold latV at hx
        rw [eE, eP, eQ, eT, eW] at hx; exact hx
      rw [hr', keysLoop, keysStep_U, eP, eQ, eT, eW] at hkl
      rw [eP, eQ, eT, eW, hD.len] at hmay
      generalize lAt D f k 14 (kwOf D k f) + j * (kwOf D k f) = P at hkl hmay HA
      have HMY := Lib.hid hmay
      have HKL := Lib.hid hkl
      clear hmay hkl eE eP eQ eT eW hr' hcm
      go_upto_region 21 with fail
      go_region_held3 (fun w' => w'.cell? ⟨X, 0, none⟩ = some (.int .i64 f) ∧ w'.cell? ⟨X, 1, none⟩ = some (.int .i64 k) ∧ w'.cell? ⟨X, 2, none⟩ = some (.int .i64 14) ∧ w'.cell? ⟨X, 3, none⟩ = some (.int .i64 (kwOf D k f)) ∧ w'.cell? ⟨lk, 0, none⟩ = some (.slice (some ⟨b, o, none⟩) n cap)) (first | (with_reducible exact ⟨z0, z1, z2, z3, z4⟩) | (refine ⟨?_, ?_, ?_, ?_, ?_⟩ <;> go_simp)) (((go_at_call 96; refine (HA _ (hDr.below (by (repeat' first | (with_reducible first | exact zb0 _ _ | assumption | refine zb1 ?_ ?_ _ | refine zb2 ?_ | refine zb3 ?_ _ | refine zb4 ?_ ?_ _ | refine zb5 (by assumption) ?_ ?_ | exact zb6 _) | omega | (simp <;> omega))))).mono ?_; rintro e w1 ⟨rfl, hb1⟩; obtain ⟨hc1, hf1, hl1⟩ := bcell hb1; (try simp only [zdz] at hc1 hf1 hl1); have hz1 := hb1.size; (try simp only [zsz] at hz1); (try have g0 : w.heap.size < w1.heap.size := by omega); (try have g1 : w.heap.size + 1 < w1.heap.size := by omega); (try have gl : lk < w1.heap.size := by omega)); (have gX : X < w1.heap.size := by omega); (have gl9 : lk < w1.heap.size := by omega)))
      all_goals go_upto_region 22 with fail
      · refine wp_named (fun wv => ROk (fun i => (K i ∨ i = X) ∨ i = w1.heap.size) wv lk b o n cap D dp bud S2 ∧ RKept K w wv ∧ X < wv.heap.size ∧ w1.heap.size < wv.heap.size ∧ wv.cell? ⟨X, 0, none⟩ = some (.int .i64 f) ∧ wv.cell? ⟨X, 1, none⟩ = some (.int .i64 k) ∧ wv.cell? ⟨X, 2, none⟩ = some (.int .i64 14) ∧ wv.cell? ⟨X, 3, none⟩ = some (.int .i64 (kwOf D k f)) ∧ CL wv w1.heap.size P (kwOf D k f) 4 (kwOf D k f)) ⟨(hvr.keep (W := w1) (by (repeat' first | (with_reducible first | exact zb0 _ _ | assumption | refine zb1 ?_ ?_ _ | refine zb2 ?_ | refine zb3 ?_ _ | refine zb4 ?_ ?_ _ | refine zb5 (by assumption) ?_ ?_ | exact zb6 _) | omega | (simp <;> omega)))).enter (by (repeat' first | (with_reducible first | exact zb0 _ _ | assumption | refine zb1 ?_ ?_ _ | refine zb2 ?_ | refine zb3 ?_ _ | refine zb4 ?_ ?_ _ | refine zb5 (by assumption) ?_ ?_ | exact zb6 _) | omega | (simp <;> omega))) (fun i hi => by subst hi; simp), by (repeat' first | (with_reducible first | exact zr0 _ _ | assumption | refine zr1 hK ?_ ?_ _ | refine zr2 ?_ | refine zr3 hK ?_ _ | refine zr4 hK ?_ ?_ _ | refine zr5 (by assumption) ?_ | refine zr6 (by assumption) ?_ | refine zr7 hK (by assumption) ?_ ?_ | exact zb6 _) | omega | (simp <;> omega)), by (first | omega | (simp; omega)), by simp, by go_simp, by go_simp, by go_simp, by go_simp, by go_simp, by go_simp, by go_simp, by go_simp⟩ ?_
        generalize w1.heap.size = G
        clear z0 z1 z2 z3 z4 hvr hkr hX hDr glr hBr n0 n4
        rintro wv ⟨hvv, hkv, hXv, hGv, z0, z1, z2, z3, y0, y1, y2, y3⟩
        go_upto_region 25 with (first | (go_at_call 51; refine (usteps (r := .ok S2) (show RV _ _ lk b o n cap D dp bud (.ok S2) from hvv) 1 P (by omega)).mono ?_; rintro en w3 ⟨rfl, hv3, hk3⟩; have a0 := hk3.cell (x := G) (.inr rfl); have aa0 := hk3.cell (x := X) (.inl (.inr rfl)); have hz3 := hk3.size; have hm3 := hk3.mono (K := K) (fun i hi => Or.inl (Or.inl hi))) | (go_at_call 54; refine (utarget hv3 P (kwOf D k f) 4 (kwOf D k f) (lFrom D f k 14 (kwOf D k f)) HMY.out rfl).mono ?_; rintro en w4 ⟨⟨tg, rfl, htg⟩, hv4, hk4⟩; have b0 := hk4.cell (x := G) (.inr rfl); have bb0 := hk4.cell (x := X) (.inl (.inr rfl)); have hz4 := hk4.size; have hm4 := hk4.mono (K := K) (fun i hi => Or.inl (Or.inl hi))) | (go_at_call 57; refine (ukey hv4 P (kwOf D k f) (kwOf D k f) tg).mono ?_; rintro en w5 ⟨⟨l, rfl, hll5, hlv⟩, hv5, hk5⟩; have d0 := hk5.cell (x := G) (.inr rfl); have dd0 := hk5.cell (x := X) (.inl (.inr rfl)); have hz5 := hk5.size; have hm5 := hk5.mono (K := K) (fun i hi => Or.inl (Or.inl hi))))
        have hr3 := rk3_a (a := P - loadV D P (kwOf D k f)) htg (fun s a' e hr => by have hx := hv4; rw [hr] at hx; exact hx.1)
        rw [hr3] at hv5 hlv
        refine wp_named (fun wq => RV (fun i => (K i ∨ i = X) ∨ i = G) wq lk b o n cap D dp bud (rk3 D bud P (kwOf D k f) 4 (kwOf D k f) (P - loadV D P (kwOf D k f)) (lFrom D f k 14 (kwOf D k f)) S2) ∧ RKept K w wq ∧ X < wq.heap.size ∧ G < wq.heap.size ∧ wq.cell? ⟨X, 0, none⟩ = some (.int .i64 f) ∧ wq.cell? ⟨X, 1, none⟩ = some (.int .i64 k) ∧ wq.cell? ⟨X, 2, none⟩ = some (.int .i64 14) ∧ wq.cell? ⟨X, 3, none⟩ = some (.int .i64 (kwOf D k f)) ∧ wq.cell? ⟨G, 0, none⟩ = some (.int .i64 P)) ⟨hv5.keep (by (repeat' first | (with_reducible first | exact zb0 _ _ | assumption | refine zb1 ?_ ?_ _ | refine zb2 ?_ | refine zb3 ?_ _ | refine zb4 ?_ ?_ _ | refine zb5 (by assumption) ?_ ?_ | exact zb6 _) | omega | (simp <;> omega))), ((hkv.trans hm3).trans hm4).trans hm5, by (first | omega | (simp at *; omega)), by (first | omega | (simp at *; omega)), by go_simp, by go_simp, by go_simp, by go_simp, by go_simp⟩ ?_
        clear hr3 hv3 hk3 hv4 hk4 hv5 hk5 htg hm3 hm4 hm5 z0 z1 z2 z3 y0 y1 y2 y3 hvv hkv hXv hGv
        clear a0 aa0 b0 bb0 d0 dd0 hz3 hz4 hz5
        rintro wq ⟨hvq, hkq, hXq, hGq, z0, z1, z2, z3, y0⟩
        have hSL3 : ∀ S3, rk3 D bud P (kwOf D k f) 4 (kwOf D k f) (P - loadV D P (kwOf D k f)) (lFrom D f k 14 (kwOf D k f)) S2 = .ok S3 → S3.L = S.L := fun S3 h3 => (rk3_L h3).trans hSL
        have HSL := Lib.hid hSL3
        clear hSL3 hSL
        generalize rk3 D bud P (kwOf D k f) 4 (kwOf D k f) (P - loadV D P (kwOf D k f)) (lFrom D f k 14 (kwOf D k f)) S2 = r3 at *
        have hBq : w.heap.size ≤ wq.heap.size := hkq.size
        have glq := hvq.lkt
        rcases r3 with ⟨s3, a3, e3⟩ | S3
        · have hkl := HKL.out
          rw [tell_err] at hkl
          simp only at hkl
          subst hkl
          have hvq : RNo (fun i => (K i ∨ i = X) ∨ i = G) wq lk b o n cap D dp s3 a3 e3 := hvq
          have z7 : wq.cell? ⟨lk, 7, none⟩ = some (.int .i64 e3) := hvq.c7
          have he3 : (e3 != 0) = true := by simpa using hvq.1
          by_cases hj0 : 0 < (j : Int)
          · cases hls : lessB last l with
            | false =>
              go_wp2_with (first | ((go_at_call 118; refine (rless_any last l hll hll5 _).mono ?_; rintro e w1 ⟨rfl, hb1⟩; obtain ⟨hc1, hf1, hl1⟩ := bcell hb1; (try simp only [zdz] at hc1 hf1 hl1); have hz1 := hb1.size; (try simp only [zsz] at hz1); (try have g0 : w.heap.size < w1.heap.size := by omega); (try have g1 : w.heap.size + 1 < w1.heap.size := by omega); (try have gl : lk < w1.heap.size := by omega)); (have gX : X < w1.heap.size := by omega)) | (go_at_call 52; refine (rtell_still (hvq.keep (by (repeat' first | (with_reducible first | exact zb0 _ _ | assumption | refine zb1 ?_ ?_ _ | refine zb2 ?_ | refine zb3 ?_ _ | refine zb4 ?_ ?_ _ | refine zb5 (by assumption) ?_ ?_ | exact zb6 _) | omega | (simp <;> omega)))) P 215).mono ?_; rintro en w6 ⟨rfl, hv6, hk6⟩; have y7 := hv6.c7; have hm6 := hk6.mono (K := K) (fun i hi => Or.inl (Or.inl hi))))
              go_returns
              exact ⟨rfl, (hv6.less (Or.inl HB.out)).less HB.out, by (repeat' first | (with_reducible first | exact zr0 _ _ | assumption | refine zr1 hK ?_ ?_ _ | refine zr2 ?_ | refine zr3 hK ?_ _ | refine zr4 hK ?_ ?_ _ | refine zr5 (by assumption) ?_ | refine zr6 (by assumption) ?_ | refine zr7 hK (by assumption) ?_ ?_ | exact zb6 _) | omega | (simp <;> omega))⟩
            | true =>
              go_wp2_with ((go_at_call 118; refine (rless_any last l hll hll5 _).mono ?_; rintro e w1 ⟨rfl, hb1⟩; obtain ⟨hc1, hf1, hl1⟩ := bcell hb1; (try simp only [zdz] at hc1 hf1 hl1); have hz1 := hb1.size; (try simp only [zsz] at hz1); (try have g0 : w.heap.size < w1.heap.size := by omega); (try have g1 : w.heap.size + 1 < w1.heap.size := by omega); (try have gl : lk < w1.heap.size := by omega)); (have gX : X < w1.heap.size := by omega))
              go_returns
              exact ⟨rfl, ((hvq.keep (by (repeat' first | (with_reducible first | exact zb0 _ _ | assumption | refine zb1 ?_ ?_ _ | refine zb2 ?_ | refine zb3 ?_ _ | refine zb4 ?_ ?_ _ | refine zb5 (by assumption) ?_ ?_ | exact zb6 _) | omega | (simp <;> omega)))).less (Or.inl HB.out)).less HB.out, by (repeat' first | (with_reducible first | exact zr0 _ _ | assumption | refine zr1 hK ?_ ?_ _ | refine zr2 ?_ | refine zr3 hK ?_ _ | refine zr4 hK ?_ ?_ _ | refine zr5 (by assumption) ?_ | refine zr6 (by assumption) ?_ | refine zr7 hK (by assumption) ?_ ?_ | exact zb6 _) | omega | (simp <;> omega))⟩
          · go_wp2_with fail
            go_returns
            exact ⟨rfl, ((hvq.keep (by (repeat' first | (with_reducible first | exact zb0 _ _ | assumption | refine zb1 ?_ ?_ _ | refine zb2 ?_ | refine zb3 ?_ _ | refine zb4 ?_ ?_ _ | refine zb5 (by assumption) ?_ ?_ | exact zb6 _) | omega | (simp <;> omega)))).less (Or.inl HB.out)).less HB.out, by (repeat' first | (with_reducible first | exact zr0 _ _ | assumption | refine zr1 hK ?_ ?_ _ | refine zr2 ?_ | refine zr3 hK ?_ _ | refine zr4 hK ?_ ?_ _ | refine zr5 (by assumption) ?_ | refine zr6 (by assumption) ?_ | refine zr7 hK (by assumption) ?_ ?_ | exact zb6 _) | omega | (simp <;> omega))⟩
        · have hle := hlv rfl
          have hkl := HKL.out
          rw [← hle] at hkl
          have hvq : ROk (fun i => (K i ∨ i = X) ∨ i = G) wq lk b o n cap D dp bud S3 := hvq
          have z7 : wq.cell? ⟨lk, 7, none⟩ = some (.int .i64 0) := hvq.c7
          clear hle
          by_cases hj0 : 0 < (j : Int)
          · cases hls : lessB last l with
            | false =>
              rw [if_pos ⟨hj0, hls⟩] at hkl
              simp only [tellU] at hkl
              subst hkl
              go_wp2_with (first | ((go_at_call 118; refine (rless_any last l hll hll5 _).mono ?_; rintro e w1 ⟨rfl, hb1⟩; obtain ⟨hc1, hf1, hl1⟩ := bcell hb1; (try simp only [zdz] at hc1 hf1 hl1); have hz1 := hb1.size; (try simp only [zsz] at hz1); (try have g0 : w.heap.size < w1.heap.size := by omega); (try have g1 : w.heap.size + 1 < w1.heap.size := by omega); (try have gl : lk < w1.heap.size := by omega)); (have gX : X < w1.heap.size := by omega)) | (go_at_call 52; refine (rtell_no (hvq.keep (by (repeat' first | (with_reducible first | exact zb0 _ _ | assumption | refine zb1 ?_ ?_ _ | refine zb2 ?_ | refine zb3 ?_ _ | refine zb4 ?_ ?_ _ | refine zb5 (by assumption) ?_ ?_ | exact zb6 _) | omega | (simp <;> omega)))) P 215 (by omega)).mono ?_; rintro en w6 ⟨rfl, hv6, hk6⟩; have y7 := hv6.c7; have hm6 := hk6.mono (K := K) (fun i hi => Or.inl (Or.inl hi))))
              go_returns
              exact ⟨rfl, (hv6.less (Or.inl HB.out)).less HB.out, by (repeat' first | (with_reducible first | exact zr0 _ _ | assumption | refine zr1 hK ?_ ?_ _ | refine zr2 ?_ | refine zr3 hK ?_ _ | refine zr4 hK ?_ ?_ _ | refine zr5 (by assumption) ?_ | refine zr6 (by assumption) ?_ | refine zr7 hK (by assumption) ?_ ?_ | exact zb6 _) | omega | (simp <;> omega))⟩
            | true =>
              rw [if_neg (by simp [hls])] at hkl
              simp only at hkl
              have HKN := Lib.hid hkl
              clear hkl
              go_wp2_with ((go_at_call 118; refine (rless_any last l hll hll5 _).mono ?_; rintro e w1 ⟨rfl, hb1⟩; obtain ⟨hc1, hf1, hl1⟩ := bcell hb1; (try simp only [zdz] at hc1 hf1 hl1); have hz1 := hb1.size; (try simp only [zsz] at hz1); (try have g0 : w.heap.size < w1.heap.size := by omega); (try have g1 : w.heap.size + 1 < w1.heap.size := by omega); (try have gl : lk < w1.heap.size := by omega)); (have gX : X < w1.heap.size := by omega))
              go_roundw
              case rel => exact ⟨j + 1, l, S3, by omega, by go_num, rfl, hll5, (hvq.keep (by (repeat' first | (with_reducible first | exact zb0 _ _ | assumption | refine zb1 ?_ ?_ _ | refine zb2 ?_ | refine zb3 ?_ _ | refine zb4 ?_ ?_ _ | refine zb5 (by assumption) ?_ ?_ | exact zb6 _) | omega | (simp <;> omega)))).less (Or.inl HB.out), by (repeat' first | (with_reducible first | exact zr0 _ _ | assumption | refine zr1 hK ?_ ?_ _ | refine zr2 ?_ | refine zr3 hK ?_ _ | refine zr4 hK ?_ ?_ _ | refine zr5 (by assumption) ?_ | refine zr6 (by assumption) ?_ | refine zr7 hK (by assumption) ?_ ?_ | exact zb6 _) | omega | (simp <;> omega)), by (first | omega | (simp; omega)), by go_simp, by go_simp, by go_simp, by go_simp, HSL.out S3 rfl, by rw [hr2]; exact HKN.out⟩
              case measure => simp only [intOf]; omega
          · rw [if_neg (by omega)] at hkl
            simp only at hkl
            have HKN := Lib.hid hkl
            clear hkl
            go_wp2_with fail
            go_roundw
            case rel => exact ⟨j + 1, l, S3, by omega, by go_num, rfl, hll5, (hvq.keep (by (repeat' first | (with_reducible first | exact zb0 _ _ | assumption | refine zb1 ?_ ?_ _ | refine zb2 ?_ | refine zb3 ?_ _ | refine zb4 ?_ ?_ _ | refine zb5 (by assumption) ?_ ?_ | exact zb6 _) | omega | (simp <;> omega)))).less (Or.inl HB.out), by (repeat' first | (with_reducible first | exact zr0 _ _ | assumption | refine zr1 hK ?_ ?_ _ | refine zr2 ?_ | refine zr3 hK ?_ _ | refine zr4 hK ?_ ?_ _ | refine zr5 (by assumption) ?_ | refine zr6 (by assumption) ?_ | refine zr7 hK (by assumption) ?_ ?_ | exact zb6 _) | omega | (simp <;> omega)), by (first | omega | (simp; omega)), by go_simp, by go_simp, by go_simp, by go_simp, HSL.out S3 rfl, by rw [hr2]; exact HKN.out⟩
            case measure => simp only [intOf]; omega
      · refine wp_named (fun wv => ROk (fun i => (K i ∨ i = X) ∨ i = wr.heap.size) wv lk b o n cap D dp bud S2 ∧ RKept K w wv ∧ X < wv.heap.size ∧ wr.heap.size < wv.heap.size ∧ wv.cell? ⟨X, 0, none⟩ = some (.int .i64 f) ∧ wv.cell? ⟨X, 1, none⟩ = some (.int .i64 k) ∧ wv.cell? ⟨X, 2, none⟩ = some (.int .i64 14) ∧ wv.cell? ⟨X, 3, none⟩ = some (.int .i64 (kwOf D k f)) ∧ CL wv wr.heap.size P (kwOf D k f) 4 (kwOf D k f)) ⟨hvr.enter (by (repeat' first | (with_reducible first | exact zb0 _ _ | assumption | refine zb1 ?_ ?_ _ | refine zb2 ?_ | refine zb3 ?_ _ | refine zb4 ?_ ?_ _ | refine zb5 (by assumption) ?_ ?_ | exact zb6 _) | omega | (simp <;> omega))) (fun i hi => by subst hi; exact ⟨by simp, by (first | omega | (simp; omega))⟩), by (repeat' first | (with_reducible first | exact zr0 _ _ | assumption | refine zr1 hK ?_ ?_ _ | refine zr2 ?_ | refine zr3 hK ?_ _ | refine zr4 hK ?_ ?_ _ | refine zr5 (by assumption) ?_ | refine zr6 (by assumption) ?_ | refine zr7 hK (by assumption) ?_ ?_ | exact zb6 _) | omega | (simp <;> omega)), by (first | omega | (simp; omega)), by (first | omega | (simp; omega)), by go_simp, by go_simp, by go_simp, by go_simp, by go_simp, by go_simp, by go_simp, by go_simp⟩ ?_
        generalize wr.heap.size = G at *
        clear z0 z1 z2 z3 z4 hvr hkr hX hDr glr hBr n0 n4
        rintro wv ⟨hvv, hkv, hXv, hGv, z0, z1, z2, z3, y0, y1, y2, y3⟩
        go_upto_region 25 with (first | (go_at_call 51; refine (usteps (r := .ok S2) (show RV _ _ lk b o n cap D dp bud (.ok S2) from hvv) 1 P (by omega)).mono ?_; rintro en w3 ⟨rfl, hv3, hk3⟩; have a0 := hk3.cell (x := G) (.inr rfl); have aa0 := hk3.cell (x := X) (.inl (.inr rfl)); have hz3 := hk3.size; have hm3 := hk3.mono (K := K) (fun i hi => Or.inl (Or.inl hi))) | (go_at_call 54; refine (utarget hv3 P (kwOf D k f) 4 (kwOf D k f) (lFrom D f k 14 (kwOf D k f)) HMY.out rfl).mono ?_; rintro en w4 ⟨⟨tg, rfl, htg⟩, hv4, hk4⟩; have b0 := hk4.cell (x := G) (.inr rfl); have bb0 := hk4.cell (x := X) (.inl (.inr rfl)); have hz4 := hk4.size; have hm4 := hk4.mono (K := K) (fun i hi => Or.inl (Or.inl hi))) | (go_at_call 57; refine (ukey hv4 P (kwOf D k f) (kwOf D k f) tg).mono ?_; rintro en w5 ⟨⟨l, rfl, hll5, hlv⟩, hv5, hk5⟩; have d0 := hk5.cell (x := G) (.inr rfl); have dd0 := hk5.cell (x := X) (.inl (.inr rfl)); have hz5 := hk5.size; have hm5 := hk5.mono (K := K) (fun i hi => Or.inl (Or.inl hi))))
        have hr3 := rk3_a (a := P - loadV D P (kwOf D k f)) htg (fun s a' e hr => by have hx := hv4; rw [hr] at hx; exact hx.1)
        rw [hr3] at hv5 hlv
        refine wp_named (fun wq => RV (fun i => (K i ∨ i = X) ∨ i = G) wq lk b o n cap D dp bud (rk3 D bud P (kwOf D k f) 4 (kwOf D k f) (P - loadV D P (kwOf D k f)) (lFrom D f k 14 (kwOf D k f)) S2) ∧ RKept K w wq ∧ X < wq.heap.size ∧ G < wq.heap.size ∧ wq.cell? ⟨X, 0, none⟩ = some (.int .i64 f) ∧ wq.cell? ⟨X, 1, none⟩ = some (.int .i64 k) ∧ wq.cell? ⟨X, 2, none⟩ = some (.int .i64 14) ∧ wq.cell? ⟨X, 3, none⟩ = some (.int .i64 (kwOf D k f)) ∧ wq.cell? ⟨G, 0, none⟩ = some (.int .i64 P)) ⟨hv5.keep (by (repeat' first | (with_reducible first | exact zb0 _ _ | assumption | refine zb1 ?_ ?_ _ | refine zb2 ?_ | refine zb3 ?_ _ | refine zb4 ?_ ?_ _ | refine zb5 (by assumption) ?_ ?_ | exact zb6 _) | omega | (simp <;> omega))), ((hkv.trans hm3).trans hm4).trans hm5, by (first | omega | (simp at *; omega)), by (first | omega | (simp at *; omega)), by go_simp, by go_simp, by go_simp, by go_simp, by go_simp⟩ ?_
        clear hr3 hv3 hk3 hv4 hk4 hv5 hk5 htg hm3 hm4 hm5 z0 z1 z2 z3 y0 y1 y2 y3 hvv hkv hXv hGv
        clear a0 aa0 b0 bb0 d0 dd0 hz3 hz4 hz5
        rintro wq ⟨hvq, hkq, hXq, hGq, z0, z1, z2, z3, y0⟩
        have hSL3 : ∀ S3, rk3 D bud P (kwOf D k f) 4 (kwOf D k f) (P - loadV D P (kwOf D k f)) (lFrom D f k 14 (kwOf D k f)) S2 = .ok S3 → S3.L = S.L := fun S3 h3 => (rk3_L h3).trans hSL
        have HSL := Lib.hid hSL3
        clear hSL3 hSL
        generalize rk3 D bud P (kwOf D k f) 4 (kwOf D k f) (P - loadV D P (kwOf D k f)) (lFrom D f k 14 (kwOf D k f)) S2 = r3 at *
        have hBq : w.heap.size ≤ wq.heap.size := hkq.size
        have glq := hvq.lkt
        rcases r3 with ⟨s3, a3, e3⟩ | S3
        · have hkl := HKL.out
          rw [tell_err] at hkl
          simp only at hkl
          subst hkl
          have hvq : RNo (fun i => (K i ∨ i = X) ∨ i = G) wq lk b o n cap D dp s3 a3 e3 := hvq
          have z7 : wq.cell? ⟨lk, 7, none⟩ = some (.int .i64 e3) := hvq.c7
          have he3 : (e3 != 0) = true := by simpa using hvq.1
          by_cases hj0 : 0 < (j : Int)
          · cases hls : lessB last l with
            | false =>
              go_wp2_with (first | ((go_at_call 118; refine (rless_any last l hll hll5 _).mono ?_; rintro e w1 ⟨rfl, hb1⟩; obtain ⟨hc1, hf1, hl1⟩ := bcell hb1; (try simp only [zdz] at hc1 hf1 hl1); have hz1 := hb1.size; (try simp only [zsz] at hz1); (try have g0 : w.heap.size < w1.heap.size := by omega); (try have g1 : w.heap.size + 1 < w1.heap.size := by omega); (try have gl : lk < w1.heap.size := by omega)); (have gX : X < w1.heap.size := by omega)) | (go_at_call 52; refine (rtell_still (hvq.keep (by (repeat' first | (with_reducible first | exact zb0 _ _ | assumption | refine zb1 ?_ ?_ _ | refine zb2 ?_ | refine zb3 ?_ _ | refine zb4 ?_ ?_ _ | refine zb5 (by assumption) ?_ ?_ | exact zb6 _) | omega | (simp <;> omega)))) P 215).mono ?_; rintro en w6 ⟨rfl, hv6, hk6⟩; have y7 := hv6.c7; have hm6 := hk6.mono (K := K) (fun i hi => Or.inl (Or.inl hi))))
              go_returns
              exact ⟨rfl, (hv6.less (Or.inl HB.out)).less HB.out, by (repeat' first | (with_reducible first | exact zr0 _ _ | assumption | refine zr1 hK ?_ ?_ _ | refine zr2 ?_ | refine zr3 hK ?_ _ | refine zr4 hK ?_ ?_ _ | refine zr5 (by assumption) ?_ | refine zr6 (by assumption) ?_ | refine zr7 hK (by assumption) ?_ ?_ | exact zb6 _) | omega | (simp <;> omega))⟩
            | true =>
              go_wp2_with ((go_at_call 118; refine (rless_any last l hll hll5 _).mono ?_; rintro e w1 ⟨rfl, hb1⟩; obtain ⟨hc1, hf1, hl1⟩ := bcell hb1; (try simp only [zdz] at hc1 hf1 hl1); have hz1 := hb1.size; (try simp only [zsz] at hz1); (try have g0 : w.heap.size < w1.heap.size := by omega); (try have g1 : w.heap.size + 1 < w1.heap.size := by omega); (try have gl : lk < w1.heap.size := by omega)); (have gX : X < w1.heap.size := by omega))
              go_returns
              exact ⟨rfl, ((hvq.keep (by (repeat' first | (with_reducible first | exact zb0 _ _ | assumption | refine zb1 ?_ ?_ _ | refine zb2 ?_ | refine zb3 ?_ _ | refine zb4 ?_ ?_ _ | refine zb5 (by assumption) ?_ ?_ | exact zb6 _) | omega | (simp <;> omega)))).less (Or.inl HB.out)).less HB.out, by (repeat' first | (with_reducible first | exact zr0 _ _ | assumption | refine zr1 hK ?_ ?_ _ | refine zr2 ?_ | refine zr3 hK ?_ _ | refine zr4 hK ?_ ?_ _ | refine zr5 (by assumption) ?_ | refine zr6 (by assumption) ?_ | refine zr7 hK (by assumption) ?_ ?_ | exact zb6 _) | omega | (simp <;> omega))⟩
          · go_wp2_with fail
            go_returns
            exact ⟨rfl, ((hvq.keep (by (repeat' first | (with_reducible first | exact zb0 _ _ | assumption | refine zb1 ?_ ?_ _ | refine zb2 ?_ | refine zb3 ?_ _ | refine zb4 ?_ ?_ _ | refine zb5 (by assumption) ?_ ?_ | exact zb6 _) | omega | (simp <;> omega)))).less (Or.inl HB.out)).less HB.out, by (repeat' first | (with_reducible first | exact zr0 _ _ | assumption | refine zr1 hK ?_ ?_ _ | refine zr2 ?_ | refine zr3 hK ?_ _ | refine zr4 hK ?_ ?_ _ | refine zr5 (by assumption) ?_ | refine zr6 (by assumption) ?_ | refine zr7 hK (by assumption) ?_ ?_ | exact zb6 _) | omega | (simp <;> omega))⟩
        · have hle := hlv rfl
          have hkl := HKL.out
          rw [← hle] at hkl
          have hvq : ROk (fun i => (K i ∨ i = X) ∨ i = G) wq lk b o n cap D dp bud S3 := hvq
          have z7 : wq.cell? ⟨lk, 7, none⟩ = some (.int .i64 0) := hvq.c7
          clear hle
          by_cases hj0 : 0 < (j : Int)
          · cases hls : lessB last l with
            | false =>
              rw [if_pos ⟨hj0, hls⟩] at hkl
              simp only [tellU] at hkl
              subst hkl
              go_wp2_with (first | ((go_at_call 118; refine (rless_any last l hll hll5 _).mono ?_; rintro e w1 ⟨rfl, hb1⟩; obtain ⟨hc1, hf1, hl1⟩ := bcell hb1; (try simp only [zdz] at hc1 hf1 hl1); have hz1 := hb1.size; (try simp only [zsz] at hz1); (try have g0 : w.heap.size < w1.heap.size := by omega); (try have g1 : w.heap.size + 1 < w1.heap.size := by omega); (try have gl : lk < w1.heap.size := by omega)); (have gX : X < w1.heap.size := by omega)) | (go_at_call 52; refine (rtell_no (hvq.keep (by (repeat' first | (with_reducible first | exact zb0 _ _ | assumption | refine zb1 ?_ ?_ _ | refine zb2 ?_ | refine zb3 ?_ _ | refine zb4 ?_ ?_ _ | refine zb5 (by assumption) ?_ ?_ | exact zb6 _) | omega | (simp <;> omega)))) P 215 (by omega)).mono ?_; rintro en w6 ⟨rfl, hv6, hk6⟩; have y7 := hv6.c7; have hm6 := hk6.mono (K := K) (fun i hi => Or.inl (Or.inl hi))))
              go_returns
              exact ⟨rfl, (hv6.less (Or.inl HB.out)).less HB.out, by (repeat' first | (with_reducible first | exact zr0 _ _ | assumption | refine zr1 hK ?_ ?_ _ | refine zr2 ?_ | refine zr3 hK ?_ _ | refine zr4 hK ?_ ?_ _ | refine zr5 (by assumption) ?_ | refine zr6 (by assumption) ?_ | refine zr7 hK (by assumption) ?_ ?_ | exact zb6 _) | omega | (simp <;> omega))⟩
            | true =>
              rw [if_neg (by simp [hls])] at hkl
              simp only at hkl
              have HKN := Lib.hid hkl
              clear hkl
              go_wp2_with ((go_at_call 118; refine (rless_any last l hll hll5 _).mono ?_; rintro e w1 ⟨rfl, hb1⟩; obtain ⟨hc1, hf1, hl1⟩ := bcell hb1; (try simp only [zdz] at hc1 hf1 hl1); have hz1 := hb1.size; (try simp only [zsz] at hz1); (try have g0 : w.heap.size < w1.heap.size := by omega); (try have g1 : w.heap.size + 1 < w1.heap.size := by omega); (try have gl : lk < w1.heap.size := by omega)); (have gX : X < w1.heap.size := by omega))
              go_roundw
              case rel => exact ⟨j + 1, l, S3, by omega, by go_num, rfl, hll5, (hvq.keep (by (repeat' first | (with_reducible first | exact zb0 _ _ | assumption | refine zb1 ?_ ?_ _ | refine zb2 ?_ | refine zb3 ?_ _ | refine zb4 ?_ ?_ _ | refine zb5 (by assumption) ?_ ?_ | exact zb6 _) | omega | (simp <;> omega)))).less (Or.inl HB.out), by (repeat' first | (with_reducible first | exact zr0 _ _ | assumption | refine zr1 hK ?_ ?_ _ | refine zr2 ?_ | refine zr3 hK ?_ _ | refine zr4 hK ?_ ?_ _ | refine zr5 (by assumption) ?_ | refine zr6 (by assumption) ?_ | refine zr7 hK (by assumption) ?_ ?_ | exact zb6 _) | omega | (simp <;> omega)), by (first | omega | (simp; omega)), by go_simp, by go_simp, by go_simp, by go_simp, HSL.out S3 rfl, by rw [hr2]; exact HKN.out⟩
              case measure => simp only [intOf]; omega
          · rw [if_neg (by omega)] at hkl
            simp only at hkl
            have HKN := Lib.hid hkl
            clear hkl
            go_wp2_with fail
            go_roundw
            case rel => exact ⟨j + 1, l, S3, by omega, by go_num, rfl, hll5, (hvq.keep (by (repeat' first | (with_reducible first | exact zb0 _ _ | assumption | refine zb1 ?_ ?_ _ | refine zb2 ?_ | refine zb3 ?_ _ | refine zb4 ?_ ?_ _ | refine zb5 (by assumption) ?_ ?_ | exact zb6 _) | omega | (simp <;> omega)))).less (Or.inl HB.out), by (repeat' first | (with_reducible first | exact zr0 _ _ | assumption | refine zr1 hK ?_ ?_ _ | refine zr2 ?_ | refine zr3 hK ?_ _ | refine zr4 hK ?_ ?_ _ | refine zr5 (by assumption) ?_ | refine zr6 (by assumption) ?_ | refine zr7 hK (by assumption) ?_ ?_ | exact zb6 _) | omega | (simp <;> omega)), by (first | omega | (simp; omega)), by go_simp, by go_simp, by go_simp, by go_simp, HSL.out S3 rfl, by rw [hr2]; exact HKN.out⟩
            case measure => simp only [intOf]; omega
    · have hj2 : m.toNat - j = 0 := by omega
      rw [hj2, keysLoop] at hkl
      subst hkl
      obtain ⟨at_, lv, cv, hst⟩ := hvr.st
      have c4 : wr.cell? ⟨lk, 4, none⟩ = some lv := cell_of_row _ _ _ _ _ _ hst.row
      obtain ⟨iK, hiK, kz0, kz1, kz2⟩ := info_parts knownInfo
      have HiK := Lib.hid hiK
      clear hiK
      go_upto_region 29 with fail
      have h63 : S2.L.reverse.length + 1 ≤ maxLen := by rw [List.length_reverse, hSL]; unfold maxLen; omega
      have hby : (S2.L.reverse.length + 1) * 32 ≤ 140737488355328 := by rw [List.length_reverse, hSL]; omega
      have H63 := Lib.hid h63
      have HBY := Lib.hid hby
      have hbA : Below wr.heap.size wr (wr.alloc (.cells #[.int .i64 (-1), .int .i64 (f - loadV D f k), .int .i64 (kwOf D k f), .int .i64 1] 108)).drew := ((Below.refl _ _).alloc (Nat.le_refl _) _).drew
      have HBA := Lib.hid hbA
      have hoA := Lib.hid (hst.keep hbA).ol
      have hnA := Lib.hid (row_cells29 (w := (wr.alloc (.cells #[.int .i64 (-1), .int .i64 (f - loadV D f k), .int .i64 (kwOf D k f), .int .i64 1] 108)).drew) (heap_alloc_new wr _))
      have hbe : beginsV (-1) (kwOf D k f) (f - loadV D f k) = f - loadV D f k := by simp [beginsV, show vecB (-1) = false from rfl]
      have hKI : Hid (KInv (((-1, f - loadV D f k, kwOf D k f), 1) :: S2.L)) := Lib.hid (KInv.cons hvr.kn (Int.le_refl 1) (by rw [hbe]; omega))
      have hND : Hid (ND (((-1, f - loadV D f k, kwOf D k f), 1) :: S2.L)) := Lib.hid (ND.cons hvr.nd (vknown_none (by rw [hSL]; exact HN0.out)))
      clear h63 hby hbA hbe
      go_region_law (((refine step_append_where rfl (.tmp 174) (.tmp 179) 68 rfl 108 iK (.agg #[.int .i64 0, .int .i64 0, .int .i64 0, .int .i64 0]) 4 32 Try.underlying68 HiK.out kz0 kz1 kz2 rfl (by decide) lv _ _ rfl hoA.out ⟨wr.heap.size, 0, none⟩ 1 1 [.int .i64 (-1), .int .i64 (f - loadV D f k), .int .i64 (kwOf D k f), .int .i64 1] rfl rfl hnA.out (four_one _ _ _ _) H63.out HBY.out ?_; intro v' w3 ho hg hwh; obtain ⟨A', n', c', rfl⟩ := owns_form ho; have hrow3 : w3.heap[lk]? = some (.cells (rkCells (.slice (some ⟨b, o, none⟩) n cap) dp bud S2.s lv cv at_ 0) 71 (0, 0)) := (hg.block lk (by have := hst.lkt; simp; omega) (fun e => hst.n1.1 e.symm)).trans ((HBA.out.block lk hst.lkt).trans hst.row); have k4 : w3.cell? ⟨lk, 4, none⟩ = some lv := cell_of_row w3 lk 4 _ _ _ hrow3; have k4f := frozen_of_row w3 lk 4 _ _ hrow3; have hfi := hst.known HBA.out (-1) (f - loadV D f k) (kwOf D k f) 1 ho hg (hwh.elim .inl (fun e => .inr (e.trans (by simp)))); have hfin := Lib.hid hfi.1; have hfk := Lib.hid (hkr.trans (hfi.2.mono (K := K) (fun i hi => Or.inl hi))); clear hfi ho hg hwh hrow3)))
      all_goals go_wp2_with fail
      all_goals go_returns
      all_goals exact ⟨rfl, ROk.less (K' := fun i => i = X) ⟨⟨at_, .slice A' n' c', cv, by rw [List.reverse_cons]; exact hfin.out⟩, hvr.s0, hvr.s1, hvr.bd, hKI.out, hND.out, hvr.cs⟩ HB.out, hfk.out⟩
end
end Go.Proofs.Ytmpflnlajakibaa
