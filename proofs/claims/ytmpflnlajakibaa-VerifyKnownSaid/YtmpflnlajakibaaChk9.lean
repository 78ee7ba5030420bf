/- The reference's check: vector. -/
import Derived.Test.YtmpflnlajakibaaChk5
import Derived.Test.YtmpflnlajakibaaVer8
namespace Go.Proofs.Ytmpflnlajakibaa
set_option linter.unusedVariables false
set_option linter.unusedSimpArgs false
set_option linter.unusedSectionVars false
open Go.RowKit
/-- The end of Look and vector. -/
def RLP (K : Nat → Prop) (w : World) (lk b o n cap : Nat) (D : List UInt8) (dp bud : Int) (r : VR Int) (en : Ending) (w' : World) : Prop := match r with
  | .ok (S', h) => en = .returned (.int .i64 h) ∧ ROk K w' lk b o n cap D dp bud S' ∧ RKept K w w'
  | .error (s, a, e) => (∃ x, en = .returned (.int .i64 x)) ∧ RNo K w' lk b o n cap D dp s a e ∧ RKept K w w'
def HypRLook (look : LookF) (lk b o n cap : Nat) (D : List UInt8) (dp bud f deep : Int) : Prop :=
  ∀ K W S2 p' q' t' k', ROk K W lk b o n cap D dp bud S2 → (S2.L.length : Int) ≤ 2 * S2.s → mayE n p' q' t' k' = 0 → Calls Try.prog 31 #[.pointer (some ⟨lk, 0, none⟩), .agg #[.int .i64 p', .int .i64 q', .int .i64 t', .int .i64 k'], .int .i64 f, .int .i64 deep] W
      (RLP K W lk b o n cap D dp bud (look p' q' t' k' f deep S2))
def vecU (look : LookF) (D : List UInt8) (p q t k at_ deep : Int) (r : Nat) (i high : Int) (x : RX) : VR Int := match x with
  | .ok S => vecLoop look D p q t k at_ deep r i high S
  | .error x => .error x
theorem vecU_err (look : LookF) (D : List UInt8) (p q t k at_ deep : Int) (r : Nat) (i high : Int) (x : Int × Int × Int) : vecU look D p q t k at_ deep r i high (.error x) = .error x := rfl
theorem vecU_ok (look : LookF) (D : List UInt8) (p q t k at_ deep : Int) (r : Nat) (i high : Int) (S : VS) : vecU look D p q t k at_ deep r i high (.ok S) = vecLoop look D p q t k at_ deep r i high S := rfl
def rUp (r : VR Int) : VR Int := match r with
  | .error x => .error x
  | .ok (S, h) => .ok (S, h + 1)
section
variable {K : Nat → Prop} {w w' : World} {lk b o n cap : Nat} {D : List UInt8} {dp bud : Int} {S : VS}
set_option maxHeartbeats 16000000 in
set_option maxRecDepth 100000 in
theorem rvec_n (look : LookF) (hlg : LGood look) (hnew : LNew look D) (h : ROk K w lk b o n cap D dp bud S) (p q t k a deep : Int) (he : lfindE D p q t k = 0) (e9 : (t == 9) = false) (ha0 : 0 ≤ a) (ha1 : a ≤ 1073741824) (hd0 : 0 ≤ deep) (hd1 : deep ≤ 2147483648) (r1 : RX)
    (HK : r1 = .ok S) (hl1 : ∀ S1, r1 = .ok S1 → (S1.L.length : Int) ≤ 2 * S1.s)
    (HL : HypRLook look lk b o n cap D dp bud (lFrom D p q t k) (deep + 1)) (rl : VR Int) (hrl : vecU look D p q t k a deep (lCnt D p q t k).toNat 0 0 r1 = rl) :
    Calls Try.prog 59 #[.pointer (some ⟨lk, 0, none⟩), .agg #[.int .i64 p, .int .i64 q, .int .i64 t, .int .i64 k], .int .i64 a, .int .i64 deep] w (RLP K w lk b o n cap D dp bud (rUp rl)) := by
  have hK := h.hK
  have hlk := h.lkt
  have hD := h.doc
  obtain ⟨hn1, hn2⟩ := hD.bd
  have HB := Lib.hid h.kb
  have He := Lib.hid he
  have HR := Lib.hid hrl
  have HKK := Lib.hid HK
  have HL1 := Lib.hid hl1
  have HLL := Lib.hid HL
  obtain ⟨g0, -, g1, -, g2, g3, g4, g5, g6, -, -⟩ := lfindE_zero he
  obtain ⟨-, -, -, -, -, -, k1, k8, -⟩ := mayE_zero (targetE_zero g0).1
  have hF := lFrom_nonneg D p q t k
  rw [hD.len] at g4
  have hfr : lFrom D p q t k ≤ 1073741824 := by
    have hv0 := lfindE_zero he
    have ha := aheadOf_bd t
    have y2 : 0 ≤ lCnt D p q t k * (k + tagsOf t) := Int.mul_nonneg g3 (by have := tagsOf_bd t; omega)
    have y3 : 0 ≤ aheadOf t * k := Int.mul_nonneg ha.1 (by omega)
    rw [hD.len] at hv0
    omega
  have P0 : 0 ≤ lCnt D p q t k * k := Int.mul_nonneg g3 (by omega)
  have P1 : lCnt D p q t k * k ≤ 1073741824 * 8 := Int.mul_le_mul (by omega) k8 (by omega) (by omega)
  have he' : (lfindE D p q t k != 0) = false := by simpa using he
  clear g0 g5 g6 g1 g2 he hrl HK hl1 HL
  go_enter Try.func59, Try.ntmps59
  go_upto_region 1 with fail
  refine wp_named (fun wn => ROk (fun i => K i ∨ i = w.heap.size) wn lk b o n cap D dp bud S ∧ RKept K w wn ∧ w.heap.size < wn.heap.size ∧ CL wn w.heap.size p q t k) ⟨h.enter (by (repeat' first | (with_reducible first | exact zb0 _ _ | assumption | refine zb1 ?_ ?_ _ | refine zb2 ?_ | refine zb3 ?_ _ | refine zb4 ?_ ?_ _ | refine zb5 (by assumption) ?_ ?_ | exact zb6 _) | omega | (simp <;> omega))) (fun i hi => by subst hi; simp), by (repeat' first | (with_reducible first | exact zr0 _ _ | assumption | refine zr1 hK ?_ ?_ _ | refine zr2 ?_ | refine zr3 hK ?_ _ | refine zr4 hK ?_ ?_ _ | refine zr5 (by assumption) ?_ | refine zr6 (by assumption) ?_ | refine zr7 hK (by assumption) ?_ ?_ | exact zb6 _) | omega | (simp <;> omega)), by simp, by go_simp, by go_simp, by go_simp, by go_simp⟩ ?_
  obtain ⟨X, hX0⟩ : ∃ X, w.heap.size = X := ⟨_, rfl⟩
  rw [hX0]
  have hXn : w.heap.size ≤ X := by omega
  rintro wn ⟨hvn, hkn, hX, z0, z1, z2, z3⟩
  have z4 := hvn.c0
  have hDn := hvn.doc
  have gln := hvn.lkt
  go_region_held3 (fun w' => w'.cell? ⟨X, 0, none⟩ = some (.int .i64 p) ∧ w'.cell? ⟨X, 1, none⟩ = some (.int .i64 q) ∧ w'.cell? ⟨X, 2, none⟩ = some (.int .i64 t) ∧ w'.cell? ⟨X, 3, none⟩ = some (.int .i64 k) ∧ w'.cell? ⟨lk, 0, none⟩ = some (.slice (some ⟨b, o, none⟩) n cap)) (first | (with_reducible exact ⟨z0, z1, z2, z3, z4⟩) | (refine ⟨?_, ?_, ?_, ?_, ?_⟩ <;> go_keep)) (((go_at_call 93; refine (rSpan_any _ _ _ _ D p q t k _ (hDn.below (by (repeat' first | (with_reducible first | exact zb0 _ _ | assumption | refine zb1 ?_ ?_ _ | refine zb2 ?_ | refine zb3 ?_ _ | refine zb4 ?_ ?_ _ | refine zb5 (by assumption) ?_ ?_ | exact zb6 _) | omega | (simp <;> omega))))).mono ?_; rintro e w1 ⟨rfl, hb1⟩; obtain ⟨hc1, hf1, hl1⟩ := bcell hb1; (try simp only [zdz] at hc1 hf1 hl1); have hz1 := hb1.size; (try simp only [zsz] at hz1); (try have g0 : w.heap.size < w1.heap.size := by omega); (try have g1 : w.heap.size + 1 < w1.heap.size := by omega); (try have gl : lk < w1.heap.size := by omega)); (have gX : X < w1.heap.size := by omega); (have gl9 : lk < w1.heap.size := by omega)))
  go_upto_region 5 with fail
  refine wp_named (fun wz => ROk (fun i => K i ∨ i = X) wz lk b o n cap D dp bud S ∧ RKept K w wz ∧ X < wz.heap.size ∧ CL wz X p q t k) ⟨hvn.keep (by (repeat' first | (with_reducible first | exact zb0 _ _ | assumption | refine zb1 ?_ ?_ _ | refine zb2 ?_ | refine zb3 ?_ _ | refine zb4 ?_ ?_ _ | refine zb5 (by assumption) ?_ ?_ | exact zb6 _) | omega | (simp <;> omega))), by have hBy := hkn.size; (repeat' first | (with_reducible first | exact zr0 _ _ | assumption | refine zr1 hK ?_ ?_ _ | refine zr2 ?_ | refine zr3 hK ?_ _ | refine zr4 hK ?_ ?_ _ | refine zr5 (by assumption) ?_ | refine zr6 (by assumption) ?_ | refine zr7 hK (by assumption) ?_ ?_ | exact zb6 _) | omega | (simp <;> omega)), by (first | omega | (simp; omega)), by go_simp, by go_simp, by go_simp, by go_simp⟩ ?_
  clear z0 z1 z2 z3 z4 hvn hkn hDn gln hX gX gl9
  rintro wz ⟨hv1, hk1, hX, e0, e1, e2, e3⟩
  have e4 := hv1.c0
  have hD1 := hv1.doc
  have gl1 := hv1.lkt
  go_region_held3 (fun w' => w'.cell? ⟨X, 0, none⟩ = some (.int .i64 p) ∧ w'.cell? ⟨X, 1, none⟩ = some (.int .i64 q) ∧ w'.cell? ⟨X, 2, none⟩ = some (.int .i64 t) ∧ w'.cell? ⟨X, 3, none⟩ = some (.int .i64 k) ∧ w'.cell? ⟨lk, 0, none⟩ = some (.slice (some ⟨b, o, none⟩) n cap)) (first | (with_reducible exact ⟨e0, e1, e2, e3, e4⟩) | (refine ⟨?_, ?_, ?_, ?_, ?_⟩ <;> go_keep)) (((go_at_call 94; refine (rLen_any _ _ _ _ D p q t k _ (hD1.below (by (repeat' first | (with_reducible first | exact zb0 _ _ | assumption | refine zb1 ?_ ?_ _ | refine zb2 ?_ | refine zb3 ?_ _ | refine zb4 ?_ ?_ _ | refine zb5 (by assumption) ?_ ?_ | exact zb6 _) | omega | (simp <;> omega))))).mono ?_; rintro e w1 ⟨rfl, hb1⟩; obtain ⟨hc1, hf1, hl1⟩ := bcell hb1; (try simp only [zdz] at hc1 hf1 hl1); have hz1 := hb1.size; (try simp only [zsz] at hz1); (try have g0 : w.heap.size < w1.heap.size := by omega); (try have g1 : w.heap.size + 1 < w1.heap.size := by omega); (try have gl : lk < w1.heap.size := by omega)); (have gX : X < w1.heap.size := by omega); (have gl9 : lk < w1.heap.size := by omega)))
  go_upto_region 8 with fail
  refine wp_named (fun wy => RV (fun i => K i ∨ i = X) wy lk b o n cap D dp bud r1 ∧ RKept K w wy ∧ X < wy.heap.size ∧ CL wy X p q t k) ⟨HKK.out ▸ (show RV _ _ lk b o n cap D dp bud (.ok S) from hv1.keep (by (repeat' first | (with_reducible first | exact zb0 _ _ | assumption | refine zb1 ?_ ?_ _ | refine zb2 ?_ | refine zb3 ?_ _ | refine zb4 ?_ ?_ _ | refine zb5 (by assumption) ?_ ?_ | exact zb6 _) | omega | (simp <;> omega)))), by have hBy := hk1.size; (repeat' first | (with_reducible first | exact zr0 _ _ | assumption | refine zr1 hK ?_ ?_ _ | refine zr2 ?_ | refine zr3 hK ?_ _ | refine zr4 hK ?_ ?_ _ | refine zr5 (by assumption) ?_ | refine zr6 (by assumption) ?_ | refine zr7 hK (by assumption) ?_ ?_ | exact zb6 _) | omega | (simp <;> omega)), by (first | omega | (simp; omega)), by go_simp, by go_simp, by go_simp, by go_simp⟩ ?_
  clear e0 e1 e2 e3 e4 hv1 hk1 hD1 gl1 hX gX gl9
  rintro wy ⟨hvy, hky, hX, z0, z1, z2, z3⟩
  clear HKK
  go_wp2_with fail
  go_loopw [15, 16] (fun x i wr => ∃ (j : Nat) (y : Int) (r2 : RX), (j : Int) ≤ lCnt D p q t k ∧ i = .int .i64 j ∧ x = .int .i64 y ∧ (∀ S2, r2 = .ok S2 → 0 ≤ y ∧ y ≤ lFrom D p q t k + 29 ∧ (S2.L.length : Int) ≤ 2 * S2.s) ∧ RV (fun i => K i ∨ i = X) wr lk b o n cap D dp bud r2 ∧ RKept K w wr ∧ X < wr.heap.size ∧ wr.cell? ⟨X, 0, none⟩ = some (.int .i64 p) ∧ wr.cell? ⟨X, 1, none⟩ = some (.int .i64 q) ∧ wr.cell? ⟨X, 2, none⟩ = some (.int .i64 t) ∧ wr.cell? ⟨X, 3, none⟩ = some (.int .i64 k) ∧
      vecU look D p q t k a deep ((lCnt D p q t k).toNat - j) j y r2 = rl) (fun _ i _ => (lCnt D p q t k).toNat - (intOf i).toNat)
  case atStart => exact ⟨0, 0, r1, by omega, rfl, rfl, fun S2 hS => ⟨by omega, by omega, HL1.out S2 hS⟩, hvy.keep (by (repeat' first | (with_reducible first | exact zb0 _ _ | assumption | refine zb1 ?_ ?_ _ | refine zb2 ?_ | refine zb3 ?_ _ | refine zb4 ?_ ?_ _ | refine zb5 (by assumption) ?_ ?_ | exact zb6 _) | omega | (simp <;> omega))), by (repeat' first | (with_reducible first | exact zr0 _ _ | assumption | refine zr1 hK ?_ ?_ _ | refine zr2 ?_ | refine zr3 hK ?_ _ | refine zr4 hK ?_ ?_ _ | refine zr5 (by assumption) ?_ | refine zr6 (by assumption) ?_ | refine zr7 hK (by assumption) ?_ ?_ | exact zb6 _) | omega | (simp <;> omega)), by (first | omega | (simp; omega)), by go_simp, by go_simp, by go_simp, by go_simp, HR.out⟩
  case round =>
    rename_i wr hK0
    clear z0 z1 z2 z3 hvy hky hX HR HL1
    obtain ⟨j, y, r2, hj, rfl, rfl, hy, hvr, hkr, hX, z0, z1, z2, z3, hl⟩ := hrel
    have z4 := hvr.c0
    have hDr := hvr.doc
    have glr := hvr.lkt
    have hBr : w.heap.size ≤ wr.heap.size := hkr.size
    have n0 := World.new_ne _ _ z0
    have n4 := World.new_ne _ _ z4
    rcases r2 with ⟨s2, a2, e2⟩ | S2
    · have z7 : wr.cell? ⟨lk, 7, none⟩ = some (.int .i64 e2) := RNo.c7 hvr
      have hne : (e2 == 0) = false := by simpa using hvr.1
      have hvr : RNo (fun i => K i ∨ i = X) wr lk b o n cap D dp s2 a2 e2 := hvr
      rw [vecU_err] at hl
      subst hl
      by_cases hlt : (j : Int) < lCnt D p q t k
      · go_wp2_with fail
        go_returns
        exact ⟨⟨_, rfl⟩, (hvr.keep (by (repeat' first | (with_reducible first | exact zb0 _ _ | assumption | refine zb1 ?_ ?_ _ | refine zb2 ?_ | refine zb3 ?_ _ | refine zb4 ?_ ?_ _ | refine zb5 (by assumption) ?_ ?_ | exact zb6 _) | omega | (simp <;> omega)))).less HB.out, by (repeat' first | (with_reducible first | exact zr0 _ _ | assumption | refine zr1 hK ?_ ?_ _ | refine zr2 ?_ | refine zr3 hK ?_ _ | refine zr4 hK ?_ ?_ _ | refine zr5 (by assumption) ?_ | refine zr6 (by assumption) ?_ | refine zr7 hK (by assumption) ?_ ?_ | exact zb6 _) | omega | (simp <;> omega))⟩
      · go_wp2_with fail
        go_returns
        exact ⟨⟨_, rfl⟩, (hvr.keep (by (repeat' first | (with_reducible first | exact zb0 _ _ | assumption | refine zb1 ?_ ?_ _ | refine zb2 ?_ | refine zb3 ?_ _ | refine zb4 ?_ ?_ _ | refine zb5 (by assumption) ?_ ?_ | exact zb6 _) | omega | (simp <;> omega)))).less HB.out, by (repeat' first | (with_reducible first | exact zr0 _ _ | assumption | refine zr1 hK ?_ ?_ _ | refine zr2 ?_ | refine zr3 hK ?_ _ | refine zr4 hK ?_ ?_ _ | refine zr5 (by assumption) ?_ | refine zr6 (by assumption) ?_ | refine zr7 hK (by assumption) ?_ ?_ | exact zb6 _) | omega | (simp <;> omega))⟩
    · have hvr : ROk (fun i => K i ∨ i = X) wr lk b o n cap D dp bud S2 := hvr
      have z7 : wr.cell? ⟨lk, 7, none⟩ = some (.int .i64 0) := hvr.c7
      obtain ⟨hy0, hy1, hln⟩ := hy S2 rfl
      clear hy
      by_cases hlt : (j : Int) < lCnt D p q t k
      · obtain ⟨r', hr'⟩ : ∃ r', (lCnt D p q t k).toNat - j = r' + 1 := ⟨(lCnt D p q t k).toNat - j - 1, by omega⟩
        have hr2 : (lCnt D p q t k).toNat - (j + 1) = r' := by omega
        rw [hr', vecU_ok, vecLoop] at hl
        have HAT := Lib.hid (fun W (hW : Doc W b o n cap D) => rAt_any b o n cap D p q t k j W hW)
        by_cases hE : latE D p q t k j = 0
        · rw [if_neg (by simp [hE])] at hl
          have hmayD := (lat_may2 hE).1
          have hmay : mayE n (latP D p q t k j) (latQ D p q t k j) (latT D p q t k j) (latW D p q t k j) = 0 := by
            have := hmayD; rw [hD.len] at this; exact this
          rw [hE] at HAT
          unfold latV at HAT
          have HO := Lib.hid (fun K W (hW : ROk K W lk b o n cap D dp bud S2) => HLL.out K W S2 _ _ _ _ hW hln hmay)
          have hgood := fun S3 hh (hx : look (latP D p q t k j) (latQ D p q t k j) (latT D p q t k j) (latW D p q t k j) (lFrom D p q t k) (deep + 1) S2 = .ok (S3, hh)) => And.intro (hlg _ _ _ _ _ _ _ _ _ hF (latW_le k8) hvr.kn hx).2 (hnew _ _ _ _ _ _ _ _ _ hmayD hx)
          clear hE hmay hmayD hr'
          generalize latP D p q t k j = lp at *
          generalize latQ D p q t k j = lq at *
          generalize latT D p q t k j = lt at *
          generalize latW D p q t k j = lw at *
          generalize look lp lq lt lw (lFrom D p q t k) (deep + 1) S2 = r3 at *
          have hj1 : IntKind.i64.wrap ((j : Int) + 1) = j + 1 := IntWalk.i64_in _ (by omega)
          rcases r3 with ⟨es, ea, ee⟩ | ⟨S3, hh⟩
          · have HLR : Hid (.error (es, ea, ee) = rl) := Lib.hid hl
            clear hl hgood
            go_upto_region 12 with fail
            go_region_held3 (fun w' => w'.cell? ⟨X, 0, none⟩ = some (.int .i64 p) ∧ w'.cell? ⟨X, 1, none⟩ = some (.int .i64 q) ∧ w'.cell? ⟨X, 2, none⟩ = some (.int .i64 t) ∧ w'.cell? ⟨X, 3, none⟩ = some (.int .i64 k) ∧ w'.cell? ⟨lk, 0, none⟩ = some (.slice (some ⟨b, o, none⟩) n cap)) (first | (with_reducible exact ⟨z0, z1, z2, z3, z4⟩) | (refine ⟨?_, ?_, ?_, ?_, ?_⟩ <;> go_simp)) (((go_at_call 96; refine (HAT.out _ (hDr.below (by (repeat' first | (with_reducible first | exact zb0 _ _ | assumption | refine zb1 ?_ ?_ _ | refine zb2 ?_ | refine zb3 ?_ _ | refine zb4 ?_ ?_ _ | refine zb5 (by assumption) ?_ ?_ | exact zb6 _) | omega | (simp <;> omega))))).mono ?_; rintro e w1 ⟨rfl, hb1⟩; obtain ⟨hc1, hf1, hl1⟩ := bcell hb1; (try simp only [zdz] at hc1 hf1 hl1); have hz1 := hb1.size; (try simp only [zsz] at hz1); (try have g0 : w.heap.size < w1.heap.size := by omega); (try have g1 : w.heap.size + 1 < w1.heap.size := by omega); (try have gl : lk < w1.heap.size := by omega)); (have gX : X < w1.heap.size := by omega); (have gl9 : lk < w1.heap.size := by omega)))
            all_goals go_wp2_with (go_at_call 31; refine (HO.out _ _ (hvr.keep (by (repeat' first | (with_reducible first | exact zb0 _ _ | assumption | refine zb1 ?_ ?_ _ | refine zb2 ?_ | refine zb3 ?_ _ | refine zb4 ?_ ?_ _ | refine zb5 (by assumption) ?_ ?_ | exact zb6 _) | omega | (simp <;> omega))))).mono ?_; rintro en w2 ⟨⟨hx, rfl⟩, hv2, hk2⟩; have a0 := hk2.cell (x := X) (.inr rfl); have hz2 := hk2.size; have hm2 := hk2.mono (K := K) (fun i hi => Or.inl hi))
            all_goals (go_roundw; (case rel => exact ⟨j + 1, max y hx, .error (es, ea, ee), by omega, by go_num, rfl, (fun S2 hS => by cases hS), hv2, by (repeat' first | (with_reducible first | exact zr0 _ _ | assumption | refine zr1 hK ?_ ?_ _ | refine zr2 ?_ | refine zr3 hK ?_ _ | refine zr4 hK ?_ ?_ _ | refine zr5 (by assumption) ?_ | refine zr6 (by assumption) ?_ | refine zr7 hK (by assumption) ?_ ?_ | exact zb6 _) | omega | (simp <;> omega)), by (first | omega | (simp at hz2 ⊢; omega)), by go_simp, by go_simp, by go_simp, by go_simp, HLR.out⟩); (case measure => simp only [intOf]; omega))
          · obtain ⟨⟨b1, b2⟩, had⟩ := hgood S3 hh rfl
            obtain ⟨N, hn1', -, hn3, hn4, -⟩ := had
            have hlen3 : (S3.L.length : Int) ≤ 2 * S3.s := by rw [hn1', List.length_append]; push_cast; omega
            have HLR := Lib.hid hl
            have HL3 := Lib.hid hlen3
            clear hl hgood hn1' hn3 hn4 hlen3
            go_upto_region 12 with fail
            go_region_held3 (fun w' => w'.cell? ⟨X, 0, none⟩ = some (.int .i64 p) ∧ w'.cell? ⟨X, 1, none⟩ = some (.int .i64 q) ∧ w'.cell? ⟨X, 2, none⟩ = some (.int .i64 t) ∧ w'.cell? ⟨X, 3, none⟩ = some (.int .i64 k) ∧ w'.cell? ⟨lk, 0, none⟩ = some (.slice (some ⟨b, o, none⟩) n cap)) (first | (with_reducible exact ⟨z0, z1, z2, z3, z4⟩) | (refine ⟨?_, ?_, ?_, ?_, ?_⟩ <;> go_simp)) (((go_at_call 96; refine (HAT.out _ (hDr.below (by (repeat' first | (with_reducible first | exact zb0 _ _ | assumption | refine zb1 ?_ ?_ _ | refine zb2 ?_ | refine zb3 ?_ _ | refine zb4 ?_ ?_ _ | refine zb5 (by assumption) ?_ ?_ | exact zb6 _) | omega | (simp <;> omega))))).mono ?_; rintro e w1 ⟨rfl, hb1⟩; obtain ⟨hc1, hf1, hl1⟩ := bcell hb1; (try simp only [zdz] at hc1 hf1 hl1); have hz1 := hb1.size; (try simp only [zsz] at hz1); (try have g0 : w.heap.size < w1.heap.size := by omega); (try have g1 : w.heap.size + 1 < w1.heap.size := by omega); (try have gl : lk < w1.heap.size := by omega)); (have gX : X < w1.heap.size := by omega); (have gl9 : lk < w1.heap.size := by omega)))
            all_goals go_wp2_with (go_at_call 31; refine (HO.out _ _ (hvr.keep (by (repeat' first | (with_reducible first | exact zb0 _ _ | assumption | refine zb1 ?_ ?_ _ | refine zb2 ?_ | refine zb3 ?_ _ | refine zb4 ?_ ?_ _ | refine zb5 (by assumption) ?_ ?_ | exact zb6 _) | omega | (simp <;> omega))))).mono ?_; rintro en w2 ⟨rfl, hv2, hk2⟩; have a0 := hk2.cell (x := X) (.inr rfl); have hz2 := hk2.size; have hm2 := hk2.mono (K := K) (fun i hi => Or.inl hi))
            all_goals (go_roundw; (case rel => exact ⟨j + 1, max y hh, .ok S3, by omega, by go_num, rfl, (fun S2 hS => by cases hS; exact ⟨by omega, by omega, HL3.out⟩), hv2, by (repeat' first | (with_reducible first | exact zr0 _ _ | assumption | refine zr1 hK ?_ ?_ _ | refine zr2 ?_ | refine zr3 hK ?_ _ | refine zr4 hK ?_ ?_ _ | refine zr5 (by assumption) ?_ | refine zr6 (by assumption) ?_ | refine zr7 hK (by assumption) ?_ ?_ | exact zb6 _) | omega | (simp <;> omega)), by (first | omega | (simp at hz2 ⊢; omega)), by go_simp, by go_simp, by go_simp, by go_simp, by rw [hr2]; exact HLR.out⟩); (case measure => simp only [intOf]; omega))
        · rw [if_pos (by simpa using hE)] at hl
          subst hl
          have hE' : (latE D p q t k j != 0) = true := by simpa using hE
          rw [lat_bad rfl hE] at HAT
          have HE := Lib.hid hE
          have q1 : IntKind.i64.wrap (lCnt D p q t k * k) = lCnt D p q t k * k := IntWalk.i64_in _ (by omega)
          have q2 : IntKind.i64.wrap (a + lCnt D p q t k * k) = a + lCnt D p q t k * k := IntWalk.i64_in _ (by omega)
          have q3 : IntKind.i64.wrap (a + lCnt D p q t k * k + j) = a + lCnt D p q t k * k + j := IntWalk.i64_in _ (by omega)
          clear hE
          go_upto_region 12 with fail
          go_region_held3 (fun w' => w'.cell? ⟨X, 0, none⟩ = some (.int .i64 p) ∧ w'.cell? ⟨X, 1, none⟩ = some (.int .i64 q) ∧ w'.cell? ⟨X, 2, none⟩ = some (.int .i64 t) ∧ w'.cell? ⟨X, 3, none⟩ = some (.int .i64 k) ∧ w'.cell? ⟨lk, 0, none⟩ = some (.slice (some ⟨b, o, none⟩) n cap)) (first | (with_reducible exact ⟨z0, z1, z2, z3, z4⟩) | (refine ⟨?_, ?_, ?_, ?_, ?_⟩ <;> go_simp)) (((go_at_call 96; refine (HAT.out _ (hDr.below (by (repeat' first | (with_reducible first | exact zb0 _ _ | assumption | refine zb1 ?_ ?_ _ | refine zb2 ?_ | refine zb3 ?_ _ | refine zb4 ?_ ?_ _ | refine zb5 (by assumption) ?_ ?_ | exact zb6 _) | omega | (simp <;> omega))))).mono ?_; rintro e w1 ⟨rfl, hb1⟩; obtain ⟨hc1, hf1, hl1⟩ := bcell hb1; (try simp only [zdz] at hc1 hf1 hl1); have hz1 := hb1.size; (try simp only [zsz] at hz1); (try have g0 : w.heap.size < w1.heap.size := by omega); (try have g1 : w.heap.size + 1 < w1.heap.size := by omega); (try have gl : lk < w1.heap.size := by omega)); (have gX : X < w1.heap.size := by omega); (have gl9 : lk < w1.heap.size := by omega)))
          all_goals go_wp2_with (go_at_call 52; refine (rtell_no (hvr.keep (by (repeat' first | (with_reducible first | exact zb0 _ _ | assumption | refine zb1 ?_ ?_ _ | refine zb2 ?_ | refine zb3 ?_ _ | refine zb4 ?_ ?_ _ | refine zb5 (by assumption) ?_ ?_ | exact zb6 _) | omega | (simp <;> omega)))) (a + lCnt D p q t k * k + j) _ HE.out).mono ?_; rintro en w2 ⟨rfl, hv2, hk2⟩)
          all_goals go_returns
          all_goals exact ⟨⟨_, rfl⟩, hv2.less HB.out, by (repeat' first | (with_reducible first | exact zr0 _ _ | assumption | refine zr1 hK ?_ ?_ _ | refine zr2 ?_ | refine zr3 hK ?_ _ | refine zr4 hK ?_ ?_ _ | refine zr5 (by assumption) ?_ | refine zr6 (by assumption) ?_ | refine zr7 hK (by assumption) ?_ ?_ | exact zb6 _) | omega | (simp <;> omega))⟩
      · have hc0 : (lCnt D p q t k).toNat - j = 0 := by omega
        rw [hc0, vecU_ok, vecLoop] at hl
        subst hl
        have hy2 : IntKind.i64.wrap (y + 1) = y + 1 := IntWalk.i64_in _ (by omega)
        go_wp2_with fail
        go_returns
        exact ⟨rfl, (hvr.keep (by (repeat' first | (with_reducible first | exact zb0 _ _ | assumption | refine zb1 ?_ ?_ _ | refine zb2 ?_ | refine zb3 ?_ _ | refine zb4 ?_ ?_ _ | refine zb5 (by assumption) ?_ ?_ | exact zb6 _) | omega | (simp <;> omega)))).less HB.out, by (repeat' first | (with_reducible first | exact zr0 _ _ | assumption | refine zr1 hK ?_ ?_ _ | refine zr2 ?_ | refine zr3 hK ?_ _ | refine zr4 hK ?_ ?_ _ | refine zr5 (by assumption) ?_ | refine zr6 (by assumption) ?_ | refine zr7 hK (by assumption) ?_ ?_ | exact zb6 _) | omega | (simp <;> omega))⟩
end
end Go.Proofs.Ytmpflnlajakibaa
