/- The walk of verify.looker's keys: another count. verify.looker's keys and look, whole. -/
import Derived.Test.YtmpflnlajakibaaVer13
import Derived.Test.YtmpflnlajakibaaVer14
import Derived.Test.YtmpflnlajakibaaVer9
namespace Go.Proofs.Ytmpflnlajakibaa
set_option linter.unusedVariables false
set_option linter.unusedSimpArgs false
set_option linter.unusedSectionVars false
section
open Go.RowKit
section
variable {w : World} {lk hm cm b o n cap : Nat} {D : List UInt8} {dp bud : Int} {S : VS} {O : List Lead}
set_option maxHeartbeats 4000000 in
set_option maxRecDepth 100000 in
theorem vkeys_c (h : VOk w lk hm cm b o n cap D dp bud S O) (p q k f m : Int) (hk : wideB k = true) (h0 : 0 ≤ f) (h1 : f + 3 * k ≤ n) (hr : keysRefM D k f S = .ok (S, f - loadV D f k)) (he : lfindE D f k 14 (kwOf D k f) = 0) (hne : (lCnt D f k 14 (kwOf D k f) != m) = true) :
    Calls Try.prog 113 #[.pointer (some ⟨lk, 0, none⟩), .agg #[.int .i64 p, .int .i64 q, .int .i64 9, .int .i64 k], .int .i64 f, .int .i64 m] w (KPost w lk hm cm b o n cap D dp bud O (.error (S.s, f - loadV D f k, 214))) := by
  have hlow := h.low
  have hlw := hlow.l
  have HK := Lib.hid hk
  have HR := Lib.hid hr
  obtain ⟨-, r0, -, r1, r2, -⟩ := keysRefM_ok hr
  have hD := h.doc
  obtain ⟨hn1, hn2⟩ := hD.bd
  have hkb := wideB_bd hk
  have hwb := wideB_bd r2
  have v0 := loadV_nonneg D f k
  have He := Lib.hid he
  clear hk hr r2 he
  go_enter Try.func113, Try.ntmps113
  go_upto_region 4 with (go_at_call 137; refine (vkref (h.keep hlow (by (repeat' first | (with_reducible first | exact zb0 _ _ | assumption | refine zb1 ?_ ?_ _ | refine zb2 ?_ | refine zb3 ?_ _ | refine zb4 ?_ ?_ _ | refine zb5 (by assumption) ?_ ?_ | exact zb6 _) | omega | (simp only [zsz]; omega) | (simp <;> omega))) (Nat.le_refl _)) p q k f HK.out h0 h1 _ HR.out).mono ?_; rintro e w1 ⟨rfl, hv1, ht1⟩; obtain ⟨hc1, hf1, hl1⟩ := tcell ht1 hlow; (try simp only [zdz] at hc1 hf1 hl1); have hz1 := ht1.size; (try simp only [zsz] at hz1); (try have g0 : w.heap.size < w1.heap.size := by omega); (try have g1 : w.heap.size + 1 < w1.heap.size := by omega); (try have g2 : w.heap.size + 2 < w1.heap.size := by omega); (try have g3 : w.heap.size + 3 < w1.heap.size := by omega); (try have g4 : w.heap.size + 4 < w1.heap.size := by omega); (try have hB1 : w.heap.size ≤ w1.heap.size := by omega); (try have gl : lk < w1.heap.size := hv1.low.l); (try have q0 := hv1.c0); (try have q1 := hv1.c1); (try have q4 := hv1.c4); (try have q5 := hv1.c5))
  refine wp_named (fun wn => VOk wn lk hm cm b o n cap D dp bud S O ∧ Tch w.heap.size [lk, hm, cm] w wn ∧ w.heap.size ≤ w1.heap.size ∧ w1.heap.size < wn.heap.size ∧ wn.cell? ⟨w1.heap.size, 0, none⟩ = some (.int .i64 f) ∧ wn.cell? ⟨w1.heap.size, 1, none⟩ = some (.int .i64 k) ∧ wn.cell? ⟨w1.heap.size, 2, none⟩ = some (.int .i64 14) ∧ wn.cell? ⟨w1.heap.size, 3, none⟩ = some (.int .i64 (kwOf D k f))) ⟨hv1.keep hlow (by (repeat' first | (with_reducible first | exact zb0 _ _ | assumption | refine zb1 ?_ ?_ _ | refine zb2 ?_ | refine zb3 ?_ _ | refine zb4 ?_ ?_ _ | refine zb5 (by assumption) ?_ ?_ | exact zb6 _) | omega | (simp only [zsz]; omega) | (simp <;> omega))) (by omega), by (repeat' first | (with_reducible first | exact Tch.refl _ _ _ | assumption | refine Tch.alloc ?_ ?_ _ | refine Tch.drew ?_ | refine Tch.drewN ?_ _ | refine Tch.setCell ?_ ?_ _ | refine Tch.setBlock ?_ (by simp) _ | refine tch_call (by assumption) ?_ ?_ | refine tch_below (by assumption) ?_ ?_ | exact zb6 _) | omega | (simp only [zsz, size_setBlock]; omega) | (simp; omega)), by omega, by (first | omega | (simp; omega) | simp), by go_simp, by go_simp, by go_simp, by go_simp⟩ ?_
  generalize w1.heap.size = X
  rintro wn ⟨hvn, htn, hX0, hX1, z0, z1, z2, z3⟩
  have hBn : w.heap.size ≤ wn.heap.size := htn.size
  have hDn := hvn.doc
  have gln : lk < wn.heap.size := hvn.low.l
  have z4 := hvn.c0
  go_region_held3 (fun w' => w'.cell? ⟨X, 0, none⟩ = some (.int .i64 f) ∧ w'.cell? ⟨X, 1, none⟩ = some (.int .i64 k) ∧ w'.cell? ⟨X, 2, none⟩ = some (.int .i64 14) ∧ w'.cell? ⟨X, 3, none⟩ = some (.int .i64 (kwOf D k f)) ∧ w'.cell? ⟨lk, 0, none⟩ = some (.slice (some ⟨b, o, none⟩) n cap)) (first | (with_reducible exact ⟨z0, z1, z2, z3, z4⟩) | (refine ⟨?_, ?_, ?_, ?_, ?_⟩ <;> go_keep)) (((go_at_call 103; refine (span_arm (hDn.below (by (repeat' first | (with_reducible first | exact zb0 _ _ | assumption | refine zb1 ?_ ?_ _ | refine zb2 ?_ | refine zb3 ?_ _ | refine zb4 ?_ ?_ _ | refine zb5 (by assumption) ?_ ?_ | exact zb6 _) | omega | (simp only [zsz]; omega) | (simp <;> omega)))) He.out).mono ?_; rintro e w1 ⟨rfl, hb1⟩; obtain ⟨hc1, hf1, hl1⟩ := bcell hb1; (try simp only [zdz] at hc1 hf1 hl1); have hz1 := hb1.size; (try simp only [zsz] at hz1); (try have g0 : w.heap.size < w1.heap.size := by omega); (try have g1 : w.heap.size + 1 < w1.heap.size := by omega); (try have gl : lk < w1.heap.size := by omega)); (have gX : X < w1.heap.size := by omega)))
  go_upto_region 5 with fail
  have e0 : w1.cell? ⟨X, 0, none⟩ = some (.int .i64 f) := by go_simp
  have e1 : w1.cell? ⟨X, 1, none⟩ = some (.int .i64 k) := by go_simp
  have e2 : w1.cell? ⟨X, 2, none⟩ = some (.int .i64 14) := by go_simp
  have e3 : w1.cell? ⟨X, 3, none⟩ = some (.int .i64 (kwOf D k f)) := by go_simp
  have e4 : w1.cell? ⟨lk, 0, none⟩ = some (.slice (some ⟨b, o, none⟩) n cap) := by go_simp
  go_region_held3 (fun w' => w'.cell? ⟨X, 0, none⟩ = some (.int .i64 f) ∧ w'.cell? ⟨X, 1, none⟩ = some (.int .i64 k) ∧ w'.cell? ⟨X, 2, none⟩ = some (.int .i64 14) ∧ w'.cell? ⟨X, 3, none⟩ = some (.int .i64 (kwOf D k f)) ∧ w'.cell? ⟨lk, 0, none⟩ = some (.slice (some ⟨b, o, none⟩) n cap)) (first | (with_reducible exact ⟨e0, e1, e2, e3, e4⟩) | (refine ⟨?_, ?_, ?_, ?_, ?_⟩ <;> go_keep)) (((go_at_call 22; refine (len_arm (hDn.below (by (repeat' first | (with_reducible first | exact zb0 _ _ | assumption | refine zb1 ?_ ?_ _ | refine zb2 ?_ | refine zb3 ?_ _ | refine zb4 ?_ ?_ _ | refine zb5 (by assumption) ?_ ?_ | exact zb6 _) | omega | (simp only [zsz]; omega) | (simp <;> omega)))) He.out).mono ?_; rintro e w1 ⟨rfl, hb1⟩; obtain ⟨hc1, hf1, hl1⟩ := bcell hb1; (try simp only [zdz] at hc1 hf1 hl1); have hz1 := hb1.size; (try simp only [zsz] at hz1); (try have g0 : w.heap.size < w1.heap.size := by omega); (try have g1 : w.heap.size + 1 < w1.heap.size := by omega); (try have gl : lk < w1.heap.size := by omega)); (have gX : X < w1.heap.size := by omega)))
  go_wp2_with fail
  refine (vtell_ok (hvn.keep hlow (by (repeat' first | (with_reducible first | exact zb0 _ _ | assumption | refine zb1 ?_ ?_ _ | refine zb2 ?_ | refine zb3 ?_ _ | refine zb4 ?_ ?_ _ | refine zb5 (by assumption) ?_ ?_ | exact zb6 _) | omega | (simp only [zsz]; omega) | (simp <;> omega))) hBn) (f - loadV D f k)).mono ?_
  rintro e w1 ⟨rfl, hv1, ht1⟩
  obtain ⟨hc1, hf1, hl1⟩ := tcell ht1 hlow; (try simp only [zdz] at hc1 hf1 hl1); have hz1 := ht1.size; (try simp only [zsz] at hz1); (try have g0 : w.heap.size < w1.heap.size := by omega); (try have g1 : w.heap.size + 1 < w1.heap.size := by omega); (try have g2 : w.heap.size + 2 < w1.heap.size := by omega); (try have g3 : w.heap.size + 3 < w1.heap.size := by omega); (try have g4 : w.heap.size + 4 < w1.heap.size := by omega); (try have hB1 : w.heap.size ≤ w1.heap.size := by omega); (try have gl : lk < w1.heap.size := hv1.low.l); (try have q0 := hv1.c0); (try have q1 := hv1.c1); (try have q4 := hv1.c4); (try have q5 := hv1.c5)
  go_wp2_with fail
  refine (vtell_no (hv1.keep hlow (by (repeat' first | (with_reducible first | exact zb0 _ _ | assumption | refine zb1 ?_ ?_ _ | refine zb2 ?_ | refine zb3 ?_ _ | refine zb4 ?_ ?_ _ | refine zb5 (by assumption) ?_ ?_ | exact zb6 _) | omega | (simp only [zsz]; omega) | (simp <;> omega))) (by omega)) (f - loadV D f k) 214 (by omega)).mono ?_
  rintro e w1 ⟨rfl, hv1, ht1⟩
  obtain ⟨hc1, hf1, hl1⟩ := tcell ht1 hlow; (try simp only [zdz] at hc1 hf1 hl1); have hz1 := ht1.size; (try simp only [zsz] at hz1); (try have g0 : w.heap.size < w1.heap.size := by omega); (try have g1 : w.heap.size + 1 < w1.heap.size := by omega); (try have g2 : w.heap.size + 2 < w1.heap.size := by omega); (try have g3 : w.heap.size + 3 < w1.heap.size := by omega); (try have g4 : w.heap.size + 4 < w1.heap.size := by omega); (try have hB1 : w.heap.size ≤ w1.heap.size := by omega); (try have gl : lk < w1.heap.size := hv1.low.l); (try have q0 := hv1.c0); (try have q1 := hv1.c1); (try have q4 := hv1.c4); (try have q5 := hv1.c5)
  go_wp2_with fail
  go_returns
  exact ⟨rfl, hv1, Tch.touch (by (repeat' first | (with_reducible first | exact Tch.refl _ _ _ | assumption | refine Tch.alloc ?_ ?_ _ | refine Tch.drew ?_ | refine Tch.drewN ?_ _ | refine Tch.setCell ?_ ?_ _ | refine Tch.setBlock ?_ (by simp) _ | refine tch_call (by assumption) ?_ ?_ | refine tch_below (by assumption) ?_ ?_ | exact zb6 _) | omega | (simp only [zsz, size_setBlock]; omega) | (simp; omega)))⟩
end
end
section
open Go.RowKit
section
variable {lk hm cm b o n cap : Nat} {D : List UInt8} {dp bud : Int}
theorem vkeys {w : World} {S : VS} {O : List Lead} (h : VOk w lk hm cm b o n cap D dp bud S O) (p q k f m : Int) (hk : wideB k = true) (h0 : 0 ≤ f) (h1 : f + 3 * k ≤ n) (hm0 : 0 ≤ m) (hO : ∀ a k', (-1, a, k') ∉ O) :
    Calls Try.prog 113 #[.pointer (some ⟨lk, 0, none⟩), .agg #[.int .i64 p, .int .i64 q, .int .i64 9, .int .i64 k], .int .i64 f, .int .i64 m] w (KPost w lk hm cm b o n cap D dp bud O (keysM D bud k f m S)) := by
  cases hr : keysRefM D k f S with
  | error y =>
    obtain ⟨s', a', e'⟩ := y
    rw [show keysM D bud k f m S = .error (s', a', e') by unfold keysM; rw [hr]]
    exact vkeys_a h p q k f m s' a' e' hk h0 h1 hr
  | ok y =>
    obtain ⟨S1, x⟩ := y
    obtain ⟨rfl, -, rfl, -⟩ := keysRefM_ok hr
    by_cases he : lfindE D f k 14 (kwOf D k f) = 0
    · by_cases hne : lCnt D f k 14 (kwOf D k f) = m
      · cases hkn : vknown S1.L (-1, f - loadV D f k, kwOf D k f) with
        | some hh =>
          rw [show keysM D bud k f m S1 = .ok (S1, ()) by unfold keysM; simp [hr, he, hne, hkn]]
          exact vkeys_d h p q k f m hh hk h0 h1 hr he (by simpa using hne) hkn (hO _ _)
        | none =>
          rw [show keysM D bud k f m S1 = keysUp (f - loadV D f k) (kwOf D k f) (keysLoop D bud f k (kwOf D k f) m.toNat 0 [] S1) by unfold keysM keysUp; simp only [hr, he, hne, hkn, ne_eq, not_true_eq_false, if_false]; cases keysLoop D bud f k (kwOf D k f) m.toNat 0 [] S1 <;> rfl]
          exact vkeys_e h p q k f m hk h0 h1 hr he (by simpa using hne) hkn (hO _ _) hm0 _ rfl
      · rw [show keysM D bud k f m S1 = .error (S1.s, f - loadV D f k, 214) by unfold keysM; simp [hr, he, hne]]
        exact vkeys_c h p q k f m hk h0 h1 hr he (by simpa using hne)
    · rw [show keysM D bud k f m S1 = .error (S1.s, f - loadV D f k, lfindE D f k 14 (kwOf D k f)) by unfold keysM; simp [hr, he]]
      exact vkeys_b h p q k f m hk h0 h1 hr he
/-- The data that is open: no keys, and all of it begins at the limit or behind. -/
def OInv (O : List Lead) (lim : Int) : Prop := ∀ t a k, (t, a, k) ∈ O → t ≠ -1 ∧ lim ≤ beginsV t k a
theorem vlook (f : Nat) : ∀ (w : World) (S : VS) (O : List Lead) (p q t k lim deep : Int), VOk w lk hm cm b o n cap D dp bud S O → mayE n p q t k = 0 → 0 ≤ lim → lim < f → OInv O lim → 0 ≤ deep → lim + deep ≤ 1073741826 →
    Calls Try.prog 29 #[.pointer (some ⟨lk, 0, none⟩), .agg #[.int .i64 p, .int .i64 q, .int .i64 t, .int .i64 k], .int .i64 lim, .int .i64 deep] w (LPost w lk hm cm b o n cap D dp bud O (lookM D dp bud f p q t k lim deep S)) := by
  induction f with
  | zero => intro w S O p q t k lim deep h hm' h0 h1; omega
  | succ f ih =>
    intro w S O p q t k lim deep h hm' hl0 hlf hO hd0 hd1
    obtain ⟨m1, m2, m3, m4, m5, m6, m7, m8, m9⟩ := mayE_zero hm'
    obtain ⟨t0, t37⟩ := kindOf_in m1
    by_cases hs : S.s + 1 ≤ bud
    rotate_left
    · rw [show lookM D dp bud (f + 1) p q t k lim deep S = .error (S.s, p, 290) by simp [lookM, stepM, hs]]
      exact vlook_a h p q t k lim deep hs
    have e1 : stepM bud 1 p S = .ok ({ S with s := S.s + 1 }, ()) := by unfold stepM; rw [if_pos hs]
    by_cases hd : dp < deep
    · rw [show lookM D dp bud (f + 1) p q t k lim deep S = .error (S.s + 1, p, 61) by simp [lookM, e1, hd]]
      exact vlook_b h p q t k lim deep hs hd
    cases hi : inlineB t with
    | true =>
      rw [show lookM D dp bud (f + 1) p q t k lim deep S = .ok ({ S with s := S.s + 1 }, 1) by simp [lookM, e1, hd, hi]]
      exact vlook_c h p q t k lim deep hs hd hi
    | false =>
    by_cases ht : tgtB D p q t k lim = true
    rotate_left
    · rw [show lookM D dp bud (f + 1) p q t k lim deep S = .error (S.s + 1, p, 211) by simp [lookM, e1, hd, hi, targetM, ht]]
      exact vlook_d h p q t k lim deep hm' hs hd hi ht
    obtain ⟨g1, g2⟩ := tgtB_le ht
    have v0 := loadV_nonneg D p q
    have hn := h.doc.sm
    have e2 : targetM D p q t k lim { S with s := S.s + 1 } = .ok ({ S with s := S.s + 1 }, p - loadV D p q) := by unfold targetM; rw [if_pos ht]
    have hnO : ∀ k', beginsV t k' (p - loadV D p q) = beginsV t k (p - loadV D p q) → (t, p - loadV D p q, k') ∉ O := by
      intro k' hk' hx
      have := (hO _ _ _ hx).2
      omega
    have hO' : ∀ k', beginsV t k' (p - loadV D p q) = beginsV t k (p - loadV D p q) → OInv ((t, p - loadV D p q, k') :: O) (beginsV t k (p - loadV D p q)) := by
      intro k' hk' t2 a2 k2 hx
      rcases List.mem_cons.1 hx with hx | hx
      · injection hx with x1 x2; injection x2 with x2 x3; subst x1; subst x2; subst x3; exact ⟨by omega, by omega⟩
      · have := hO _ _ _ hx; exact ⟨this.1, by omega⟩
    have HP : ∀ k', beginsV t k' (p - loadV D p q) = beginsV t k (p - loadV D p q) → HypPart lk hm cm b o n cap D dp bud { S with s := S.s + 1 } ((t, p - loadV D p q, k') :: O) p q t k (p - loadV D p q) deep
        (partM (lookM D dp bud f) D bud p q t k (p - loadV D p q) deep { S with s := S.s + 1 }) := by
      intro k' hk' W hW
      refine vpart (lookM D dp bud f) hW p q t k (p - loadV D p q) deep (wf64 (by omega) (by omega)) (fun h4 h5 h6 h7 h25 W hW => ?_)
      refine vvec (lookM D dp bud f) (lookM_inv D dp bud f) hW p q t k (p - loadV D p q) deep (by omega) (by omega) hd0 (by omega) ?_ ?_
      · intro he ht9 W hW
        subst ht9
        obtain ⟨z1, z2, z3, z4, z5, z6, z7, z8, z9, z10, z11⟩ := lfindE_zero he
        rw [show aheadOf 9 = 3 from rfl] at z11
        have hf := lfrom_begins he
        have hf0 := lFrom_nonneg D p q 9 k
        have hb9 : beginsV 9 k (p - loadV D p q) = p - loadV D p q - 3 * k := by simp [beginsV]
        refine vkeys hW p q k (lFrom D p q 9 k) (lCnt D p q 9 k) m3 hf0 (by omega) ?_ ?_
        · exact z6
        · intro a k' hx; exact absurd rfl (hO' _ hk' _ _ _ hx).1
      · intro he W S2 p' q' t' k' hW2 hm2
        have hf := lfrom_begins he
        have hf0 := lFrom_nonneg D p q t k
        exact ih W S2 _ p' q' t' k' (lFrom D p q t k) (deep + 1) hW2 hm2 hf0 (by omega) (hf ▸ hO' _ hk') (by omega) (by omega)
    by_cases h4 : t = 4
    · subst h4
      have hb0 : beginsV 4 0 (p - loadV D p q) = beginsV 4 k (p - loadV D p q) := by have := beginsV_lead 4 k (p - loadV D p q); simpa using this
      cases hkn : vknown S.L (4, p - loadV D p q, 0) with
      | some hh =>
        obtain ⟨k1, k2⟩ := h.kn _ _ _ _ (vknown_mem hkn)
        by_cases hle : deep + hh - 1 ≤ dp
        · rw [show lookM D dp bud (f + 1) p q 4 k lim deep S = .ok ({ S with s := S.s + 1 }, hh) by simp [lookM, e1, hd, hi, e2, leadOf, hkn, hle]]
          exact vlook_e4 h p q k lim deep hh hm' hs hd hi ht hkn (hnO _ hb0) hd0 (by omega) k1 (by omega) hle
        · rw [show lookM D dp bud (f + 1) p q 4 k lim deep S = .error (S.s + 1, p, 61) by simp [lookM, e1, hd, hi, e2, leadOf, hkn, hle]]
          exact vlook_en4 h p q k lim deep hh hm' hs hd hi ht hkn (hnO _ hb0) hd0 (by omega) k1 (by omega) (by omega)
      | none =>
        have hp := HP 0 hb0
        cases hpm : partM (lookM D dp bud f) D bud p q 4 k (p - loadV D p q) deep { S with s := S.s + 1 } with
        | ok y =>
          obtain ⟨S3, hh⟩ := y
          rw [hpm] at hp
          obtain ⟨-, i1, i2⟩ := partM_inv (lookM_inv D dp bud f) m8 g1 (show KInv (VS.mk (S.s + 1) S.L S.C).L from h.kn) hpm
          rw [show lookM D dp bud (f + 1) p q 4 k lim deep S = .ok ({ S3 with L := ((4, p - loadV D p q, 0), hh) :: S3.L }, hh) by simp [lookM, e1, hd, hi, e2, leadOf, hkn, hpm]]
          exact vlook_f4 h p q k lim deep hh hm' hs hd hi ht hkn (hnO _ hb0) hd0 (by omega) i1 (by omega) hp
        | error y =>
          obtain ⟨s', a', e'⟩ := y
          rw [hpm] at hp
          rw [show lookM D dp bud (f + 1) p q 4 k lim deep S = .error (s', a', e') by simp [lookM, e1, hd, hi, e2, leadOf, hkn, hpm]]
          exact vlook_fn4 h p q k lim deep s' a' e' hm' hs hd hi ht hkn (hnO _ hb0) hd0 (by omega) hp
    · cases hkn : vknown S.L (t, p - loadV D p q, k) with
      | some hh =>
        obtain ⟨k1, k2⟩ := h.kn _ _ _ _ (vknown_mem hkn)
        by_cases hle : deep + hh - 1 ≤ dp
        · rw [show lookM D dp bud (f + 1) p q t k lim deep S = .ok ({ S with s := S.s + 1 }, hh) by simp [lookM, e1, hd, hi, e2, leadOf, h4, hkn, hle]]
          exact vlook_e h p q t k lim deep hh hm' hs hd hi ht h4 hkn (hnO _ rfl) hd0 (by omega) k1 (by omega) hle
        · rw [show lookM D dp bud (f + 1) p q t k lim deep S = .error (S.s + 1, p, 61) by simp [lookM, e1, hd, hi, e2, leadOf, h4, hkn, hle]]
          exact vlook_en h p q t k lim deep hh hm' hs hd hi ht h4 hkn (hnO _ rfl) hd0 (by omega) k1 (by omega) (by omega)
      | none =>
        have hp := HP k rfl
        cases hpm : partM (lookM D dp bud f) D bud p q t k (p - loadV D p q) deep { S with s := S.s + 1 } with
        | ok y =>
          obtain ⟨S3, hh⟩ := y
          rw [hpm] at hp
          obtain ⟨-, i1, i2⟩ := partM_inv (lookM_inv D dp bud f) m8 g1 (show KInv (VS.mk (S.s + 1) S.L S.C).L from h.kn) hpm
          rw [show lookM D dp bud (f + 1) p q t k lim deep S = .ok ({ S3 with L := ((t, p - loadV D p q, k), hh) :: S3.L }, hh) by simp [lookM, e1, hd, hi, e2, leadOf, h4, hkn, hpm]]
          exact vlook_f h p q t k lim deep hh hm' hs hd hi ht h4 hkn (hnO _ rfl) hd0 (by omega) i1 (by omega) hp
        | error y =>
          obtain ⟨s', a', e'⟩ := y
          rw [hpm] at hp
          rw [show lookM D dp bud (f + 1) p q t k lim deep S = .error (s', a', e') by simp [lookM, e1, hd, hi, e2, leadOf, h4, hkn, hpm]]
          exact vlook_fn h p q t k lim deep s' a' e' hm' hs hd hi ht h4 hkn (hnO _ rfl) hd0 (by omega) hp
end
end
end Go.Proofs.Ytmpflnlajakibaa
