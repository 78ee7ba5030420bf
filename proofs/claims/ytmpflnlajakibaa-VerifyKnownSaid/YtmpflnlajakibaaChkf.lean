/- The reference's check: keys, vector and Look, whole. -/
import Derived.Test.YtmpflnlajakibaaChk6
import Derived.Test.YtmpflnlajakibaaChk7
import Derived.Test.YtmpflnlajakibaaChk8
import Derived.Test.YtmpflnlajakibaaChka
import Derived.Test.YtmpflnlajakibaaChkb
import Derived.Test.YtmpflnlajakibaaChkd
import Derived.Test.YtmpflnlajakibaaChke
namespace Go.Proofs.Ytmpflnlajakibaa
set_option linter.unusedVariables false
set_option linter.unusedSimpArgs false
set_option linter.unusedSectionVars false
open Go.RowKit
section
variable {lk b o n cap : Nat} {D : List UInt8} {dp bud : Int}
theorem rkeys {K : Nat → Prop} {w : World} {S : VS} (h : ROk K w lk b o n cap D dp bud S) (hl : (S.L.length : Int) ≤ 4294967296) (p q k f m : Int) (hk : wideB k = true) (h0 : 0 ≤ f) (h1 : f + 3 * k ≤ n) :
    Calls Try.prog 95 #[.pointer (some ⟨lk, 0, none⟩), .agg #[.int .i64 p, .int .i64 q, .int .i64 9, .int .i64 k], .int .i64 f, .int .i64 m] w fun en w' => en = .returned (.tuple #[]) ∧ RV K w' lk b o n cap D dp bud (toX (keysM D bud k f m S)) ∧ RKept K w w' := by
  by_cases hv : f < loadV D f k
  · rw [show keysM D bud k f m S = .error (S.s, f, 211) by simp [keysM, keysRefM, hv]]
    exact rkeys_a1 h p q k f m hk h0 h1 hv
  · cases hw : wideB (kwOf D k f) with
    | false =>
      rw [show keysM D bud k f m S = .error (S.s, f + k, 212) by simp [keysM, keysRefM, hv, hw]]
      exact rkeys_a2 h p q k f m hk h0 h1 hv hw
    | true =>
      by_cases ht : tgtB D f k 14 (kwOf D k f) f = true
      · by_cases he : lfindE D f k 14 (kwOf D k f) = 0
        · by_cases hc : lCnt D f k 14 (kwOf D k f) = m
          · cases hkn : vknown S.L (-1, f - loadV D f k, kwOf D k f) with
            | some x =>
              rw [show keysM D bud k f m S = .ok (S, ()) by simp [keysM, keysRefM, targetM, hv, hw, ht, he, hc, hkn]]
              exact rkeys_d h hl p q k f m x hk h0 h1 hv hw ht he hc hkn
            | none =>
              rw [show toX (keysM D bud k f m S) = kUp (f - loadV D f k) (kwOf D k f) (keysLoop D bud f k (kwOf D k f) m.toNat 0 [] S) by
                simp only [keysM, keysRefM, targetM, hv, hw, ht, he, hc, hkn, if_true, if_false, ne_eq, not_true_eq_false, Bool.true_eq_false]
                cases keysLoop D bud f k (kwOf D k f) m.toNat 0 [] S <;> rfl]
              exact rkeys_e h hl p q k f m hk h0 h1 hv hw ht he hc hkn _ rfl
          · rw [show keysM D bud k f m S = .error (S.s, f - loadV D f k, 214) by simp [keysM, keysRefM, targetM, hv, hw, ht, he, hc]]
            exact rkeys_c h p q k f m hk h0 h1 hv hw ht he hc
        · rw [show keysM D bud k f m S = .error (S.s, f - loadV D f k, lfindE D f k 14 (kwOf D k f)) by simp [keysM, keysRefM, targetM, hv, hw, ht, he]]
          exact rkeys_b h p q k f m hk h0 h1 hv hw ht he
      · rw [show keysM D bud k f m S = .error (S.s, f, 211) by simp [keysM, keysRefM, targetM, hv, hw, ht]]
        exact rkeys_a3 h p q k f m hk h0 h1 hv hw ht
set_option maxHeartbeats 8000000 in
set_option maxRecDepth 100000 in
theorem rvec_e {K : Nat → Prop} {w : World} {S : VS} (h : ROk K w lk b o n cap D dp bud S) (p q t k a deep : Int) (he : lfindE D p q t k ≠ 0) :
    Calls Try.prog 59 #[.pointer (some ⟨lk, 0, none⟩), .agg #[.int .i64 p, .int .i64 q, .int .i64 t, .int .i64 k], .int .i64 a, .int .i64 deep] w (RLP K w lk b o n cap D dp bud (.error (S.s, a, lfindE D p q t k))) := by
  have hK := h.hK
  have hlk := h.lkt
  have hD := h.doc
  have HB := Lib.hid h.kb
  have he' : (lfindE D p q t k != 0) = true := by simpa using he
  have HE := Lib.hid he
  clear he
  go_enter Try.func59, Try.ntmps59
  go_upto_region 1 with fail
  refine wp_named (fun wn => ROk (fun i => K i ∨ i = w.heap.size) wn lk b o n cap D dp bud S ∧ RKept K w wn ∧ w.heap.size < wn.heap.size ∧ CL wn w.heap.size p q t k) ⟨h.enter (by (repeat' first | (with_reducible first | exact zb0 _ _ | assumption | refine zb1 ?_ ?_ _ | refine zb2 ?_ | refine zb3 ?_ _ | refine zb4 ?_ ?_ _ | refine zb5 (by assumption) ?_ ?_ | exact zb6 _) | omega | (simp <;> omega))) (fun i hi => by subst hi; simp), by (repeat' first | (with_reducible first | exact zr0 _ _ | assumption | refine zr1 hK ?_ ?_ _ | refine zr2 ?_ | refine zr3 hK ?_ _ | refine zr4 hK ?_ ?_ _ | refine zr5 (by assumption) ?_ | refine zr6 (by assumption) ?_ | refine zr7 hK (by assumption) ?_ ?_ | exact zb6 _) | omega | (simp <;> omega)), by simp, by go_simp, by go_simp, by go_simp, by go_simp⟩ ?_
  obtain ⟨X, hX0⟩ : ∃ X, w.heap.size = X := ⟨_, rfl⟩
  rw [hX0]
  have hXn : w.heap.size ≤ X := by omega
  rintro wn ⟨hvn, hkn, hX, z0, z1, z2, z3⟩
  have z4 := hvn.c0
  have hDn := hvn.doc
  have gln := hvn.lkt
  have hBn : w.heap.size ≤ wn.heap.size := hkn.size
  go_region_held3 (fun w' => w'.cell? ⟨X, 0, none⟩ = some (.int .i64 p) ∧ w'.cell? ⟨X, 1, none⟩ = some (.int .i64 q) ∧ w'.cell? ⟨X, 2, none⟩ = some (.int .i64 t) ∧ w'.cell? ⟨X, 3, none⟩ = some (.int .i64 k) ∧ w'.cell? ⟨lk, 0, none⟩ = some (.slice (some ⟨b, o, none⟩) n cap)) (first | (with_reducible exact ⟨z0, z1, z2, z3, z4⟩) | (refine ⟨?_, ?_, ?_, ?_, ?_⟩ <;> go_keep)) (((go_at_call 93; refine (rSpan_any _ _ _ _ D p q t k _ (hDn.below (by (repeat' first | (with_reducible first | exact zb0 _ _ | assumption | refine zb1 ?_ ?_ _ | refine zb2 ?_ | refine zb3 ?_ _ | refine zb4 ?_ ?_ _ | refine zb5 (by assumption) ?_ ?_ | exact zb6 _) | omega | (simp <;> omega))))).mono ?_; rintro e w1 ⟨rfl, hb1⟩; obtain ⟨hc1, hf1, hl1⟩ := bcell hb1; (try simp only [zdz] at hc1 hf1 hl1); have hz1 := hb1.size; (try simp only [zsz] at hz1); (try have g0 : w.heap.size < w1.heap.size := by omega); (try have g1 : w.heap.size + 1 < w1.heap.size := by omega); (try have gl : lk < w1.heap.size := by omega)); (have gX : X < w1.heap.size := by omega); (have gl9 : lk < w1.heap.size := by omega)))
  go_wp2_with (go_at_call 52; refine (rtell_no (hvn.keep (by (repeat' first | (with_reducible first | exact zb0 _ _ | assumption | refine zb1 ?_ ?_ _ | refine zb2 ?_ | refine zb3 ?_ _ | refine zb4 ?_ ?_ _ | refine zb5 (by assumption) ?_ ?_ | exact zb6 _) | omega | (simp <;> omega)))) a _ HE.out).mono ?_; rintro en w2 ⟨rfl, hv2, hk2⟩)
  go_returns
  exact ⟨⟨_, rfl⟩, hv2.less HB.out, by (repeat' first | (with_reducible first | exact zr0 _ _ | assumption | refine zr1 hK ?_ ?_ _ | refine zr2 ?_ | refine zr3 hK ?_ _ | refine zr4 hK ?_ ?_ _ | refine zr5 (by assumption) ?_ | refine zr6 (by assumption) ?_ | refine zr7 hK (by assumption) ?_ ?_ | exact zb6 _) | omega | (simp <;> omega))⟩
theorem rUp_vecM {look : LookF} {p q t k a deep : Int} {S : VS} {z : VR Unit} (he : lfindE D p q t k = 0) (hz : (if t = 9 then keysM D bud k (lFrom D p q t k) (lCnt D p q t k) S else .ok (S, ())) = z) :
    rUp (vecU look D p q t k a deep (lCnt D p q t k).toNat 0 0 (toX z)) = vecM look D bud p q t k a deep S := by
  unfold vecM
  rw [hz]
  simp only [he, ne_eq, not_true_eq_false, if_false]
  cases z with
  | error x => rfl
  | ok y =>
    obtain ⟨S1, u⟩ := y
    show rUp (vecLoop look D p q t k a deep (lCnt D p q t k).toNat 0 0 S1) = match vecLoop look D p q t k a deep (lCnt D p q t k).toNat 0 0 S1 with | .error x => .error x | .ok (S2, h) => .ok (S2, h + 1)
    cases vecLoop look D p q t k a deep (lCnt D p q t k).toNat 0 0 S1 <;> rfl
theorem rvec {K : Nat → Prop} {w : World} {S : VS} (look : LookF) (hlg : LGood look) (hnew : LNew look D) (h : ROk K w lk b o n cap D dp bud S) (hl : (S.L.length : Int) + 1 ≤ 2 * S.s) (p q t k a deep : Int) (ha0 : 0 ≤ a) (ha1 : a ≤ 1073741824) (hd0 : 0 ≤ deep) (hd1 : deep ≤ 2147483648)
    (HL : lfindE D p q t k = 0 → HypRLook look lk b o n cap D dp bud (lFrom D p q t k) (deep + 1)) :
    Calls Try.prog 59 #[.pointer (some ⟨lk, 0, none⟩), .agg #[.int .i64 p, .int .i64 q, .int .i64 t, .int .i64 k], .int .i64 a, .int .i64 deep] w (RLP K w lk b o n cap D dp bud (vecM look D bud p q t k a deep S)) := by
  by_cases he : lfindE D p q t k = 0
  · have hs1 := h.s1
    have hbd := h.bd
    by_cases h9 : t = 9
    · subst h9
      rw [← rUp_vecM (bud := bud) (z := keysM D bud k (lFrom D p q 9 k) (lCnt D p q 9 k) S) he (if_pos rfl)]
      refine rvec_9 look hlg hnew h p q k a deep he ha0 ha1 hd0 hd1 _ (fun K W hW => ?_) (fun S1 hS1 => ?_) (HL he) _ rfl
      · obtain ⟨z1, z2, z3, z4, z5, z6, z7, z8, z9, z10, z11⟩ := lfindE_zero he
        obtain ⟨-, -, m3, m4, m5, m6, m7, m8, m9⟩ := mayE_zero (targetE_zero z1).1
        rw [show aheadOf 9 = 3 from rfl] at z11
        rw [h.doc.len] at m9
        exact rkeys hW (by omega) p q k _ _ m3 z3 (by omega)
      · cases hk : keysM D bud k (lFrom D p q 9 k) (lCnt D p q 9 k) S with
        | error x => rw [hk] at hS1; cases hS1
        | ok y =>
          obtain ⟨S', u⟩ := y
          rw [hk] at hS1
          have hS1 : S' = S1 := by injection hS1
          subst hS1
          obtain ⟨N, n1, -, n3, -, -⟩ := keysM_adds (lim := 0) hk
          rw [n1, List.length_append]; push_cast; omega
    · have e9 : (t == 9) = false := by simpa using h9
      rw [← rUp_vecM (bud := bud) (z := .ok (S, ())) he (if_neg h9)]
      refine rvec_n look hlg hnew h p q t k a deep he e9 ha0 ha1 hd0 hd1 _ rfl (fun S1 hS1 => ?_) (HL he) _ rfl
      injection hS1 with hS1
      subst hS1
      omega
  · rw [show vecM look D bud p q t k a deep S = .error (S.s, a, lfindE D p q t k) by unfold vecM; rw [if_pos he]]
    exact rvec_e h p q t k a deep he
theorem lead_new {t A k c : Int} {S1 S3 : VS} (h0 : t ≠ -1) (hA : Adds (beginsV t k A) c S1 S3) (hk : vknown S1.L (leadOf t A k) = none) : leadOf t A k ∉ S3.L.map (·.1) := by
  obtain ⟨N, k1, k2, -, -, -⟩ := hA
  rw [k1, List.map_append]
  intro hm
  rcases List.mem_append.1 hm with hm | hm
  · obtain ⟨⟨⟨t', a', k'⟩, v⟩, hy, hz⟩ := List.mem_map.1 hm
    unfold leadOf at hz
    injection hz with z1 z2
    injection z2 with z2 z3
    subst z1; subst z2; subst z3
    have := k2 _ _ _ _ hy
    rw [beginsV_lead] at this
    omega
  · exact vknown_none hk hm
theorem rlook (f : Nat) : ∀ (K : Nat → Prop) (w : World) (S : VS) (p q t k lim deep : Int), ROk K w lk b o n cap D dp bud S → (S.L.length : Int) ≤ 2 * S.s → mayE n p q t k = 0 → 0 ≤ lim → lim < f → 0 ≤ deep → lim + deep ≤ 1073741826 →
    Calls Try.prog 31 #[.pointer (some ⟨lk, 0, none⟩), .agg #[.int .i64 p, .int .i64 q, .int .i64 t, .int .i64 k], .int .i64 lim, .int .i64 deep] w (RLP K w lk b o n cap D dp bud (lookM D dp bud f p q t k lim deep S)) := by
  induction f with
  | zero => intro K w S p q t k lim deep h hl hm' h0 h1; omega
  | succ f ih =>
    intro K w S p q t k lim deep h hl hm' hl0 hlf hd0 hd1
    obtain ⟨m1, m2, m3, m4, m5, m6, m7, m8, m9⟩ := mayE_zero hm'
    obtain ⟨t0, t37⟩ := kindOf_in m1
    have hs1 := h.s1
    have hbd := h.bd
    have hl2 : (S.L.length : Int) ≤ 4294967296 := by omega
    by_cases hs : S.s + 1 ≤ bud
    rotate_left
    · rw [show lookM D dp bud (f + 1) p q t k lim deep S = .error (S.s, p, 290) by simp [lookM, stepM, hs]]
      exact rlook_a h p q t k lim deep hs
    have e1 : stepM bud 1 p S = .ok ({ S with s := S.s + 1 }, ()) := by unfold stepM; rw [if_pos hs]
    by_cases hd : dp < deep
    · rw [show lookM D dp bud (f + 1) p q t k lim deep S = .error (S.s + 1, p, 61) by simp [lookM, e1, hd]]
      exact rlook_b h p q t k lim deep hs hd
    cases hi : inlineB t with
    | true =>
      rw [show lookM D dp bud (f + 1) p q t k lim deep S = .ok ({ S with s := S.s + 1 }, 1) by simp [lookM, e1, hd, hi]]
      exact rlook_c h p q t k lim deep hs hd hi
    | false =>
    by_cases ht : tgtB D p q t k lim = true
    rotate_left
    · rw [show lookM D dp bud (f + 1) p q t k lim deep S = .error (S.s + 1, p, 211) by simp [lookM, e1, hd, hi, targetM, ht]]
      exact rlook_d h p q t k lim deep hm' hs hd hi ht
    obtain ⟨g1, g2⟩ := tgtB_le ht
    have v0 := loadV_nonneg D p q
    have hn := h.doc.sm
    have hDl := h.doc.len
    have e2 : targetM D p q t k lim { S with s := S.s + 1 } = .ok ({ S with s := S.s + 1 }, p - loadV D p q) := by unfold targetM; rw [if_pos ht]
    have hlead : leadOf t (p - loadV D p q) k = (t, p - loadV D p q, if t = 4 then 0 else k) := rfl
    cases hkn : vknown S.L (leadOf t (p - loadV D p q) k) with
    | some hh =>
      obtain ⟨k1, k2⟩ := h.kn _ _ _ _ (vknown_mem hkn)
      rw [beginsV_lead] at k2
      by_cases h4 : t = 4
      · subst h4
        by_cases hle : deep + hh - 1 ≤ dp
        · rw [show lookM D dp bud (f + 1) p q 4 k lim deep S = .ok ({ S with s := S.s + 1 }, hh) by simp only [lookM, e1, hd, hi, e2, hkn, hle, if_true, if_false, Bool.false_eq_true]]
          exact rlook_e4 h p q k lim deep hm' hl2 hs hd hi ht hd0 (by omega) hh hkn k1 (by omega) hle
        · rw [show lookM D dp bud (f + 1) p q 4 k lim deep S = .error (S.s + 1, p, 61) by simp only [lookM, e1, hd, hi, e2, hkn, hle, if_true, if_false, Bool.false_eq_true]]
          exact rlook_en4 h p q k lim deep hm' hl2 hs hd hi ht hd0 (by omega) hh hkn k1 (by omega) hle
      · have e4 : (t == 4) = false := by simpa using h4
        have hkn' : vknown S.L (t, p - loadV D p q, k) = some hh := by rw [hlead, if_neg h4] at hkn; exact hkn
        by_cases hle : deep + hh - 1 ≤ dp
        · rw [show lookM D dp bud (f + 1) p q t k lim deep S = .ok ({ S with s := S.s + 1 }, hh) by simp only [lookM, e1, hd, hi, e2, hkn, hle, if_true, if_false, Bool.false_eq_true]]
          exact rlook_e h p q t k lim deep hm' hl2 hs hd hi ht e4 hd0 (by omega) hh hkn' k1 (by omega) hle
        · rw [show lookM D dp bud (f + 1) p q t k lim deep S = .error (S.s + 1, p, 61) by simp only [lookM, e1, hd, hi, e2, hkn, hle, if_true, if_false, Bool.false_eq_true]]
          exact rlook_en h p q t k lim deep hm' hl2 hs hd hi ht e4 hd0 (by omega) hh hkn' k1 (by omega) hle
    | none =>
      have hrw : lookM D dp bud (f + 1) p q t k lim deep S = match partM (lookM D dp bud f) D bud p q t k (p - loadV D p q) deep { S with s := S.s + 1 } with | .error x => .error x | .ok (S3, h) => .ok ({ S3 with L := (leadOf t (p - loadV D p q) k, h) :: S3.L }, h) := by
        simp only [lookM, e1, hd, hi, e2, hkn, if_false, Bool.false_eq_true]
        rcases partM (lookM D dp bud f) D bud p q t k (p - loadV D p q) deep { S with s := S.s + 1 } with x | ⟨S3, h⟩ <;> rfl
      have KN : ∀ S3 hh, partM (lookM D dp bud f) D bud p q t k (p - loadV D p q) deep { S with s := S.s + 1 } = .ok (S3, hh) → KInv ((leadOf t (p - loadV D p q) k, hh) :: S3.L) ∧ ND ((leadOf t (p - loadV D p q) k, hh) :: S3.L) ∧ (S3.L.length : Int) ≤ 2 * S3.s := by
        intro S3 hh hpm
        obtain ⟨i0, i1, i2⟩ := partM_inv (lookM_inv D dp bud f) m8 g1 (show KInv (VS.mk (S.s + 1) S.L S.C).L from h.kn) hpm
        have had := partM_adds (lookM_new D dp bud f) hpm
        refine ⟨KInv.cons i0 i1 (by rw [beginsV_lead]; exact i2), ?_, ?_⟩
        · have hnd := had
          obtain ⟨-, -, -, -, -, h5⟩ := hnd
          exact ND.cons (h5 h.nd) (lead_new (by omega) had hkn)
        · obtain ⟨N, n1, -, n3, -, -⟩ := had
          rw [n1, List.length_append]; push_cast; dsimp only at n3 ⊢; omega
      rw [hrw]
      by_cases t6 : t = 6
      · subst t6
        by_cases he : splaceE D p q 6 k = 0
        · have hpm : partM (lookM D dp bud f) D bud p q 6 k (p - loadV D p q) deep { S with s := S.s + 1 } = .ok ({ S with s := S.s + 1 }, 1) := by simp [partM, he]
          obtain ⟨a1, a2, -⟩ := KN _ _ hpm
          rw [hpm]
          exact rlook_f6 h p q k lim deep hm' hl2 hs hd hi ht hkn he hl2 a1 a2
        · have hpm : partM (lookM D dp bud f) D bud p q 6 k (p - loadV D p q) deep { S with s := S.s + 1 } = .error (S.s + 1, p - loadV D p q, splaceE D p q 6 k) := by simp [partM, he]
          rw [hpm]
          exact rlook_g6 h p q k lim deep hm' hl2 hs hd hi ht hkn he
      by_cases t7 : t = 7
      · subst t7
        by_cases he : splaceE D p q 7 k = 0
        · have hpm : partM (lookM D dp bud f) D bud p q 7 k (p - loadV D p q) deep { S with s := S.s + 1 } = .ok ({ S with s := S.s + 1 }, 1) := by simp [partM, he]
          obtain ⟨a1, a2, -⟩ := KN _ _ hpm
          rw [hpm]
          exact rlook_f7 h p q k lim deep hm' hl2 hs hd hi ht hkn he hl2 a1 a2
        · have hpm : partM (lookM D dp bud f) D bud p q 7 k (p - loadV D p q) deep { S with s := S.s + 1 } = .error (S.s + 1, p - loadV D p q, splaceE D p q 7 k) := by simp [partM, he]
          rw [hpm]
          exact rlook_g7 h p q k lim deep hm' hl2 hs hd hi ht hkn he
      by_cases t4 : t = 4
      · subst t4
        have HKY : ∀ r, keyM D bud p q k (p - loadV D p q) { S with s := S.s + 1 } = r → HypRKey lk b o n cap D dp bud { S with s := S.s + 1 } p q k (p - loadV D p q) r := by
          intro r hr K W hW
          by_cases he : findE D p q 4 k true = 0
          · exact rkey_b hW p q k _ he r hr
          · have : r = .error (S.s + 1, p - loadV D p q, findE D p q 4 k true) := by rw [← hr]; unfold keyM; rw [if_pos he]
            subst this
            exact rkey_a hW p q k _ he
        cases hkm : keyM D bud p q k (p - loadV D p q) { S with s := S.s + 1 } with
        | ok y =>
          obtain ⟨S3, sl⟩ := y
          have hpm : partM (lookM D dp bud f) D bud p q 4 k (p - loadV D p q) deep { S with s := S.s + 1 } = .ok (S3, 1) := by simp [partM, hkm]
          obtain ⟨a1, a2, a3⟩ := KN _ _ hpm
          rw [hpm]
          exact rlook_f4 h p q k lim deep hm' hl2 hs hd hi ht hkn _ S3 sl rfl (HKY _ hkm) a3 a1 a2
        | error y =>
          obtain ⟨s', a', e'⟩ := y
          have hpm : partM (lookM D dp bud f) D bud p q 4 k (p - loadV D p q) deep { S with s := S.s + 1 } = .error (s', a', e') := by simp [partM, hkm]
          rw [hpm]
          exact rlook_g4 h p q k lim deep hm' hl2 hs hd hi ht hkn _ s' a' e' rfl (HKY _ hkm)
      by_cases t5 : t = 5
      · subst t5
        by_cases he : findE D p q 5 k true = 0
        · have hpm : partM (lookM D dp bud f) D bud p q 5 k (p - loadV D p q) deep { S with s := S.s + 1 } = .ok ({ S with s := S.s + 1 }, 1) := by simp [partM, he]
          obtain ⟨a1, a2, -⟩ := KN _ _ hpm
          rw [hpm]
          exact rlook_f5 h p q k lim deep hm' hl2 hs hd hi ht hkn he hl2 a1 a2
        · have hpm : partM (lookM D dp bud f) D bud p q 5 k (p - loadV D p q) deep { S with s := S.s + 1 } = .error (S.s + 1, p - loadV D p q, findE D p q 5 k true) := by simp [partM, he]
          rw [hpm]
          exact rlook_g5 h p q k lim deep hm' hl2 hs hd hi ht hkn he
      by_cases t25 : t = 25
      · subst t25
        by_cases he : findE D p q 25 k true = 0
        · have hpm : partM (lookM D dp bud f) D bud p q 25 k (p - loadV D p q) deep { S with s := S.s + 1 } = .ok ({ S with s := S.s + 1 }, 1) := by simp [partM, he]
          obtain ⟨a1, a2, -⟩ := KN _ _ hpm
          rw [hpm]
          exact rlook_f25 h p q k lim deep hm' hl2 hs hd hi ht hkn he hl2 a1 a2
        · have hpm : partM (lookM D dp bud f) D bud p q 25 k (p - loadV D p q) deep { S with s := S.s + 1 } = .error (S.s + 1, p - loadV D p q, findE D p q 25 k true) := by simp [partM, he]
          rw [hpm]
          exact rlook_g25 h p q k lim deep hm' hl2 hs hd hi ht hkn he
      have hpv : partM (lookM D dp bud f) D bud p q t k (p - loadV D p q) deep { S with s := S.s + 1 } = vecM (lookM D dp bud f) D bud p q t k (p - loadV D p q) deep { S with s := S.s + 1 } := by
        unfold partM; rw [if_neg (by omega), if_neg (by omega), if_neg (by omega)]
      have hkn' : vknown S.L (t, p - loadV D p q, k) = none := by rw [hlead, if_neg t4] at hkn; exact hkn
      have HV : ∀ r, vecM (lookM D dp bud f) D bud p q t k (p - loadV D p q) deep { S with s := S.s + 1 } = r → HypRVec lk b o n cap D dp bud { S with s := S.s + 1 } p q t k (p - loadV D p q) deep r := by
        intro r hr K W hW
        subst hr
        refine rvec (lookM D dp bud f) (lookM_inv D dp bud f) (lookM_new D dp bud f) hW (by dsimp only; omega) p q t k _ deep (by omega) (by omega) hd0 (by omega) (fun he => ?_)
        intro K2 W2 S2 p' q' t' k' hW2 hl2' hm2
        have hf := lfrom_begins he
        have hf0 := lFrom_nonneg D p q t k
        exact ih K2 W2 S2 p' q' t' k' (lFrom D p q t k) (deep + 1) hW2 hl2' hm2 hf0 (by omega) (by omega) (by omega)
      have e4 : (t == 4) = false := by simpa using t4
      have e5 : (t == 5) = false := by simpa using t5
      have e6 : (t == 6) = false := by simpa using t6
      have e7 : (t == 7) = false := by simpa using t7
      have e25 : (t == 25) = false := by simpa using t25
      rw [hlead, if_neg t4] at KN ⊢
      cases hvm : vecM (lookM D dp bud f) D bud p q t k (p - loadV D p q) deep { S with s := S.s + 1 } with
      | ok y =>
        obtain ⟨S3, hh⟩ := y
        obtain ⟨a1, a2, a3⟩ := KN _ _ (hpv.trans hvm)
        rw [hpv, hvm]
        exact rlook_f h p q t k lim deep hm' hl2 hs hd hi ht hkn' e4 e5 e6 e7 e25 _ S3 hh rfl (HV _ hvm) a3 a1 a2
      | error y =>
        obtain ⟨s', a', e'⟩ := y
        rw [hpv, hvm]
        exact rlook_g h p q t k lim deep hm' hl2 hs hd hi ht hkn' e4 e5 e6 e7 e25 _ s' a' e' rfl (HV _ hvm)
end
end Go.Proofs.Ytmpflnlajakibaa
