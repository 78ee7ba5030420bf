/- The plain laws of decode at the top: a vector's parts are the trees at its elements. -/
import Derived.Test.YtmpflnlajakibaaDm
namespace Go.Proofs.Ytmpflnlajakibaa
set_option linter.unusedVariables false
set_option linter.unusedSimpArgs false
open Go.RowKit
theorem treeD_ok {D : List UInt8} {dp m p q t k : Int} {T : DT} {f a : Int} (h : treeD D dp m p q t k = (T, f, a, 0)) : mayE D.length p q t k = 0 ∧ decN D dp (max m 0).toNat p q t k p 1 (max m 0) = .ok (T, f) ∧ a = 0 := by
  unfold treeD at h
  by_cases hm : mayE D.length p q t k = 0
  · rw [if_neg (by simpa using hm)] at h
    refine ⟨hm, ?_⟩
    split at h
    · rename_i a' e' he
      simp only [Prod.mk.injEq] at h
      obtain ⟨-, -, rfl, rfl⟩ := h
      exact absurd rfl (decN_ne _ _ _ _ _ _ _ _ _ _ he)
    · rename_i T' f' he
      simp only [Prod.mk.injEq] at h
      obtain ⟨rfl, rfl, rfl, -⟩ := h
      exact ⟨he, rfl⟩
  · rw [if_pos hm] at h
    simp only [Prod.mk.injEq] at h
    exact absurd h.2.2.2 hm
/-- A leaf's kind, and a vector's. -/
def leafK (kd : Int) : Bool := decide (1 ≤ kd) && decide (kd ≤ 9)
theorem bodyD_vec {dec : DecF} {D : List UInt8} {p q t k a d fu : Int} {kd nn u : Int} {s : List UInt8} {ks : List (List UInt8)} {l : List DT} {f : Int} (h : bodyD dec D p q t k a d fu = .ok (.mk kd nn u s ks l, f)) (hk : leafK kd = false) :
    lfindE D p q t k = 0 ∧ vloopD dec D p q t k a d (lCnt D p q t k).toNat 0 [] fu = .ok (l, f) := by
  have hkd := bodyD_kind h
  subst hkd
  unfold bodyD at h
  split at h
  · rename_i h0; subst h0; exact absurd hk (by decide)
  · split at h
    · rename_i h0; rcases h0 with rfl | rfl | rfl <;> exact absurd hk (by decide)
    · split at h
      · rename_i h0; rcases h0 with rfl | rfl <;> exact absurd hk (by decide)
      · split at h
        · rename_i h0; rcases h0 with rfl | rfl | rfl <;> exact absurd hk (by decide)
        · unfold vecD at h
          split at h
          · cases h
          · rename_i hE
            refine ⟨by simpa using hE, ?_⟩
            split at h
            · cases h
            · split at h
              · cases h
              · rename_i l' f' hx
                cases h
                exact hx
theorem treeD_parts {D : List UInt8} {dp m p q t k : Int} {kd nn u : Int} {s : List UInt8} {ks : List (List UInt8)} {l : List DT} {f a : Int} (h : treeD D dp m p q t k = (.mk kd nn u s ks l, f, a, 0)) (hk : leafK kd = false) :
    1 ≤ m ∧ lfindE D p q t k = 0 ∧ lCnt D p q t k = l.length ∧ ∃ F : Nat → Int, F 0 = m - 1 ∧ F l.length = f ∧ (∀ j, j ≤ l.length → 0 ≤ F j ∧ F j ≤ m - 1) ∧
      ∀ j (hj : j < l.length), latE D p q t k j = 0 ∧ treeD D (dp - 1) m (latP D p q t k j) (latQ D p q t k j) (latT D p q t k j) (latW D p q t k j) = (l[j], m - (F j - F (j + 1)), 0, 0) := by
  obtain ⟨hmay, hdec, -⟩ := treeD_ok h
  obtain ⟨g, hg⟩ : ∃ g, (max m 0).toNat = g := ⟨_, rfl⟩
  rw [hg] at hdec
  cases g with
  | zero => rw [decN] at hdec; cases hdec
  | succ g =>
    have hm : max m 0 = m := by omega
    rw [hm] at hdec
    rw [decN] at hdec
    dsimp only at hdec
    rw [if_neg (by omega)] at hdec
    by_cases hd : dp < 1
    · rw [if_pos hd] at hdec; cases hdec
    rw [if_neg hd] at hdec
    split at hdec
    · cases hdec
    obtain ⟨hE, hl⟩ := bodyD_vec hdec hk
    obtain ⟨ys, F, h1, h2, h3, h4, h5⟩ := vloopD_parts _ _ _ _ _ _ hl
    rw [List.nil_append] at h1
    subst h1
    obtain ⟨g0, -, -, -, -, g3, -⟩ := lfindE_zero hE
    obtain ⟨-, -, -, -, -, -, k1, -, -⟩ := mayE_zero hmay
    have hF : ∀ j, j ≤ l.length → 0 ≤ F j ∧ F j ≤ m - 1 := by
      intro j
      induction j with
      | zero => intro _; rw [h3]; omega
      | succ j ih =>
        intro hj
        have i1 := ih (by omega)
        have i2 := decN_le _ _ _ _ _ _ _ _ _ _ i1.1 (h5 j (by omega)).2
        omega
    refine ⟨by omega, hE, by omega, F, h3, by rw [h2]; exact h4, hF, fun j hj => ?_⟩
    obtain ⟨e1, e2⟩ := h5 j hj
    rw [Int.zero_add] at e1 e2
    refine ⟨e1, ?_⟩
    obtain ⟨f0, f1⟩ := hF j (by omega)
    have hmono := decN_mono (D := D) (dp := dp) (dp' := dp - 1) (c := m - F j) (by omega) g (g + 1) (latP D p q t k j) (latQ D p q t k j) (latT D p q t k j) (latW D p q t k j) (lFrom D p q t k) (1 + 1) 1 (F j) f0 (by omega) (by omega) (by omega)
    rw [e2] at hmono
    have hm2 : decN D (dp - 1) (g + 1) (latP D p q t k j) (latQ D p q t k j) (latT D p q t k j) (latW D p q t k j) (lFrom D p q t k) 1 (F j + (m - F j)) = .ok (l[j], F (j + 1) + (m - F j)) := hmono
    rw [show F j + (m - F j) = m by omega] at hm2
    have hlim : lFrom D p q t k ≤ latP D p q t k j := by
      have i1 : latP D p q t k j = lAt D p q t k + j * k := by simp [latP, e1]
      have i2 : lAt D p q t k = targetV D p q t k := by simp [lAt, hE]
      have i3 : lFrom D p q t k = targetV D p q t k - aheadOf t * k := by simp [lFrom, hE]
      have i4 : 0 ≤ aheadOf t * k := Int.mul_nonneg (aheadOf_bd t).1 (by omega)
      have i5 : 0 ≤ (j : Int) * k := Int.mul_nonneg (by omega) (by omega)
      omega
    have hm3 := decN_lim hm2 hlim
    unfold treeD
    rw [if_neg (by simpa using (dlat_may e1).1), hg, hm, hm3]
    simp only [Prod.mk.injEq, and_true, true_and]
    omega
end Go.Proofs.Ytmpflnlajakibaa
