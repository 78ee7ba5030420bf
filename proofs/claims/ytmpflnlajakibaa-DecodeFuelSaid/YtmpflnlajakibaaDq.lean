/- The plain laws of decode: the fuel used is the number of nodes; the least depth is the tree's depth. -/
import Derived.Test.YtmpflnlajakibaaDn
namespace Go.Proofs.Ytmpflnlajakibaa
set_option linter.unusedVariables false
set_option linter.unusedSimpArgs false
open Go.RowKit
mutual
def sizeD : DT → Int
  | .mk _ _ _ _ _ l => 1 + sizesD l
def sizesD : List DT → Int
  | [] => 0
  | t :: ts => sizeD t + sizesD ts
end
mutual
def depthD : DT → Int
  | .mk _ _ _ _ _ l => 1 + depthsD l
def depthsD : List DT → Int
  | [] => 0
  | t :: ts => max (depthD t) (depthsD ts)
end
mutual
theorem sizeD_pos : ∀ T : DT, 1 ≤ sizeD T
  | .mk _ _ _ _ _ l => by
    rw [sizeD]
    have := sizesD_nonneg l
    omega
theorem sizesD_nonneg : ∀ l : List DT, 0 ≤ sizesD l
  | [] => by rw [sizesD]; omega
  | t :: ts => by
    rw [sizesD]
    have := sizeD_pos t
    have := sizesD_nonneg ts
    omega
end
theorem depthsD_nonneg : ∀ l : List DT, 0 ≤ depthsD l
  | [] => by rw [depthsD]; omega
  | t :: ts => by
    rw [depthsD]
    have := depthsD_nonneg ts
    omega
/-- The reference decodes to T with any resources that suffice, and wants fuel with less. -/
def Dec1 (D : List UInt8) (p q t k lim : Int) (T : DT) : Prop := ∀ (dp' : Int) (g' : Nat) (d' fu' : Int), fu' ≤ g' → depthD T ≤ dp' - d' + 1 →
  (sizeD T ≤ fu' → decN D dp' g' p q t k lim d' fu' = .ok (T, fu' - sizeD T)) ∧ (0 ≤ fu' → fu' < sizeD T → ∃ a, decN D dp' g' p q t k lim d' fu' = .error (a, 260))
def DecL (D : List UInt8) (p q t k a : Int) (i : Int) (ys : List DT) : Prop := ∀ (dp' : Int) (g' : Nat) (d' fu' : Int) (acc : List DT), fu' ≤ g' → depthsD ys ≤ dp' - d' →
  (sizesD ys ≤ fu' → vloopD (decN D dp' g') D p q t k a d' ys.length i acc fu' = .ok (acc ++ ys, fu' - sizesD ys)) ∧ (0 ≤ fu' → fu' < sizesD ys → ∃ x, vloopD (decN D dp' g') D p q t k a d' ys.length i acc fu' = .error (x, 260))
theorem vloopD_least {D : List UInt8} {dp : Int} {g : Nat} (hd : ∀ p q t k lim d fu T f, 0 ≤ fu → decN D dp g p q t k lim d fu = .ok (T, f) → f = fu - sizeD T ∧ depthD T ≤ dp - d + 1 ∧ Dec1 D p q t k lim T) {p q t k a d : Int} :
    ∀ (r : Nat) (i : Int) (acc : List DT) (fu : Int) (l : List DT) (f : Int), 0 ≤ fu → vloopD (decN D dp g) D p q t k a d r i acc fu = .ok (l, f) →
      ∃ ys, l = acc ++ ys ∧ ys.length = r ∧ f = fu - sizesD ys ∧ depthsD ys ≤ max (dp - d) 0 ∧ (ys ≠ [] → depthsD ys ≤ dp - d) ∧ DecL D p q t k a i ys
  | 0, i, acc, fu, l, f, h0, h => by
    rw [vloopD] at h
    cases h
    refine ⟨[], by simp, rfl, by rw [sizesD]; omega, by rw [depthsD]; omega, fun h => absurd rfl h, ?_⟩
    intro dp' g' d' fu' acc' h1 h2
    refine ⟨fun _ => ?_, fun h3 h4 => ?_⟩
    · rw [List.length_nil, vloopD, sizesD, List.append_nil, Int.sub_zero]
    · rw [sizesD] at h4; omega
  | r + 1, i, acc, fu, l, f, h0, h => by
    rw [vloopD] at h
    by_cases hE : latE D p q t k i = 0
    · rw [if_neg (by simpa using hE)] at h
      cases hx : decN D dp g (latP D p q t k i) (latQ D p q t k i) (latT D p q t k i) (latW D p q t k i) (lFrom D p q t k) (d + 1) fu with
      | error x => rw [hx] at h; cases h
      | ok yf =>
        obtain ⟨y, fu1⟩ := yf
        rw [hx] at h
        dsimp only at h
        obtain ⟨i1, i2, i3⟩ := hd _ _ _ _ _ _ _ _ _ h0 hx
        have hle := decN_le _ _ _ _ _ _ _ _ _ _ h0 hx
        obtain ⟨ys, j1, j2, j3, j4, j5, j6⟩ := vloopD_least hd r (i + 1) (acc ++ [y]) fu1 l f hle.1 h
        have hp := sizeD_pos y
        have hn := sizesD_nonneg ys
        refine ⟨y :: ys, by rw [j1]; simp, by simp [j2], by rw [sizesD]; omega, by rw [depthsD]; omega, fun _ => ?_, ?_⟩
        · rw [depthsD]
          by_cases hy : ys = []
          · subst hy; rw [depthsD]; have : 1 ≤ depthD y := by { cases y with | mk kd n u s ks l => rw [depthD]; have := depthsD_nonneg l; omega }; omega
          · have := j5 hy; omega
        · intro dp' g' d' fu' acc' h1 h2
          rw [depthsD] at h2
          rw [sizesD, List.length_cons, vloopD, if_neg (by simpa using hE)]
          obtain ⟨k1, k2⟩ := i3 dp' g' (d' + 1) fu' h1 (by omega)
          refine ⟨fun h3 => ?_, fun h3 h4 => ?_⟩
          · rw [k1 (by omega)]
            dsimp only
            obtain ⟨m1, -⟩ := j6 dp' g' d' (fu' - sizeD y) (acc' ++ [y]) (by omega) (by omega)
            rw [m1 (by omega), List.append_assoc]
            simp only [List.singleton_append]
            congr 2
            omega
          · by_cases h5 : fu' < sizeD y
            · obtain ⟨a', ha'⟩ := k2 h3 h5
              exact ⟨a', by rw [ha']⟩
            · rw [k1 (by omega)]
              dsimp only
              obtain ⟨-, m2⟩ := j6 dp' g' d' (fu' - sizeD y) (acc' ++ [y]) (by omega) (by omega)
              exact m2 (by omega) (by omega)
    · rw [if_pos hE] at h; cases h
/-- The body of a node decodes to T with whatever suffices. -/
def DecB (D : List UInt8) (p q t k a : Int) (T : DT) : Prop := ∀ (dp' : Int) (g' : Nat) (d' fu' : Int), fu' ≤ g' → depthD T - 1 ≤ dp' - d' →
  (sizeD T - 1 ≤ fu' → bodyD (decN D dp' g') D p q t k a d' fu' = .ok (T, fu' - (sizeD T - 1))) ∧ (0 ≤ fu' → fu' < sizeD T - 1 → ∃ x, bodyD (decN D dp' g') D p q t k a d' fu' = .error (x, 260))
theorem leaf_size (kd n u : Int) (s : List UInt8) (ks : List (List UInt8)) : sizeD (.mk kd n u s ks []) = 1 ∧ depthD (.mk kd n u s ks []) = 1 := by
  rw [sizeD, sizesD, depthD, depthsD]
  omega
theorem decB_leaf {D : List UInt8} {p q t k a : Int} {kd n u : Int} {s : List UInt8} {ks : List (List UInt8)} (h : ∀ (dec : DecF) (d fu : Int), bodyD dec D p q t k a d fu = .ok (.mk kd n u s ks [], fu)) : DecB D p q t k a (.mk kd n u s ks []) := by
  intro dp' g' d' fu' h1 h2
  obtain ⟨e1, e2⟩ := leaf_size kd n u s ks
  rw [e1]
  refine ⟨fun h3 => ?_, fun h3 h4 => by omega⟩
  rw [h]
  congr 2
  omega
theorem bodyD_least {D : List UInt8} {dp : Int} {g : Nat} (hd : ∀ p q t k lim d fu T f, 0 ≤ fu → decN D dp g p q t k lim d fu = .ok (T, f) → f = fu - sizeD T ∧ depthD T ≤ dp - d + 1 ∧ Dec1 D p q t k lim T) {p q t k a d fu : Int} {T : DT} {f : Int} (h0 : 0 ≤ fu) (hdd : d ≤ dp)
    (h : bodyD (decN D dp g) D p q t k a d fu = .ok (T, f)) : f = fu - (sizeD T - 1) ∧ depthD T - 1 ≤ dp - d ∧ DecB D p q t k a T := by
  have hb := h
  unfold bodyD at h
  by_cases t0 : t = 0
  · rw [if_pos t0] at h
    cases h
    obtain ⟨e1, e2⟩ := leaf_size (kindD t) 0 0 [] []
    exact ⟨by omega, by omega, decB_leaf fun dec d fu => by unfold bodyD; rw [if_pos t0]⟩
  rw [if_neg t0] at h
  by_cases t1 : t = 1 ∨ t = 6 ∨ t = 26
  · rw [if_pos t1] at h
    split at h
    · cases h
    · rename_i hs
      cases h
      obtain ⟨e1, e2⟩ := leaf_size (kindD t) (intV D p q t k) 0 [] []
      exact ⟨by omega, by omega, decB_leaf fun dec d fu => by unfold bodyD; rw [if_neg t0, if_pos t1, if_neg hs]⟩
  rw [if_neg t1] at h
  by_cases t2 : t = 2 ∨ t = 7
  · rw [if_pos t2] at h
    split at h
    · cases h
    · rename_i hs
      cases h
      obtain ⟨e1, e2⟩ := leaf_size (kindD t) 0 (uintV D p q t k) [] []
      exact ⟨by omega, by omega, decB_leaf fun dec d fu => by unfold bodyD; rw [if_neg t0, if_neg t1, if_pos t2, if_neg hs]⟩
  rw [if_neg t2] at h
  by_cases t4 : t = 4 ∨ t = 5 ∨ t = 25
  · rw [if_pos t4] at h
    split at h
    · cases h
    · rename_i hs
      cases h
      obtain ⟨e1, e2⟩ := leaf_size (kindD t) 0 0 (findS D p q t k true) []
      exact ⟨by omega, by omega, decB_leaf fun dec d fu => by unfold bodyD; rw [if_neg t0, if_neg t1, if_neg t2, if_pos t4, if_neg hs]⟩
  rw [if_neg t4] at h
  unfold vecD at h
  by_cases hE : lfindE D p q t k = 0
  rotate_left
  · rw [if_pos hE] at h; cases h
  rw [if_neg (by simpa using hE)] at h
  cases hk : (if t = 9 then keysD D k (lFrom D p q t k) (lCnt D p q t k) else .ok []) with
  | error x => rw [hk] at h; cases h
  | ok ks =>
    rw [hk] at h
    dsimp only at h
    cases hx : vloopD (decN D dp g) D p q t k a d (lCnt D p q t k).toNat 0 [] fu with
    | error x => rw [hx] at h; cases h
    | ok lf =>
      obtain ⟨l, f'⟩ := lf
      rw [hx] at h
      cases h
      obtain ⟨ys, j1, j2, j3, j4, j5, j6⟩ := vloopD_least hd _ _ _ _ _ _ h0 hx
      rw [List.nil_append] at j1
      subst j1
      rw [sizeD, depthD]
      refine ⟨by omega, by omega, ?_⟩
      intro dp' g' d' fu' h1 h2
      rw [depthD] at h2
      rw [sizeD]
      obtain ⟨m1, m2⟩ := j6 dp' g' d' fu' [] h1 (by omega)
      rw [j2, List.nil_append] at m1
      rw [j2] at m2
      have hun : bodyD (decN D dp' g') D p q t k a d' fu' = (match vloopD (decN D dp' g') D p q t k a d' (lCnt D p q t k).toNat 0 [] fu' with
          | .error x => .error x
          | .ok (l, fu') => .ok (.mk (kindD t) 0 0 [] ks l, fu')) := by
        unfold bodyD vecD
        rw [if_neg t0, if_neg t1, if_neg t2, if_neg t4, if_neg (by simpa using hE), hk]
        rfl
      rw [hun]
      refine ⟨fun h3 => ?_, fun h3 h4 => ?_⟩
      · rw [m1 (by omega)]
        dsimp only
        congr 2
        omega
      · obtain ⟨x, hx'⟩ := m2 h3 (by omega)
        exact ⟨x, by rw [hx']⟩
theorem decN_least {D : List UInt8} {dp : Int} : ∀ (g : Nat) (p q t k lim d fu : Int) (T : DT) (f : Int), 0 ≤ fu → decN D dp g p q t k lim d fu = .ok (T, f) → f = fu - sizeD T ∧ depthD T ≤ dp - d + 1 ∧ Dec1 D p q t k lim T
  | 0, p, q, t, k, lim, d, fu, T, f, h0, h => by rw [decN] at h; cases h
  | g + 1, p, q, t, k, lim, d, fu, T, f, h0, h => by
    rw [decN] at h
    dsimp only at h
    by_cases hf : fu = 0
    · rw [if_pos hf] at h; cases h
    rw [if_neg hf] at h
    by_cases hd : dp < d
    · rw [if_pos hd] at h; cases h
    rw [if_neg hd] at h
    by_cases ht : inlineB t = false ∧ tgtB D p q t k lim = false
    · rw [if_pos ht] at h; cases h
    rw [if_neg ht] at h
    obtain ⟨i1, i2, i3⟩ := bodyD_least (decN_least g) (by omega) (by omega) h
    refine ⟨by omega, by omega, ?_⟩
    intro dp' g' d' fu' h1 h2
    have hp := sizeD_pos T
    have hdp : 1 ≤ depthD T := by
      cases T with
      | mk kd n u s ks l => rw [depthD]; have := depthsD_nonneg l; omega
    cases g' with
    | zero =>
      refine ⟨fun h3 => by omega, fun h3 h4 => ⟨p, by rw [decN]⟩⟩
    | succ g' =>
      rw [decN]
      dsimp only
      by_cases hf' : fu' = 0
      · rw [if_pos hf']
        exact ⟨fun h3 => by omega, fun _ _ => ⟨p, rfl⟩⟩
      rw [if_neg hf', if_neg (show ¬ dp' < d' by omega), if_neg ht]
      obtain ⟨k1, k2⟩ := i3 dp' g' d' (fu' - 1) (by omega) (by omega)
      refine ⟨fun h3 => ?_, fun h3 h4 => k2 (by omega) (by omega)⟩
      rw [k1 (by omega)]
      congr 2
      omega
theorem depthD_pos (T : DT) : 1 ≤ depthD T := by
  cases T with
  | mk kd n u s ks l => rw [depthD]; have := depthsD_nonneg l; omega
theorem treeD_of {D : List UInt8} {dp m p q t k : Int} (hm : mayE D.length p q t k = 0) {T : DT} {f : Int} (h : decN D dp (max m 0).toNat p q t k p 1 (max m 0) = .ok (T, f)) : treeD D dp m p q t k = (T, f, 0, 0) := by
  unfold treeD
  rw [if_neg (by simpa using hm), h]
theorem treeD_of_err {D : List UInt8} {dp m p q t k : Int} (hm : mayE D.length p q t k = 0) {a e : Int} (h : decN D dp (max m 0).toNat p q t k p 1 (max m 0) = .error (a, e)) : treeD D dp m p q t k = (zeroT, 0, a, e) := by
  unfold treeD
  rw [if_neg (by simpa using hm), h]
theorem treeD_fuel {D : List UInt8} {dp m p q t k : Int} {T : DT} {f a : Int} (h : treeD D dp m p q t k = (T, f, a, 0)) :
    (m = f + sizeD T ∧ 0 ≤ f ∧ depthD T ≤ dp) ∧ (∀ dp' m', depthD T ≤ dp' → sizeD T ≤ m' → treeD D dp' m' p q t k = (T, m' - sizeD T, 0, 0)) ∧
      (∀ dp' m', depthD T ≤ dp' → m' < sizeD T → ∃ a', treeD D dp' m' p q t k = (zeroT, 0, a', 260)) ∧ (∀ dp' m', dp' < depthD T → (treeD D dp' m' p q t k).2.2.2 ≠ 0) := by
  obtain ⟨hmay, hdec, -⟩ := treeD_ok h
  obtain ⟨i1, i2, i3⟩ := decN_least _ _ _ _ _ _ _ _ _ _ (by omega) hdec
  have hle := decN_le _ _ _ _ _ _ _ _ _ _ (by omega) hdec
  have hp := sizeD_pos T
  refine ⟨⟨by omega, hle.1, by omega⟩, fun dp' m' h1 h2 => ?_, fun dp' m' h1 h2 => ?_, fun dp' m' h1 h2 => ?_⟩
  · refine treeD_of hmay ?_
    rw [(i3 dp' (max m' 0).toNat 1 (max m' 0) (by omega) (by omega)).1 (by omega)]
    congr 2
    omega
  · obtain ⟨a', ha'⟩ := (i3 dp' (max m' 0).toNat 1 (max m' 0) (by omega) (by omega)).2 (by omega) (by omega)
    exact ⟨a', treeD_of_err hmay ha'⟩
  · have he := h2
    have hall : treeD D dp' m' p q t k = ((treeD D dp' m' p q t k).1, (treeD D dp' m' p q t k).2.1, (treeD D dp' m' p q t k).2.2.1, 0) := by rw [← he]
    generalize (treeD D dp' m' p q t k).1 = T' at hall
    generalize (treeD D dp' m' p q t k).2.1 = f' at hall
    generalize (treeD D dp' m' p q t k).2.2.1 = a' at hall
    obtain ⟨-, hdec', -⟩ := treeD_ok hall
    obtain ⟨j1, j2, j3⟩ := decN_least _ _ _ _ _ _ _ _ _ _ (by omega) hdec'
    have hp' := sizeD_pos T'
    have u1 := (i3 (max (depthD T) (depthD T')) (max (sizeD T) (sizeD T')).toNat 1 (max (sizeD T) (sizeD T')) (by omega) (by omega)).1 (by omega)
    have u2 := (j3 (max (depthD T) (depthD T')) (max (sizeD T) (sizeD T')).toNat 1 (max (sizeD T) (sizeD T')) (by omega) (by omega)).1 (by omega)
    rw [u1] at u2
    cases u2
    omega
theorem treeD_more {D : List UInt8} {dp dp' m m' p q t k : Int} (hd : dp ≤ dp') (hm : max m 0 ≤ max m' 0) {T : DT} {f a e : Int} (h : treeD D dp m p q t k = (T, f, a, e)) (h1 : e ≠ 0) (h2 : e ≠ 260) (h3 : e ≠ 61) :
    (treeD D dp' m' p q t k).2.2.2 = e := by
  by_cases hmay : mayE D.length p q t k = 0
  · cases hx : decN D dp (max m 0).toNat p q t k p 1 (max m 0) with
    | ok y =>
      obtain ⟨T', f'⟩ := y
      rw [treeD_of hmay hx] at h
      simp only [Prod.mk.injEq] at h
      exact absurd h.2.2.2.symm h1
    | error y =>
      obtain ⟨a', e'⟩ := y
      rw [treeD_of_err hmay hx] at h
      simp only [Prod.mk.injEq] at h
      obtain ⟨-, -, -, rfl⟩ := h
      have hmono := decN_mono (D := D) (dp := dp) (dp' := dp') (c := max m' 0 - max m 0) (by omega) (max m 0).toNat (max m' 0).toNat p q t k p 1 1 (max m 0) (by omega) (by omega) (by omega) (by omega)
      rw [hx] at hmono
      rcases hmono with hh | hh | hh
      · exact absurd hh h2
      · exact absurd hh h3
      · rw [show max m 0 + (max m' 0 - max m 0) = max m' 0 by omega] at hh
        rw [treeD_of_err hmay hh]
  · unfold treeD at h ⊢
    rw [if_pos hmay] at h ⊢
    simp only [Prod.mk.injEq] at h
    exact h.2.2.2
end Go.Proofs.Ytmpflnlajakibaa
