/- The documents of VerifyShared: the plain law. No program here. -/
import Derived.Test.YtmpflnlajakibaaA6
namespace Go.Proofs.Ytmpflnlajakibaa
set_option linter.unusedVariables false
set_option linter.unusedSimpArgs false
open Go.RowKit
def gapS (m d : Nat) : Nat := if d = 0 then 0 else 2 * m
def shB (m : Nat) : Nat → List UInt8
  | 0 => [0]
  | d + 1 => shB m d ++ ([m.toUInt8] ++ ((List.range m).map (fun k => (gapS m d + 1 + k).toUInt8) ++ List.replicate m 40))
def shD (m d : Nat) : List UInt8 := shB m d ++ [(gapS m d).toUInt8, 40, 1]
theorem shB_len (m d : Nat) : (shB m d).length = 1 + d * (1 + 2 * m) := by
  induction d with
  | zero => simp [shB]
  | succ d ih => simp [shB, ih, Nat.add_mul]; omega
theorem load1 {D : List UInt8} {p : Nat} (h : p < D.length) : loadV D p 1 = ((D.getD p 0).toNat : Int) := by
  unfold loadV
  rw [if_pos (loadE_zero rfl (by omega) (by omega))]
  have : window D (p : Int).toNat (1 : Int).toNat = [D[p]] := by
    simp only [window, Int.toNat_natCast, show (1 : Int).toNat = 1 from rfl]
    rw [List.drop_eq_getElem_cons h]; rfl
  rw [this]
  simp [leVal, List.getD_eq_getElem?_getD, List.getElem?_eq_getElem h]
theorem vec10 {D : List UInt8} {p a c : Nat} (hp : p < D.length) (hl : loadV D p 1 = (p : Int) - a) (ha : 1 ≤ a) (hap : a ≤ p) (hc : (D.getD (a - 1) 0).toNat = c) (hfit : a + 2 * c ≤ D.length) :
    lfindE D p 1 10 1 = 0 ∧ lCnt D p 1 10 1 = c ∧ lAt D p 1 10 1 = a ∧ lFrom D p 1 10 1 = (a : Int) - 1 := by
  have hm : mayE D.length p 1 10 1 = 0 := by
    have hi : insideB D.length p 1 = true := by simp only [insideB, Bool.and_eq_true, decide_eq_true_eq]; omega
    unfold mayE
    rw [hi]; rfl
  have ht : targetE D p 1 10 1 = 0 := by
    unfold targetE
    rw [hm, hl, show inlineB 10 = false from rfl, if_neg (by omega), if_neg (by simp), if_neg (by omega)]
  have hv : targetV D p 1 10 1 = a := by unfold targetV; rw [if_pos ht, hl]; omega
  have hn : lcnt D a 10 1 = c := by
    unfold lcnt
    rw [show (tagB 10 || manyOf 10 == 0) = true from rfl, if_pos rfl, show (a : Int) - 1 = ((a - 1 : Nat) : Int) by omega, load1 (by omega), hc]
  have he : lfindE D p 1 10 1 = 0 := by
    unfold lfindE
    rw [hm, ht, hv, hn, show vectorB 10 = true from rfl, show aheadOf 10 = 1 from rfl, show eachOf 10 1 = 2 from rfl]
    rw [if_neg (by omega), if_neg (by simp), if_neg (by omega), if_neg (by omega), if_neg (by omega), if_neg (by omega)]
  refine ⟨he, ?_, ?_, ?_⟩
  · unfold lCnt; rw [if_pos he, hv, hn]
  · unfold lAt; rw [if_pos he, hv]
  · unfold lFrom; rw [if_pos he, hv, show aheadOf 10 = 1 from rfl]; omega
theorem el10 {D : List UInt8} {p a c : Nat} (hp : p < D.length) (hl : loadV D p 1 = (p : Int) - a) (ha : 1 ≤ a) (hap : a ≤ p) (hc : (D.getD (a - 1) 0).toNat = c) (hfit : a + 2 * c ≤ D.length) {i : Nat} (hi : i < c) (ht : D.getD (a + c + i) 0 = 40) :
    latE D p 1 10 1 i = 0 ∧ latP D p 1 10 1 i = ((a + i : Nat) : Int) ∧ latQ D p 1 10 1 i = 1 ∧ latT D p 1 10 1 i = 10 ∧ latW D p 1 10 1 i = 1 := by
  obtain ⟨h1, h2, h3, -⟩ := vec10 hp hl ha hap hc hfit
  have hy : tagY D p 1 10 1 i = 40 := by
    unfold tagY
    rw [h3, h2, show ((a : Int) + c * 1 + i).toNat = a + c + i by omega, ht]
  have he : latE D p 1 10 1 i = 0 := by
    unfold latE
    rw [h1, h2, hy, if_neg (by omega), if_neg (by omega)]; rfl
  refine ⟨he, ?_, ?_, ?_, ?_⟩
  · unfold latP; rw [if_pos he, h3]; omega
  · unfold latQ; rw [if_pos he]
  · unfold latT; rw [if_pos he, hy]; rfl
  · unfold latW; rw [if_pos he, hy]; rfl
def vA (m : Nat) : Nat → Nat
  | 0 => 1
  | j + 1 => 2 + j * (1 + 2 * m)
structure Nest (D : List UInt8) (m d : Nat) : Prop where
  c0 : (D.getD 0 0).toNat = 0
  cn : ∀ j, j < d → (D.getD (1 + j * (1 + 2 * m)) 0).toNat = m
  rf : ∀ j, j < d → ∀ k, k < m → (D.getD (2 + j * (1 + 2 * m) + k) 0).toNat = gapS m j + 1 + k
  tg : ∀ j, j < d → ∀ k, k < m → D.getD (2 + j * (1 + 2 * m) + m + k) 0 = 40
  len : 1 + d * (1 + 2 * m) ≤ D.length
theorem vA_gap (m j : Nat) : vA m j + gapS m j = 1 + j * (1 + 2 * m) := by
  cases j with
  | zero => simp [vA, gapS]
  | succ j => simp only [vA, gapS, Nat.add_mul]; rw [if_neg (by omega)]; omega
theorem nat_row (m j d : Nat) (h : j < d) : j * (1 + 2 * m) + (1 + 2 * m) ≤ d * (1 + 2 * m) := by
  have := Nat.mul_le_mul_right (1 + 2 * m) (show j + 1 ≤ d by omega)
  rw [Nat.add_mul, Nat.one_mul] at this; exact this
theorem lead10 (a : Int) : leadOf 10 a 1 = (10, a, 1) := rfl
/-- One look at data that is known. -/
theorem look_known {D : List UInt8} {dp bud : Int} {f : Nat} {S : VS} {p a : Nat} {lim deep h : Int} (hl : loadV D p 1 = (p : Int) - a) (hap : a ≤ p) (hlim : (a : Int) - 1 < lim) (hs : S.s + 1 ≤ bud) (hk : vknown S.L (10, (a : Int), 1) = some h) (hd : deep + h - 1 ≤ dp) (h1 : 1 ≤ h) :
    lookM D dp bud (f + 1) p 1 10 1 lim deep S = .ok ({ S with s := S.s + 1 }, h) := by
  have ht : tgtB D p 1 10 1 lim = true := by
    simp only [tgtB, hl, Bool.and_eq_true, decide_eq_true_eq]
    refine ⟨by omega, ?_⟩
    rw [show beginsV 10 1 ((p : Int) - (p - a)) = ((p : Int) - (p - a)) - 1 from rfl]; omega
  unfold lookM
  simp only [stepM, hs, if_true, targetM, ht, hl]
  rw [if_neg (by omega), show inlineB 10 = false from rfl, show (p : Int) - (p - a) = a by omega]
  simp only [Bool.false_eq_true, if_false, lead10, hk]
  rw [if_pos hd]
theorem vec_known {D : List UInt8} {dp bud : Int} {f : Nat} {p a c : Nat} (at_ deep h : Int) (hp : p < D.length) (hl : loadV D p 1 = (p : Int) - a) (ha : 1 ≤ a) (hap : a ≤ p) (hc : (D.getD (a - 1) 0).toNat = c) (hfit : a + 2 * c ≤ D.length)
    (ht : ∀ k, k < c → D.getD (a + c + k) 0 = 40) (x : Nat) (hx : ∀ k, k < c → loadV D ((a + k : Nat) : Int) 1 = ((a + k : Nat) : Int) - x) (hxa : x < a) (hd : deep + 1 + h - 1 ≤ dp) (h1 : 1 ≤ h) :
    ∀ (r i : Nat) (S : VS), i + r ≤ c → S.s + r ≤ bud → vknown S.L (10, (x : Int), 1) = some h →
      vecLoop (lookM D dp bud (f + 1)) D p 1 10 1 at_ deep r i h S = .ok ({ S with s := S.s + r }, h) := by
  intro r
  induction r with
  | zero => intro i S _ _ _; unfold vecLoop; simp
  | succ r ih =>
    intro i S hir hs hk
    obtain ⟨e1, e2, e3, e4, e5⟩ := el10 hp hl ha hap hc hfit (i := i) (by omega) (ht i (by omega))
    obtain ⟨-, -, -, v4⟩ := vec10 hp hl ha hap hc hfit
    have hlk := look_known (D := D) (dp := dp) (bud := bud) (f := f) (S := S) (lim := (a : Int) - 1) (deep := deep + 1) (hx i (by omega)) (by omega) (by omega) (by omega) hk hd h1
    unfold vecLoop
    rw [e1, e2, e3, e4, e5, v4, if_neg (by omega), hlk]
    simp only
    rw [show max h h = h by omega, show (i : Int) + 1 = ((i + 1 : Nat) : Int) by omega]
    have := ih (i + 1) { S with s := S.s + 1 } (by omega) (by dsimp only; omega) hk
    rw [this]
    congr 2
    simp only [VS.mk.injEq, and_true]
    omega
theorem nest_look {D : List UInt8} {m d : Nat} (hN : Nest D m d) (hm : 1 ≤ m) (dp bud : Int) (j : Nat) : j ≤ d → ∀ (f : Nat) (S : VS) (p : Nat) (lim deep : Int), j < f → p < D.length → vA m j ≤ p → loadV D p 1 = (p : Int) - vA m j → (vA m j : Int) - 1 < lim → deep + j ≤ dp → S.s + 1 + j * m ≤ bud →
      (∀ i, i ≤ j → vknown S.L (10, (vA m i : Int), 1) = none) →
      ∃ S', lookM D dp bud f p 1 10 1 lim deep S = .ok (S', (j : Int) + 1) ∧ S'.s = S.s + 1 + j * m ∧ vknown S'.L (10, (vA m j : Int), 1) = some ((j : Int) + 1) ∧ (∀ x, (∀ i, i ≤ j → x ≠ (10, (vA m i : Int), 1)) → vknown S'.L x = vknown S.L x) := by
  have hlen := hN.len
  induction j with
  | zero =>
    intro hj f S p lim deep hf hp hap hl hlim hd hs hk
    obtain ⟨f, rfl⟩ : ∃ g, f = g + 1 := ⟨f - 1, by omega⟩
    have hk0 := hk 0 (Nat.le_refl _)
    rw [show vA m 0 = 1 from rfl] at *
    obtain ⟨v1, v2, v3, v4⟩ := vec10 (c := 0) hp hl (Nat.le_refl _) hap hN.c0 (by omega)
    have ht : tgtB D p 1 10 1 lim = true := by
      simp only [tgtB, hl, Bool.and_eq_true, decide_eq_true_eq]
      refine ⟨by omega, ?_⟩
      rw [show beginsV 10 1 ((p : Int) - (p - (1 : Nat))) = ((p : Int) - (p - (1 : Nat))) - 1 from rfl]; omega
    refine ⟨{ s := S.s + 1, L := ((10, 1, 1), 1) :: S.L, C := S.C }, ?_, by simp, ?_, ?_⟩
    · unfold lookM
      simp only [stepM, targetM, ht, hl]
      rw [if_pos (by omega)]
      simp only [if_true]
      rw [if_neg (by omega), show inlineB 10 = false from rfl, show (p : Int) - (p - (1 : Nat)) = 1 by omega]
      simp only [Bool.false_eq_true, if_false, lead10]
      rw [show vknown S.L (10, 1, 1) = none from hk0]
      simp only [partM]
      rw [if_neg (by omega), if_neg (by omega), if_neg (by omega)]
      simp only [vecM]
      rw [v1, if_neg (by omega), if_neg (by omega)]
      simp only [v2, show ((0 : Nat) : Int).toNat = 0 from rfl, vecLoop]
      rfl
    · rw [vknown_cons, if_pos (by simp)]; rfl
    · intro x hx
      rw [vknown_cons, if_neg (fun e => hx 0 (Nat.le_refl _) e.symm)]
  | succ j ih =>
    intro hj f S p lim deep hf hp hap hl hlim hd hs hk
    obtain ⟨f, rfl⟩ : ∃ g, f = g + 1 := ⟨f - 1, by omega⟩
    obtain ⟨f, rfl⟩ : ∃ g, f = g + 1 := ⟨f - 1, by omega⟩
    have hkj := hk (j + 1) (Nat.le_refl _)
    have hrow := nat_row m j d (by omega)
    have hvg := vA_gap m j
    rw [show vA m (j + 1) = 2 + j * (1 + 2 * m) from rfl] at *
    generalize hA : 2 + j * (1 + 2 * m) = A at *
    have hc : (D.getD (A - 1) 0).toNat = m := by rw [show A - 1 = 1 + j * (1 + 2 * m) by omega]; exact hN.cn j (by omega)
    have hfit : A + 2 * m ≤ D.length := by omega
    have htg : ∀ k, k < m → D.getD (A + m + k) 0 = 40 := fun k hk => by rw [← hA]; exact hN.tg j (by omega) k hk
    have hrf : ∀ k, k < m → loadV D ((A + k : Nat) : Int) 1 = ((A + k : Nat) : Int) - vA m j := fun k hk => by
      rw [load1 (by omega)]
      have := hN.rf j (by omega) k hk
      rw [hA] at this
      rw [this]; omega
    obtain ⟨v1, v2, v3, v4⟩ := vec10 hp hl (by omega) hap hc hfit
    obtain ⟨e1, e2, e3, e4, e5⟩ := el10 hp hl (by omega) hap hc hfit (i := 0) (by omega) (htg 0 (by omega))
    have ht : tgtB D p 1 10 1 lim = true := by
      simp only [tgtB, hl, Bool.and_eq_true, decide_eq_true_eq]
      refine ⟨by omega, ?_⟩
      rw [show beginsV 10 1 ((p : Int) - (p - A)) = ((p : Int) - (p - A)) - 1 from rfl]; omega
    have hjm : ((j + 1 : Nat) : Int) * m = j * m + m := by push_cast; rw [Int.add_mul, Int.one_mul]
    rw [hjm] at hs
    have hjm0 : (0 : Int) ≤ j * m := Int.mul_nonneg (by omega) (by omega)
    obtain ⟨S1, g1, g2, g3, g4⟩ := ih (by omega) (f + 1) { S with s := S.s + 1 } (A + 0) ((A : Int) - 1) (deep + 1) (by omega) (by omega) (by omega) (hrf 0 (by omega)) (by omega) (by omega) (by dsimp only; omega) (fun i hi => hk i (by omega))
    dsimp only at g2
    have hvk := vec_known (D := D) (dp := dp) (bud := bud) (f := f) (A : Int) deep ((j : Int) + 1) hp hl (by omega) hap hc hfit htg (vA m j) hrf (by omega) (by omega) (by omega) (m - 1) 1 S1 (by omega) (by omega) g3
    refine ⟨{ s := S1.s + ((m - 1 : Nat) : Int), L := ((10, (A : Int), 1), (j : Int) + 1 + 1) :: S1.L, C := S1.C }, ?_, ?_, ?_, ?_⟩
    · unfold lookM
      simp only [stepM, targetM, ht, hl]
      rw [if_pos (by omega)]
      simp only [if_true]
      rw [if_neg (by omega), show inlineB 10 = false from rfl, show (p : Int) - (p - A) = A by omega]
      simp only [Bool.false_eq_true, if_false, lead10]
      rw [hkj]
      simp only [partM]
      rw [if_neg (by omega), if_neg (by omega), if_neg (by omega)]
      simp only [vecM]
      rw [v1, if_neg (by omega), if_neg (by omega)]
      simp only [v2, Int.toNat_natCast]
      obtain ⟨r, hr⟩ : ∃ r, m = r + 1 := ⟨m - 1, by omega⟩
      have hvl : vecLoop (lookM D dp bud (f + 1)) D p 1 10 1 A deep m 0 0 { S with s := S.s + 1 } = .ok ({ S1 with s := S1.s + ((m - 1 : Nat) : Int) }, (j : Int) + 1) := by
        rw [hr]
        unfold vecLoop
        have e1' := e1; have e2' := e2; have e3' := e3; have e4' := e4; have e5' := e5
        simp only [show ((0 : Nat) : Int) = 0 from rfl, Nat.add_zero] at e1' e2' e3' e4' e5' g1
        rw [e1', e2', e3', e4', e5', v4, if_neg (by omega), g1]
        simp only
        rw [show max (0 : Int) ((j : Int) + 1) = (j : Int) + 1 by omega, show (0 : Int) + 1 = ((1 : Nat) : Int) by rfl, show r = m - 1 by omega]
        exact hvk
      rw [hvl]
      simp only
      push_cast
      rfl
    · dsimp only; rw [g2, hjm]; omega
    · rw [vknown_cons, if_pos rfl]; (try (congr 1))
    · intro x hx
      rw [vknown_cons, if_neg (fun e => hx (j + 1) (Nat.le_refl _) (by rw [← e]; simp [vA, hA]))]
      exact g4 x (fun i hi => hx i (by omega))
theorem getD_mid {A B : List UInt8} (i : Nat) : (A ++ B).getD (A.length + i) 0 = B.getD i 0 := by
  simp only [List.getD_eq_getElem?_getD]
  rw [List.getElem?_append_right (by omega), Nat.add_sub_cancel_left]
theorem getD_left {A B : List UInt8} {i : Nat} (h : i < A.length) : (A ++ B).getD i 0 = A.getD i 0 := by
  simp only [List.getD_eq_getElem?_getD]
  rw [List.getElem?_append_left h]
theorem u8_small {k : Nat} (h : k < 256) : (k.toUInt8).toNat = k := by
  have : k.toUInt8.toNat = k % 256 := by simp
  omega
theorem gapS_le (m j : Nat) : gapS m j ≤ 2 * m := by unfold gapS; split <;> omega
theorem shB_nest (m d : Nat) (hm : m ≤ 5) : Nest (shB m d) m d := by
  induction d with
  | zero => exact ⟨rfl, fun j h => by omega, fun j h => by omega, fun j h => by omega, by simp [shB]⟩
  | succ d ih =>
    have hlen := shB_len m d
    have hl2 := shB_len m (d + 1)
    have hx : shB m (d + 1) = shB m d ++ ([m.toUInt8] ++ ((List.range m).map (fun k => (gapS m d + 1 + k).toUInt8) ++ List.replicate m 40)) := rfl
    have hg := gapS_le m d
    refine ⟨?_, fun j hj => ?_, fun j hj k hk => ?_, fun j hj k hk => ?_, by omega⟩
    · rw [hx, getD_left (by omega)]; exact ih.c0
    · by_cases hjd : j = d
      · subst hjd
        rw [hx, ← hlen, show (shB m j).length = (shB m j).length + 0 by rfl, getD_mid]
        exact u8_small (by omega)
      · have := nat_row m j d (by omega)
        rw [hx, getD_left (by omega)]; exact ih.cn j (by omega)
    · by_cases hjd : j = d
      · subst hjd
        rw [hx, show 2 + j * (1 + 2 * m) + k = (shB m j).length + (([m.toUInt8] : List UInt8).length + k) by simp [hlen]; omega, getD_mid, getD_mid, getD_left (by simpa using hk)]
        rw [List.getD_eq_getElem?_getD, List.getElem?_map, List.getElem?_range hk]
        exact u8_small (by omega)
      · have := nat_row m j d (by omega)
        rw [hx, getD_left (by omega)]; exact ih.rf j (by omega) k hk
    · by_cases hjd : j = d
      · subst hjd
        rw [hx, show 2 + j * (1 + 2 * m) + m + k = (shB m j).length + (([m.toUInt8] : List UInt8).length + (((List.range m).map (fun k => (gapS m j + 1 + k).toUInt8)).length + k)) by simp [hlen]; omega, getD_mid, getD_mid, getD_mid]
        rw [List.getD_eq_getElem?_getD, List.getElem?_replicate, if_pos hk]; rfl
      · have := nat_row m j d (by omega)
        rw [hx, getD_left (by omega)]; exact ih.tg j (by omega) k hk
theorem Nest.more {D E : List UInt8} {m d : Nat} (h : Nest D m d) : Nest (D ++ E) m d := by
  have hl := h.len
  refine ⟨?_, fun j hj => ?_, fun j hj k hk => ?_, fun j hj k hk => ?_, by rw [List.length_append]; omega⟩
  · rw [getD_left (by omega)]; exact h.c0
  · have := nat_row m j d hj
    rw [getD_left (by omega)]; exact h.cn j hj
  · have := nat_row m j d hj
    rw [getD_left (by omega)]; exact h.rf j hj k hk
  · have := nat_row m j d hj
    rw [getD_left (by omega)]; exact h.tg j hj k hk
theorem sh_check (m d : Nat) (h2 : 1 ≤ m) (hm : m ≤ 5) (hd : d < 63) (dp : Int) (hdp : (d : Int) + 1 ≤ dp) : checkM (shD m d) dp 1000 = ((1 + (d : Int) * m, 0, (d : Int) + 1), 0) := by
  have hlen := shB_len m d
  have hL : (shD m d).length = (shB m d).length + 3 := by simp [shD]
  have hg := gapS_le m d
  have e1 : lastD (shD m d) 1 = 1 := by
    unfold lastD
    rw [hL, show (shB m d).length + 3 - 1 = (shB m d).length + 2 by omega, shD, getD_mid]; rfl
  have e2 : lastD (shD m d) 2 = 40 := by
    unfold lastD
    rw [hL, show (shB m d).length + 3 - 2 = (shB m d).length + 1 by omega, shD, getD_mid]; rfl
  have e3 : (shD m d).getD (shB m d).length 0 = (gapS m d).toUInt8 := by
    rw [show (shB m d).length = (shB m d).length + 0 by rfl, shD, getD_mid]; rfl
  have hr : rootE (shD m d).length 1 40 = 0 := by
    unfold rootE
    have hL' : (((shD m d).length : Nat) : Int) = (((shB m d).length : Nat) : Int) + 3 := by omega
    rw [hL', if_neg (by rintro (h | h); (omega); (revert h; decide)), if_neg (by rw [show legalB ((((40 : UInt8).toNat : Nat) : Int) / 4) = true from rfl]; simp), if_neg]
    rw [show (((1 : UInt8).toNat : Nat) : Int) = 1 from rfl]; omega
  have hp : rootP (shD m d).length 1 40 = (((shB m d).length : Nat) : Int) := by
    unfold rootP; rw [if_pos hr, hL, show (((1 : UInt8).toNat : Nat) : Int) = 1 from rfl]; omega
  have hq : rootQ (shD m d).length 1 40 = 1 := by unfold rootQ; rw [if_pos hr]; rfl
  have ht : rootT (shD m d).length 1 40 = 10 := by unfold rootT; rw [if_pos hr]; rfl
  have hw : rootW (shD m d).length 1 40 = 1 := by unfold rootW; rw [if_pos hr]; rfl
  have hvg := vA_gap m d
  have hld : loadV (shD m d) (((shB m d).length : Nat) : Int) 1 = (((shB m d).length : Nat) : Int) - vA m d := by
    rw [load1 (by omega), e3, u8_small (by omega)]; omega
  have hdm : (d : Int) * m ≤ 62 * 5 := Int.mul_le_mul (by omega) (by omega) (by omega) (by omega)
  have hv1 : 1 ≤ vA m d := by cases d <;> simp [vA]; omega
  have hdr : d ≤ d * (1 + 2 * m) := Nat.le_mul_of_pos_right _ (by omega)
  obtain ⟨S', g1, g2, -, -⟩ := nest_look (D := shD m d) (shB_nest m d hm).more h2 dp 1000 d (Nat.le_refl _) ((shD m d).length + 1) ⟨0, [], []⟩ (shB m d).length (((shB m d).length : Nat) : Int) 1 (by omega) (by omega) (by omega) hld (by omega) (by omega) (by dsimp only; omega) (fun i hi => rfl)
  unfold checkM
  rw [e1, e2, hr, hp, hq, ht, hw, if_neg (by omega), if_neg (by omega), show max (1000 : Int) 0 = 1000 by rfl, g1]
  simp only
  rw [g2]
  congr 2
end Go.Proofs.Ytmpflnlajakibaa
