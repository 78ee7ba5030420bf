/- The plain laws of decode: more fuel, more depth, a wider limit; a vector's parts. The plain laws of decode at the top: a vector's parts are the trees at its elements. A node in memory: its children one by one. The plain laws of decode: the fuel used is the number of nodes; the least depth is the tree's depth. The plain model of verify: what is added to the data checked is new. No program here. The plain law of VerifyWalk: Check goes the way of Doc. No program here. -/
import Derived.Test.YtmpflnlajakibaaC12
import Derived.Test.YtmpflnlajakibaaCk
import Derived.Test.YtmpflnlajakibaaCDk
import Derived.Test.YtmpflnlajakibaaA6
namespace Go.Proofs.Ytmpflnlajakibaa
set_option linter.unusedVariables false
set_option linter.unusedSimpArgs false
set_option linter.unusedSectionVars false
section
open Go.RowKit
/-- The second result is the first with c more fuel left, unless the first ended for want of fuel or depth. -/
def Mono {α : Type} (r r' : DR (α × Int)) (c : Int) : Prop :=
  match r with
  | .ok (T, f) => r' = .ok (T, f + c)
  | .error (a, e) => e = 260 ∨ e = 61 ∨ r' = .error (a, e)
theorem Mono.err {α : Type} {a e : Int} {c : Int} : Mono (α := α) (.error (a, e)) (.error (a, e)) c := .inr (.inr rfl)
theorem vloopD_mono {dec dec' : DecF} {D : List UInt8} {g : Int} {dp dp' c : Int} (hle : ∀ p q t k lim d fu T f, 0 ≤ fu → dec p q t k lim d fu = .ok (T, f) → 0 ≤ f ∧ f ≤ fu)
    (hd : ∀ p q t k lim d d' fu, 0 ≤ fu → fu ≤ g → dp - d ≤ dp' - d' → Mono (dec p q t k lim d fu) (dec' p q t k lim d' (fu + c)) c)
    (p q t k a d d' : Int) (hdd : dp - d ≤ dp' - d') : ∀ (r : Nat) (i : Int) (acc : List DT) (fu : Int), 0 ≤ fu → fu ≤ g → Mono (vloopD dec D p q t k a d r i acc fu) (vloopD dec' D p q t k a d' r i acc (fu + c)) c
  | 0, i, acc, fu, h0, h1 => by rw [vloopD, vloopD]; rfl
  | r + 1, i, acc, fu, h0, h1 => by
    rw [vloopD, vloopD]
    split
    · exact Mono.err
    · have hm := hd (latP D p q t k i) (latQ D p q t k i) (latT D p q t k i) (latW D p q t k i) (lFrom D p q t k) (d + 1) (d' + 1) fu h0 h1 (by omega)
      cases hx : dec (latP D p q t k i) (latQ D p q t k i) (latT D p q t k i) (latW D p q t k i) (lFrom D p q t k) (d + 1) fu with
      | error x =>
        obtain ⟨a1, e1⟩ := x
        rw [hx] at hm
        rcases hm with h | h | h
        · exact .inl h
        · exact .inr (.inl h)
        · rw [h]; exact Mono.err
      | ok y =>
        obtain ⟨T, f⟩ := y
        have hl := hle _ _ _ _ _ _ _ _ _ h0 hx
        rw [hx] at hm
        have hm' : dec' (latP D p q t k i) (latQ D p q t k i) (latT D p q t k i) (latW D p q t k i) (lFrom D p q t k) (d' + 1) (fu + c) = .ok (T, f + c) := hm
        rw [hm']
        exact vloopD_mono hle hd p q t k a d d' hdd r (i + 1) (acc ++ [T]) f hl.1 (by omega)
theorem bodyD_mono {dec dec' : DecF} {D : List UInt8} {g : Int} {dp dp' c : Int} (hle : ∀ p q t k lim d fu T f, 0 ≤ fu → dec p q t k lim d fu = .ok (T, f) → 0 ≤ f ∧ f ≤ fu)
    (hd : ∀ p q t k lim d d' fu, 0 ≤ fu → fu ≤ g → dp - d ≤ dp' - d' → Mono (dec p q t k lim d fu) (dec' p q t k lim d' (fu + c)) c)
    (p q t k a d d' fu : Int) (hdd : dp - d ≤ dp' - d') (h0 : 0 ≤ fu) (h1 : fu ≤ g) : Mono (bodyD dec D p q t k a d fu) (bodyD dec' D p q t k a d' (fu + c)) c := by
  unfold bodyD
  split
  · rfl
  · split
    · split
      · exact Mono.err
      · rfl
    · split
      · split
        · exact Mono.err
        · rfl
      · split
        · split
          · exact Mono.err
          · rfl
        · unfold vecD
          split
          · exact Mono.err
          · cases hk : (if t = 9 then keysD D k (lFrom D p q t k) (lCnt D p q t k) else .ok []) with
            | error x => exact Mono.err
            | ok ks =>
              have hm := vloopD_mono (D := D) hle hd p q t k a d d' hdd (lCnt D p q t k).toNat 0 [] fu h0 h1
              cases hx : vloopD dec D p q t k a d (lCnt D p q t k).toNat 0 [] fu with
              | error x =>
                obtain ⟨a1, e1⟩ := x
                rw [hx] at hm
                rcases hm with h | h | h
                · exact .inl h
                · exact .inr (.inl h)
                · dsimp only; rw [h]; exact Mono.err
              | ok y =>
                obtain ⟨T, f⟩ := y
                rw [hx] at hm
                have hm' : vloopD dec' D p q t k a d' (lCnt D p q t k).toNat 0 [] (fu + c) = .ok (T, f + c) := hm
                dsimp only
                rw [hm']
                rfl
theorem decN_mono {D : List UInt8} {dp dp' c : Int} (hc : 0 ≤ c) : ∀ (g g' : Nat) (p q t k lim d d' fu : Int), 0 ≤ fu → fu ≤ g → fu + c ≤ g' → dp - d ≤ dp' - d' →
    Mono (decN D dp g p q t k lim d fu) (decN D dp' g' p q t k lim d' (fu + c)) c
  | 0, g', p, q, t, k, lim, d, d', fu, h0, h1, h2, h3 => by rw [decN]; exact .inl rfl
  | g + 1, 0, p, q, t, k, lim, d, d', fu, h0, h1, h2, h3 => by
    have e : decN D dp (g + 1) p q t k lim d fu = .error (p, 260) := by
      rw [decN]
      exact if_pos (by omega)
    rw [e]
    exact .inl rfl
  | g + 1, g' + 1, p, q, t, k, lim, d, d', fu, h0, h1, h2, h3 => by
    rw [decN, decN]
    dsimp only
    by_cases hf : fu = 0
    · rw [if_pos hf]; exact .inl rfl
    rw [if_neg hf, if_neg (show ¬ fu + c = 0 by omega)]
    by_cases hd : dp < d
    · rw [if_pos hd]; exact .inr (.inl rfl)
    rw [if_neg hd, if_neg (show ¬ dp' < d' by omega)]
    split
    · exact Mono.err
    · have := bodyD_mono (D := D) (g := min (g : Int) ((g' : Int) - c)) (dp := dp) (dp' := dp') (c := c) (dec := decN D dp g) (dec' := decN D dp' g') (fun p q t k lim d fu T f => decN_le g p q t k lim d fu T f)
        (fun p q t k lim d d' fu i0 i1 i2 => decN_mono hc g g' p q t k lim d d' fu i0 (by omega) (by omega) i2) p q t k (if inlineB t then p else p - loadV D p q) d d' (fu - 1) h3 (by omega) (by omega)
      rwa [show fu - 1 + c = fu + c - 1 by omega] at this
/-- A wider limit changes nothing where the reference decodes. -/
theorem decN_lim {D : List UInt8} {dp : Int} {g : Nat} {p q t k lim lim' d fu : Int} {T : DT} {f : Int} (h : decN D dp g p q t k lim d fu = .ok (T, f)) (hl : lim ≤ lim') : decN D dp g p q t k lim' d fu = .ok (T, f) := by
  cases g with
  | zero => rw [decN] at h; cases h
  | succ g =>
    rw [decN] at h ⊢
    dsimp only at h ⊢
    by_cases hf : fu = 0
    · rw [if_pos hf] at h; cases h
    rw [if_neg hf] at h ⊢
    by_cases hd : dp < d
    · rw [if_pos hd] at h; cases h
    rw [if_neg hd] at h ⊢
    by_cases ht : inlineB t = false ∧ tgtB D p q t k lim = false
    · rw [if_pos ht] at h; cases h
    rw [if_neg ht] at h
    rw [if_neg ?_]
    · exact h
    · rintro ⟨h1, h2⟩
      refine ht ⟨h1, ?_⟩
      simp only [tgtB, Bool.and_eq_false_iff, decide_eq_false_iff_not] at h2 ⊢
      rcases h2 with h2 | h2
      · exact .inl h2
      · exact .inr (by omega)
/-- The rounds of a vector that decodes. -/
theorem vloopD_parts {dec : DecF} {D : List UInt8} {p q t k a d : Int} : ∀ (r : Nat) (i : Int) (acc : List DT) (fu : Int) (l : List DT) (f : Int), vloopD dec D p q t k a d r i acc fu = .ok (l, f) →
    ∃ (ys : List DT) (F : Nat → Int), l = acc ++ ys ∧ ys.length = r ∧ F 0 = fu ∧ F r = f ∧ ∀ j (hj : j < ys.length), latE D p q t k (i + j) = 0 ∧
      dec (latP D p q t k (i + j)) (latQ D p q t k (i + j)) (latT D p q t k (i + j)) (latW D p q t k (i + j)) (lFrom D p q t k) (d + 1) (F j) = .ok (ys[j], F (j + 1))
  | 0, i, acc, fu, l, f, h => by
    rw [vloopD] at h
    cases h
    exact ⟨[], fun _ => fu, by simp, rfl, rfl, rfl, fun j hj => absurd hj (Nat.not_lt_zero _)⟩
  | r + 1, i, acc, fu, l, f, h => by
    rw [vloopD] at h
    split at h
    · cases h
    · rename_i hE
      have hE' : latE D p q t k i = 0 := by simpa using hE
      split at h
      · cases h
      · rename_i y fu' he
        obtain ⟨ys, F, h1, h2, h3, h4, h5⟩ := vloopD_parts r (i + 1) (acc ++ [y]) fu' l f h
        refine ⟨y :: ys, fun j => if j = 0 then fu else F (j - 1), by rw [h1]; simp, by simp [h2], by simp, by simp [h4], ?_⟩
        intro j hj
        cases j with
        | zero =>
          simp only [Int.natCast_zero, Int.add_zero, if_true, List.getElem_cons_zero, Nat.zero_add]
          exact ⟨hE', by rw [he]; simp [h3]⟩
        | succ j =>
          have := h5 j (by simpa using hj)
          rw [show i + 1 + (j : Int) = i + ((j + 1 : Nat) : Int) by push_cast; omega] at this
          simpa using this
/-- A failure bears an error that is not 0. -/
def NErr {α : Type} (r : DR α) : Prop := ∀ a e, r = .error (a, e) → e ≠ 0
theorem NErr.ok {α : Type} (x : α) : NErr (.ok x) := fun _ _ h => by cases h
theorem NErr.err {α : Type} {a e : Int} (h : e ≠ 0) : NErr (α := α) (.error (a, e)) := fun _ _ hx => by cases hx; exact h
theorem kloopD_ne {D : List UInt8} {p q k : Int} : ∀ (r : Nat) (i : Int) (acc : List (List UInt8)), NErr (kloopD D p q k r i acc)
  | 0, _, acc => by rw [kloopD]; exact NErr.ok _
  | r + 1, i, acc => by
    rw [kloopD]
    split
    · exact NErr.err (by decide)
    · split
      · rename_i h; exact NErr.err h
      · split
        · exact NErr.err (by decide)
        · exact kloopD_ne r (i + 1) _
theorem keysD_ne {D : List UInt8} {k f many : Int} : NErr (keysD D k f many) := by
  unfold keysD krefD
  split
  · rename_i x hx
    intro a e h
    cases h
    split at hx
    · cases hx; decide
    · split at hx
      · cases hx; decide
      · split at hx
        · cases hx; decide
        · cases hx
  · split
    · rename_i h; exact NErr.err h
    · split
      · exact NErr.err (by decide)
      · exact kloopD_ne _ _ _
theorem vloopD_ne {dec : DecF} {D : List UInt8} (hd : ∀ p q t k lim d fu, NErr (dec p q t k lim d fu)) {p q t k a d : Int} : ∀ (r : Nat) (i : Int) (acc : List DT) (fu : Int), NErr (vloopD dec D p q t k a d r i acc fu)
  | 0, _, _, _ => by rw [vloopD]; exact NErr.ok _
  | r + 1, i, acc, fu => by
    rw [vloopD]
    split
    · rename_i h; exact NErr.err h
    · split
      · rename_i x hx
        intro a e h
        cases h
        exact hd _ _ _ _ _ _ _ _ _ hx
      · exact vloopD_ne hd r (i + 1) _ _
theorem bodyD_ne {dec : DecF} {D : List UInt8} (hd : ∀ p q t k lim d fu, NErr (dec p q t k lim d fu)) (p q t k a d fu : Int) : NErr (bodyD dec D p q t k a d fu) := by
  unfold bodyD
  split
  · exact NErr.ok _
  · split
    · split
      · rename_i h; exact NErr.err h
      · exact NErr.ok _
    · split
      · split
        · rename_i h; exact NErr.err h
        · exact NErr.ok _
      · split
        · split
          · rename_i h; exact NErr.err h
          · exact NErr.ok _
        · unfold vecD
          split
          · rename_i h; exact NErr.err h
          · split
            · rename_i x hx
              intro a e h
              cases h
              split at hx
              · exact keysD_ne _ _ hx
              · cases hx
            · split
              · rename_i x hx
                intro a e h
                cases h
                exact vloopD_ne hd _ _ _ _ _ _ hx
              · exact NErr.ok _
theorem decN_ne {D : List UInt8} {dp : Int} : ∀ (g : Nat) (p q t k lim d fu : Int), NErr (decN D dp g p q t k lim d fu)
  | 0, p, q, t, k, lim, d, fu => by rw [decN]; exact NErr.err (by decide)
  | g + 1, p, q, t, k, lim, d, fu => by
    rw [decN]
    dsimp only
    split
    · exact NErr.err (by decide)
    · split
      · exact NErr.err (by decide)
      · split
        · exact NErr.err (by decide)
        · exact bodyD_ne (decN_ne g) _ _ _ _ _ _ _
end
section
open Go.RowKit
theorem treeD_ok {D : List UInt8} {dp m p q t k : Int} {T : DT} {f a : Int} (h : treeD D dp m p q t k = (T, f, a, 0)) : mayE D.length p q t k = 0 ∧ decN D dp (max m 0).toNat p q t k p 1 (max m 0) = .ok (T, f) ∧ a = 0 := by
  unfold treeD at h
  by_cases hm : mayE D.length p q t k = 0
  · rw [if_neg (by simpa using hm)] at h
    refine ⟨hm, ?_⟩
    split at h
    · rename_i a' e' he
      simp only [Prod.mk.injEq] at h
      obtain ⟨-, -, rfl, rfl⟩ := h
      exact absurd rfl (decN_ne _ _ _ _ _ _ _ _ _ _ he)
    · rename_i T' f' he
      simp only [Prod.mk.injEq] at h
      obtain ⟨rfl, rfl, rfl, -⟩ := h
      exact ⟨he, rfl⟩
  · rw [if_pos hm] at h
    simp only [Prod.mk.injEq] at h
    exact absurd h.2.2.2 hm
/-- A leaf's kind, and a vector's. -/
def leafK (kd : Int) : Bool := decide (1 ≤ kd) && decide (kd ≤ 9)
theorem bodyD_vec {dec : DecF} {D : List UInt8} {p q t k a d fu : Int} {kd nn u : Int} {s : List UInt8} {ks : List (List UInt8)} {l : List DT} {f : Int} (h : bodyD dec D p q t k a d fu = .ok (.mk kd nn u s ks l, f)) (hk : leafK kd = false) :
    lfindE D p q t k = 0 ∧ vloopD dec D p q t k a d (lCnt D p q t k).toNat 0 [] fu = .ok (l, f) := by
  have hkd := bodyD_kind h
  subst hkd
  unfold bodyD at h
  split at h
  · rename_i h0; subst h0; exact absurd hk (by decide)
  · split at h
    · rename_i h0; rcases h0 with rfl | rfl | rfl <;> exact absurd hk (by decide)
    · split at h
      · rename_i h0; rcases h0 with rfl | rfl <;> exact absurd hk (by decide)
      · split at h
        · rename_i h0; rcases h0 with rfl | rfl | rfl <;> exact absurd hk (by decide)
        · unfold vecD at h
          split at h
          · cases h
          · rename_i hE
            refine ⟨by simpa using hE, ?_⟩
            split at h
            · cases h
            · split at h
              · cases h
              · rename_i l' f' hx
                cases h
                exact hx
theorem treeD_parts {D : List UInt8} {dp m p q t k : Int} {kd nn u : Int} {s : List UInt8} {ks : List (List UInt8)} {l : List DT} {f a : Int} (h : treeD D dp m p q t k = (.mk kd nn u s ks l, f, a, 0)) (hk : leafK kd = false) :
    1 ≤ m ∧ lfindE D p q t k = 0 ∧ lCnt D p q t k = l.length ∧ ∃ F : Nat → Int, F 0 = m - 1 ∧ F l.length = f ∧ (∀ j, j ≤ l.length → 0 ≤ F j ∧ F j ≤ m - 1) ∧
      ∀ j (hj : j < l.length), latE D p q t k j = 0 ∧ treeD D (dp - 1) m (latP D p q t k j) (latQ D p q t k j) (latT D p q t k j) (latW D p q t k j) = (l[j], m - (F j - F (j + 1)), 0, 0) := by
  obtain ⟨hmay, hdec, -⟩ := treeD_ok h
  obtain ⟨g, hg⟩ : ∃ g, (max m 0).toNat = g := ⟨_, rfl⟩
  rw [hg] at hdec
  cases g with
  | zero => rw [decN] at hdec; cases hdec
  | succ g =>
    have hm : max m 0 = m := by omega
    rw [hm] at hdec
    rw [decN] at hdec
    dsimp only at hdec
    rw [if_neg (by omega)] at hdec
    by_cases hd : dp < 1
    · rw [if_pos hd] at hdec; cases hdec
    rw [if_neg hd] at hdec
    split at hdec
    · cases hdec
    obtain ⟨hE, hl⟩ := bodyD_vec hdec hk
    obtain ⟨ys, F, h1, h2, h3, h4, h5⟩ := vloopD_parts _ _ _ _ _ _ hl
    rw [List.nil_append] at h1
    subst h1
    obtain ⟨g0, -, -, -, -, g3, -⟩ := lfindE_zero hE
    obtain ⟨-, -, -, -, -, -, k1, -, -⟩ := mayE_zero hmay
    have hF : ∀ j, j ≤ l.length → 0 ≤ F j ∧ F j ≤ m - 1 := by
      intro j
      induction j with
      | zero => intro _; rw [h3]; omega
      | succ j ih =>
        intro hj
        have i1 := ih (by omega)
        have i2 := decN_le _ _ _ _ _ _ _ _ _ _ i1.1 (h5 j (by omega)).2
        omega
    refine ⟨by omega, hE, by omega, F, h3, by rw [h2]; exact h4, hF, fun j hj => ?_⟩
    obtain ⟨e1, e2⟩ := h5 j hj
    rw [Int.zero_add] at e1 e2
    refine ⟨e1, ?_⟩
    obtain ⟨f0, f1⟩ := hF j (by omega)
    have hmono := decN_mono (D := D) (dp := dp) (dp' := dp - 1) (c := m - F j) (by omega) g (g + 1) (latP D p q t k j) (latQ D p q t k j) (latT D p q t k j) (latW D p q t k j) (lFrom D p q t k) (1 + 1) 1 (F j) f0 (by omega) (by omega) (by omega)
    rw [e2] at hmono
    have hm2 : decN D (dp - 1) (g + 1) (latP D p q t k j) (latQ D p q t k j) (latT D p q t k j) (latW D p q t k j) (lFrom D p q t k) 1 (F j + (m - F j)) = .ok (l[j], F (j + 1) + (m - F j)) := hmono
    rw [show F j + (m - F j) = m by omega] at hm2
    have hlim : lFrom D p q t k ≤ latP D p q t k j := by
      have i1 : latP D p q t k j = lAt D p q t k + j * k := by simp [latP, e1]
      have i2 : lAt D p q t k = targetV D p q t k := by simp [lAt, hE]
      have i3 : lFrom D p q t k = targetV D p q t k - aheadOf t * k := by simp [lFrom, hE]
      have i4 : 0 ≤ aheadOf t * k := Int.mul_nonneg (aheadOf_bd t).1 (by omega)
      have i5 : 0 ≤ (j : Int) * k := Int.mul_nonneg (by omega) (by omega)
      omega
    have hm3 := decN_lim hm2 hlim
    unfold treeD
    rw [if_neg (by simpa using (dlat_may e1).1), hg, hm, hm3]
    simp only [Prod.mk.injEq, and_true, true_and]
    omega
end
section
open Go.RowKit
/-- The children of a node in memory, one by one. -/
theorem rep_kids {w : World} {kd nn u : Int} {s : List UInt8} {ks : List (List UInt8)} {l : List DT} {x0 x1 x2 x3 x4 : Value} {B : Option Addr} {m c : Nat} {bs : List Nat} (h : NRep w (.mk kd nn u s ks l) [x0, x1, x2, x3, x4, .slice B m c] bs) :
    (x0 = .int .i64 kd ∧ m = l.length) ∧ ∀ (W : World), Below w.heap.size w W → ∀ (k : Nat) (hk : k < l.length), ∃ g, B = some ⟨g, 0, none⟩ ∧ g < W.heap.size ∧ ∃ v0 v1 v2 v3 v4 v5 b, NRep W l[k] [v0, v1, v2, v3, v4, v5] b ∧ (∀ j ∈ b, j ∈ bs) ∧
      W.cell? ⟨g, k * 6, none⟩ = some v0 ∧ W.cell? ⟨g, k * 6 + 1, none⟩ = some v1 ∧ W.cell? ⟨g, k * 6 + 2, none⟩ = some v2 ∧ W.cell? ⟨g, k * 6 + 3, none⟩ = some v3 ∧ W.cell? ⟨g, k * 6 + 4, none⟩ = some v4 ∧ W.cell? ⟨g, k * 6 + 5, none⟩ = some v5 := by
  rw [NRep] at h
  obtain ⟨kv, lv, xs, bl, h1, h2, h3, h4, hb⟩ := h
  simp only [nodeC, List.cons.injEq, and_true] at h1
  obtain ⟨rfl, rfl, rfl, rfl, rfl, rfl⟩ := h1
  have hm : m = l.length := by
    obtain ⟨A', c', hA', -⟩ := slice_form h3
    injection hA'
  subst hm
  refine ⟨⟨rfl, rfl⟩, fun W hW k hk => ?_⟩
  obtain ⟨g, e1, e2, v0, v1, v2, v3, v4, v5, b, hN, hbl, hc⟩ := kid_cells (own_below h3 hW) (h4.below hW) k hk
  exact ⟨g, e1, e2, v0, v1, v2, v3, v4, v5, b, hN, fun j hj => by rw [hb]; simp [hbl j hj], hc⟩
theorem rep_bound {w : World} {kd nn u : Int} {s : List UInt8} {ks : List (List UInt8)} {l : List DT} {cs : List Value} {bs : List Nat} (h : NRep w (.mk kd nn u s ks l) cs bs) : l.length ≤ 9223372036854775807 := by
  rw [NRep] at h
  obtain ⟨kv, lv, xs, bl, h1, h2, h3, h4, hb⟩ := h
  exact row_bound h3
theorem NRep.last {w : World} {T : DT} {x0 x1 x2 x3 x4 x5 : Value} {bs : List Nat} (h : NRep w T [x0, x1, x2, x3, x4, x5] bs) : ∃ A m c, x5 = .slice A m c := by
  obtain ⟨kd, n, u, s, ks, l⟩ := T
  rw [NRep] at h
  obtain ⟨kv, lv, xs, bl, h1, h2, h3, h4, hb⟩ := h
  simp only [nodeC, List.cons.injEq, and_true] at h1
  obtain ⟨rfl, rfl, rfl, rfl, rfl, rfl⟩ := h1
  obtain ⟨A, c, hA, -⟩ := slice_form h3
  exact ⟨A, _, c, hA⟩
theorem NRep.form2 {w : World} {T : DT} {x0 x1 x2 x3 x4 x5 : Value} {bs : List Nat} (h : NRep w T [x0, x1, x2, x3, x4, x5] bs) : ∃ kd n u s A1 m1 c1 A2 m2 c2, x0 = .int .i64 kd ∧ x1 = .int .i64 n ∧ x2 = .int .u64 u ∧ x3 = .string s ∧ x4 = .slice A1 m1 c1 ∧ x5 = .slice A2 m2 c2 := by
  obtain ⟨kd, n, u, s, ks, l⟩ := T
  rw [NRep] at h
  obtain ⟨kv, lv, xs, bl, h1, h2, h3, h4, hb⟩ := h
  simp only [nodeC, List.cons.injEq, and_true] at h1
  obtain ⟨rfl, rfl, rfl, rfl, rfl, rfl⟩ := h1
  obtain ⟨A, c, hA, -⟩ := slice_form h2
  obtain ⟨A', c', hA', -⟩ := slice_form h3
  exact ⟨kd, n, u, _, A, _, c, A', _, c', rfl, rfl, rfl, rfl, hA, hA'⟩
end
section
open Go.RowKit
mutual
def sizeD : DT → Int
  | .mk _ _ _ _ _ l => 1 + sizesD l
def sizesD : List DT → Int
  | [] => 0
  | t :: ts => sizeD t + sizesD ts
end
mutual
def depthD : DT → Int
  | .mk _ _ _ _ _ l => 1 + depthsD l
def depthsD : List DT → Int
  | [] => 0
  | t :: ts => max (depthD t) (depthsD ts)
end
mutual
theorem sizeD_pos : ∀ T : DT, 1 ≤ sizeD T
  | .mk _ _ _ _ _ l => by
    rw [sizeD]
    have := sizesD_nonneg l
    omega
theorem sizesD_nonneg : ∀ l : List DT, 0 ≤ sizesD l
  | [] => by rw [sizesD]; omega
  | t :: ts => by
    rw [sizesD]
    have := sizeD_pos t
    have := sizesD_nonneg ts
    omega
end
theorem depthsD_nonneg : ∀ l : List DT, 0 ≤ depthsD l
  | [] => by rw [depthsD]; omega
  | t :: ts => by
    rw [depthsD]
    have := depthsD_nonneg ts
    omega
/-- The reference decodes to T with any resources that suffice, and wants fuel with less. -/
def Dec1 (D : List UInt8) (p q t k lim : Int) (T : DT) : Prop := ∀ (dp' : Int) (g' : Nat) (d' fu' : Int), fu' ≤ g' → depthD T ≤ dp' - d' + 1 →
  (sizeD T ≤ fu' → decN D dp' g' p q t k lim d' fu' = .ok (T, fu' - sizeD T)) ∧ (0 ≤ fu' → fu' < sizeD T → ∃ a, decN D dp' g' p q t k lim d' fu' = .error (a, 260))
def DecL (D : List UInt8) (p q t k a : Int) (i : Int) (ys : List DT) : Prop := ∀ (dp' : Int) (g' : Nat) (d' fu' : Int) (acc : List DT), fu' ≤ g' → depthsD ys ≤ dp' - d' →
  (sizesD ys ≤ fu' → vloopD (decN D dp' g') D p q t k a d' ys.length i acc fu' = .ok (acc ++ ys, fu' - sizesD ys)) ∧ (0 ≤ fu' → fu' < sizesD ys → ∃ x, vloopD (decN D dp' g') D p q t k a d' ys.length i acc fu' = .error (x, 260))
theorem vloopD_least {D : List UInt8} {dp : Int} {g : Nat} (hd : ∀ p q t k lim d fu T f, 0 ≤ fu → decN D dp g p q t k lim d fu = .ok (T, f) → f = fu - sizeD T ∧ depthD T ≤ dp - d + 1 ∧ Dec1 D p q t k lim T) {p q t k a d : Int} :
    ∀ (r : Nat) (i : Int) (acc : List DT) (fu : Int) (l : List DT) (f : Int), 0 ≤ fu → vloopD (decN D dp g) D p q t k a d r i acc fu = .ok (l, f) →
      ∃ ys, l = acc ++ ys ∧ ys.length = r ∧ f = fu - sizesD ys ∧ depthsD ys ≤ max (dp - d) 0 ∧ (ys ≠ [] → depthsD ys ≤ dp - d) ∧ DecL D p q t k a i ys
  | 0, i, acc, fu, l, f, h0, h => by
    rw [vloopD] at h
    cases h
    refine ⟨[], by simp, rfl, by rw [sizesD]; omega, by rw [depthsD]; omega, fun h => absurd rfl h, ?_⟩
    intro dp' g' d' fu' acc' h1 h2
    refine ⟨fun _ => ?_, fun h3 h4 => ?_⟩
    · rw [List.length_nil, vloopD, sizesD, List.append_nil, Int.sub_zero]
    · rw [sizesD] at h4; omega
  | r + 1, i, acc, fu, l, f, h0, h => by
    rw [vloopD] at h
    by_cases hE : latE D p q t k i = 0
    · rw [if_neg (by simpa using hE)] at h
      cases hx : decN D dp g (latP D p q t k i) (latQ D p q t k i) (latT D p q t k i) (latW D p q t k i) (lFrom D p q t k) (d + 1) fu with
      | error x => rw [hx] at h; cases h
      | ok yf =>
        obtain ⟨y, fu1⟩ := yf
        rw [hx] at h
        dsimp only at h
        obtain ⟨i1, i2, i3⟩ := hd _ _ _ _ _ _ _ _ _ h0 hx
        have hle := decN_le _ _ _ _ _ _ _ _ _ _ h0 hx
        obtain ⟨ys, j1, j2, j3, j4, j5, j6⟩ := vloopD_least hd r (i + 1) (acc ++ [y]) fu1 l f hle.1 h
        have hp := sizeD_pos y
        have hn := sizesD_nonneg ys
        refine ⟨y :: ys, by rw [j1]; simp, by simp [j2], by rw [sizesD]; omega, by rw [depthsD]; omega, fun _ => ?_, ?_⟩
        · rw [depthsD]
          by_cases hy : ys = []
          · subst hy; rw [depthsD]; have : 1 ≤ depthD y := by { cases y with | mk kd n u s ks l => rw [depthD]; have := depthsD_nonneg l; omega }; omega
          · have := j5 hy; omega
        · intro dp' g' d' fu' acc' h1 h2
          rw [depthsD] at h2
          rw [sizesD, List.length_cons, vloopD, if_neg (by simpa using hE)]
          obtain ⟨k1, k2⟩ := i3 dp' g' (d' + 1) fu' h1 (by omega)
          refine ⟨fun h3 => ?_, fun h3 h4 => ?_⟩
          · rw [k1 (by omega)]
            dsimp only
            obtain ⟨m1, -⟩ := j6 dp' g' d' (fu' - sizeD y) (acc' ++ [y]) (by omega) (by omega)
            rw [m1 (by omega), List.append_assoc]
            simp only [List.singleton_append]
            congr 2
            omega
          · by_cases h5 : fu' < sizeD y
            · obtain ⟨a', ha'⟩ := k2 h3 h5
              exact ⟨a', by rw [ha']⟩
            · rw [k1 (by omega)]
              dsimp only
              obtain ⟨-, m2⟩ := j6 dp' g' d' (fu' - sizeD y) (acc' ++ [y]) (by omega) (by omega)
              exact m2 (by omega) (by omega)
    · rw [if_pos hE] at h; cases h
/-- The body of a node decodes to T with whatever suffices. -/
def DecB (D : List UInt8) (p q t k a : Int) (T : DT) : Prop := ∀ (dp' : Int) (g' : Nat) (d' fu' : Int), fu' ≤ g' → depthD T - 1 ≤ dp' - d' →
  (sizeD T - 1 ≤ fu' → bodyD (decN D dp' g') D p q t k a d' fu' = .ok (T, fu' - (sizeD T - 1))) ∧ (0 ≤ fu' → fu' < sizeD T - 1 → ∃ x, bodyD (decN D dp' g') D p q t k a d' fu' = .error (x, 260))
theorem leaf_size (kd n u : Int) (s : List UInt8) (ks : List (List UInt8)) : sizeD (.mk kd n u s ks []) = 1 ∧ depthD (.mk kd n u s ks []) = 1 := by
  rw [sizeD, sizesD, depthD, depthsD]
  omega
theorem decB_leaf {D : List UInt8} {p q t k a : Int} {kd n u : Int} {s : List UInt8} {ks : List (List UInt8)} (h : ∀ (dec : DecF) (d fu : Int), bodyD dec D p q t k a d fu = .ok (.mk kd n u s ks [], fu)) : DecB D p q t k a (.mk kd n u s ks []) := by
  intro dp' g' d' fu' h1 h2
  obtain ⟨e1, e2⟩ := leaf_size kd n u s ks
  rw [e1]
  refine ⟨fun h3 => ?_, fun h3 h4 => by omega⟩
  rw [h]
  congr 2
  omega
theorem bodyD_least {D : List UInt8} {dp : Int} {g : Nat} (hd : ∀ p q t k lim d fu T f, 0 ≤ fu → decN D dp g p q t k lim d fu = .ok (T, f) → f = fu - sizeD T ∧ depthD T ≤ dp - d + 1 ∧ Dec1 D p q t k lim T) {p q t k a d fu : Int} {T : DT} {f : Int} (h0 : 0 ≤ fu) (hdd : d ≤ dp)
    (h : bodyD (decN D dp g) D p q t k a d fu = .ok (T, f)) : f = fu - (sizeD T - 1) ∧ depthD T - 1 ≤ dp - d ∧ DecB D p q t k a T := by
  have hb := h
  unfold bodyD at h
  by_cases t0 : t = 0
  · rw [if_pos t0] at h
    cases h
    obtain ⟨e1, e2⟩ := leaf_size (kindD t) 0 0 [] []
    exact ⟨by omega, by omega, decB_leaf fun dec d fu => by unfold bodyD; rw [if_pos t0]⟩
  rw [if_neg t0] at h
  by_cases t1 : t = 1 ∨ t = 6 ∨ t = 26
  · rw [if_pos t1] at h
    split at h
    · cases h
    · rename_i hs
      cases h
      obtain ⟨e1, e2⟩ := leaf_size (kindD t) (intV D p q t k) 0 [] []
      exact ⟨by omega, by omega, decB_leaf fun dec d fu => by unfold bodyD; rw [if_neg t0, if_pos t1, if_neg hs]⟩
  rw [if_neg t1] at h
  by_cases t2 : t = 2 ∨ t = 7
  · rw [if_pos t2] at h
    split at h
    · cases h
    · rename_i hs
      cases h
      obtain ⟨e1, e2⟩ := leaf_size (kindD t) 0 (uintV D p q t k) [] []
      exact ⟨by omega, by omega, decB_leaf fun dec d fu => by unfold bodyD; rw [if_neg t0, if_neg t1, if_pos t2, if_neg hs]⟩
  rw [if_neg t2] at h
  by_cases t4 : t = 4 ∨ t = 5 ∨ t = 25
  · rw [if_pos t4] at h
    split at h
    · cases h
    · rename_i hs
      cases h
      obtain ⟨e1, e2⟩ := leaf_size (kindD t) 0 0 (findS D p q t k true) []
      exact ⟨by omega, by omega, decB_leaf fun dec d fu => by unfold bodyD; rw [if_neg t0, if_neg t1, if_neg t2, if_pos t4, if_neg hs]⟩
  rw [if_neg t4] at h
  unfold vecD at h
  by_cases hE : lfindE D p q t k = 0
  rotate_left
  · rw [if_pos hE] at h; cases h
  rw [if_neg (by simpa using hE)] at h
  cases hk : (if t = 9 then keysD D k (lFrom D p q t k) (lCnt D p q t k) else .ok []) with
  | error x => rw [hk] at h; cases h
  | ok ks =>
    rw [hk] at h
    dsimp only at h
    cases hx : vloopD (decN D dp g) D p q t k a d (lCnt D p q t k).toNat 0 [] fu with
    | error x => rw [hx] at h; cases h
    | ok lf =>
      obtain ⟨l, f'⟩ := lf
      rw [hx] at h
      cases h
      obtain ⟨ys, j1, j2, j3, j4, j5, j6⟩ := vloopD_least hd _ _ _ _ _ _ h0 hx
      rw [List.nil_append] at j1
      subst j1
      rw [sizeD, depthD]
      refine ⟨by omega, by omega, ?_⟩
      intro dp' g' d' fu' h1 h2
      rw [depthD] at h2
      rw [sizeD]
      obtain ⟨m1, m2⟩ := j6 dp' g' d' fu' [] h1 (by omega)
      rw [j2, List.nil_append] at m1
      rw [j2] at m2
      have hun : bodyD (decN D dp' g') D p q t k a d' fu' = (match vloopD (decN D dp' g') D p q t k a d' (lCnt D p q t k).toNat 0 [] fu' with
          | .error x => .error x
          | .ok (l, fu') => .ok (.mk (kindD t) 0 0 [] ks l, fu')) := by
        unfold bodyD vecD
        rw [if_neg t0, if_neg t1, if_neg t2, if_neg t4, if_neg (by simpa using hE), hk]
        rfl
      rw [hun]
      refine ⟨fun h3 => ?_, fun h3 h4 => ?_⟩
      · rw [m1 (by omega)]
        dsimp only
        congr 2
        omega
      · obtain ⟨x, hx'⟩ := m2 h3 (by omega)
        exact ⟨x, by rw [hx']⟩
theorem decN_least {D : List UInt8} {dp : Int} : ∀ (g : Nat) (p q t k lim d fu : Int) (T : DT) (f : Int), 0 ≤ fu → decN D dp g p q t k lim d fu = .ok (T, f) → f = fu - sizeD T ∧ depthD T ≤ dp - d + 1 ∧ Dec1 D p q t k lim T
  | 0, p, q, t, k, lim, d, fu, T, f, h0, h => by rw [decN] at h; cases h
  | g + 1, p, q, t, k, lim, d, fu, T, f, h0, h => by
    rw [decN] at h
    dsimp only at h
    by_cases hf : fu = 0
    · rw [if_pos hf] at h; cases h
    rw [if_neg hf] at h
    by_cases hd : dp < d
    · rw [if_pos hd] at h; cases h
    rw [if_neg hd] at h
    by_cases ht : inlineB t = false ∧ tgtB D p q t k lim = false
    · rw [if_pos ht] at h; cases h
    rw [if_neg ht] at h
    obtain ⟨i1, i2, i3⟩ := bodyD_least (decN_least g) (by omega) (by omega) h
    refine ⟨by omega, by omega, ?_⟩
    intro dp' g' d' fu' h1 h2
    have hp := sizeD_pos T
    have hdp : 1 ≤ depthD T := by
      cases T with
      | mk kd n u s ks l => rw [depthD]; have := depthsD_nonneg l; omega
    cases g' with
    | zero =>
      refine ⟨fun h3 => by omega, fun h3 h4 => ⟨p, by rw [decN]⟩⟩
    | succ g' =>
      rw [decN]
      dsimp only
      by_cases hf' : fu' = 0
      · rw [if_pos hf']
        exact ⟨fun h3 => by omega, fun _ _ => ⟨p, rfl⟩⟩
      rw [if_neg hf', if_neg (show ¬ dp' < d' by omega), if_neg ht]
      obtain ⟨k1, k2⟩ := i3 dp' g' d' (fu' - 1) (by omega) (by omega)
      refine ⟨fun h3 => ?_, fun h3 h4 => k2 (by omega) (by omega)⟩
      rw [k1 (by omega)]
      congr 2
      omega
theorem depthD_pos (T : DT) : 1 ≤ depthD T := by
  cases T with
  | mk kd n u s ks l => rw [depthD]; have := depthsD_nonneg l; omega
theorem treeD_of {D : List UInt8} {dp m p q t k : Int} (hm : mayE D.length p q t k = 0) {T : DT} {f : Int} (h : decN D dp (max m 0).toNat p q t k p 1 (max m 0) = .ok (T, f)) : treeD D dp m p q t k = (T, f, 0, 0) := by
  unfold treeD
  rw [if_neg (by simpa using hm), h]
theorem treeD_of_err {D : List UInt8} {dp m p q t k : Int} (hm : mayE D.length p q t k = 0) {a e : Int} (h : decN D dp (max m 0).toNat p q t k p 1 (max m 0) = .error (a, e)) : treeD D dp m p q t k = (zeroT, 0, a, e) := by
  unfold treeD
  rw [if_neg (by simpa using hm), h]
theorem treeD_fuel {D : List UInt8} {dp m p q t k : Int} {T : DT} {f a : Int} (h : treeD D dp m p q t k = (T, f, a, 0)) :
    (m = f + sizeD T ∧ 0 ≤ f ∧ depthD T ≤ dp) ∧ (∀ dp' m', depthD T ≤ dp' → sizeD T ≤ m' → treeD D dp' m' p q t k = (T, m' - sizeD T, 0, 0)) ∧
      (∀ dp' m', depthD T ≤ dp' → m' < sizeD T → ∃ a', treeD D dp' m' p q t k = (zeroT, 0, a', 260)) ∧ (∀ dp' m', dp' < depthD T → (treeD D dp' m' p q t k).2.2.2 ≠ 0) := by
  obtain ⟨hmay, hdec, -⟩ := treeD_ok h
  obtain ⟨i1, i2, i3⟩ := decN_least _ _ _ _ _ _ _ _ _ _ (by omega) hdec
  have hle := decN_le _ _ _ _ _ _ _ _ _ _ (by omega) hdec
  have hp := sizeD_pos T
  refine ⟨⟨by omega, hle.1, by omega⟩, fun dp' m' h1 h2 => ?_, fun dp' m' h1 h2 => ?_, fun dp' m' h1 h2 => ?_⟩
  · refine treeD_of hmay ?_
    rw [(i3 dp' (max m' 0).toNat 1 (max m' 0) (by omega) (by omega)).1 (by omega)]
    congr 2
    omega
  · obtain ⟨a', ha'⟩ := (i3 dp' (max m' 0).toNat 1 (max m' 0) (by omega) (by omega)).2 (by omega) (by omega)
    exact ⟨a', treeD_of_err hmay ha'⟩
  · have he := h2
    have hall : treeD D dp' m' p q t k = ((treeD D dp' m' p q t k).1, (treeD D dp' m' p q t k).2.1, (treeD D dp' m' p q t k).2.2.1, 0) := by rw [← he]
    generalize (treeD D dp' m' p q t k).1 = T' at hall
    generalize (treeD D dp' m' p q t k).2.1 = f' at hall
    generalize (treeD D dp' m' p q t k).2.2.1 = a' at hall
    obtain ⟨-, hdec', -⟩ := treeD_ok hall
    obtain ⟨j1, j2, j3⟩ := decN_least _ _ _ _ _ _ _ _ _ _ (by omega) hdec'
    have hp' := sizeD_pos T'
    have u1 := (i3 (max (depthD T) (depthD T')) (max (sizeD T) (sizeD T')).toNat 1 (max (sizeD T) (sizeD T')) (by omega) (by omega)).1 (by omega)
    have u2 := (j3 (max (depthD T) (depthD T')) (max (sizeD T) (sizeD T')).toNat 1 (max (sizeD T) (sizeD T')) (by omega) (by omega)).1 (by omega)
    rw [u1] at u2
    cases u2
    omega
theorem treeD_more {D : List UInt8} {dp dp' m m' p q t k : Int} (hd : dp ≤ dp') (hm : max m 0 ≤ max m' 0) {T : DT} {f a e : Int} (h : treeD D dp m p q t k = (T, f, a, e)) (h1 : e ≠ 0) (h2 : e ≠ 260) (h3 : e ≠ 61) :
    (treeD D dp' m' p q t k).2.2.2 = e := by
  by_cases hmay : mayE D.length p q t k = 0
  · cases hx : decN D dp (max m 0).toNat p q t k p 1 (max m 0) with
    | ok y =>
      obtain ⟨T', f'⟩ := y
      rw [treeD_of hmay hx] at h
      simp only [Prod.mk.injEq] at h
      exact absurd h.2.2.2.symm h1
    | error y =>
      obtain ⟨a', e'⟩ := y
      rw [treeD_of_err hmay hx] at h
      simp only [Prod.mk.injEq] at h
      obtain ⟨-, -, -, rfl⟩ := h
      have hmono := decN_mono (D := D) (dp := dp) (dp' := dp') (c := max m' 0 - max m 0) (by omega) (max m 0).toNat (max m' 0).toNat p q t k p 1 1 (max m 0) (by omega) (by omega) (by omega) (by omega)
      rw [hx] at hmono
      rcases hmono with hh | hh | hh
      · exact absurd hh h2
      · exact absurd hh h3
      · rw [show max m 0 + (max m' 0 - max m 0) = max m' 0 by omega] at hh
        rw [treeD_of_err hmay hh]
  · unfold treeD at h ⊢
    rw [if_pos hmay] at h ⊢
    simp only [Prod.mk.injEq] at h
    exact h.2.2.2
end
section
open Go.RowKit
/- What list.At finds may be read: as in the walk of vector, which this text doesn't wait for. -/
theorem elem_legal2 {t : Int} (h : vecB t = true) : legalB (elemOf t) = true := by
  by_cases ho : t < 0 ∨ 37 ≤ t
  · simp [vecB, isOf_out ho] at h
  have h37 : t = 0 ∨ t = 1 ∨ t = 2 ∨ t = 3 ∨ t = 4 ∨ t = 5 ∨ t = 6 ∨ t = 7 ∨ t = 8 ∨ t = 9 ∨ t = 10 ∨ t = 11 ∨ t = 12 ∨ t = 13 ∨ t = 14 ∨ t = 15 ∨ t = 16 ∨ t = 17 ∨ t = 18 ∨ t = 19 ∨ t = 20 ∨ t = 21 ∨ t = 22 ∨ t = 23 ∨ t = 24 ∨ t = 25 ∨ t = 26 ∨ t = 27 ∨ t = 28 ∨ t = 29 ∨ t = 30 ∨ t = 31 ∨ t = 32 ∨ t = 33 ∨ t = 34 ∨ t = 35 ∨ t = 36 := by omega
  rcases h37 with rfl | rfl | rfl | rfl | rfl | rfl | rfl | rfl | rfl | rfl | rfl | rfl | rfl | rfl | rfl | rfl | rfl | rfl | rfl | rfl | rfl | rfl | rfl | rfl | rfl | rfl | rfl | rfl | rfl | rfl | rfl | rfl | rfl | rfl | rfl | rfl | rfl
  all_goals first | rfl | (revert h; decide)
theorem lat_may2 {L : List UInt8} {p q t k i : Int} (h : latE L p q t k i = 0) : mayE L.length (latP L p q t k i) (latQ L p q t k i) (latT L p q t k i) (latW L p q t k i) = 0 ∧ lfindE L p q t k = 0 ∧ 0 ≤ i ∧ i < lCnt L p q t k := by
  have he : lfindE L p q t k = 0 := by
    by_cases he : lfindE L p q t k = 0
    · exact he
    · simp [latE, he] at h
  have hi : ¬ (i < 0 ∨ lCnt L p q t k ≤ i) := by
    intro hi; simp [latE, he, hi] at h
  obtain ⟨g0, gv, g1, -, g2, g3, g4, g5, g6, -, -⟩ := lfindE_zero he
  obtain ⟨-, -, hk, -, -, -, k1, k8, -⟩ := mayE_zero (targetE_zero g0).1
  refine ⟨?_, he, by omega, by omega⟩
  have e1 : latP L p q t k i = lAt L p q t k + i * k := by simp [latP, h]
  have e2 : latQ L p q t k i = k := by simp [latQ, h]
  have ht := tagsOf_bd t
  have y1 : lCnt L p q t k * (k + tagsOf t) = lCnt L p q t k * k + lCnt L p q t k * tagsOf t := by rw [Int.mul_add]
  have y2 : 0 ≤ lCnt L p q t k * tagsOf t := Int.mul_nonneg g3 ht.1
  have y3 : (i + 1) * k ≤ lCnt L p q t k * k := Int.mul_le_mul_of_nonneg_right (by omega) (by omega)
  have y4 : (i + 1) * k = i * k + k := by rw [Int.add_mul, Int.one_mul]
  have y5 : 0 ≤ i * k := Int.mul_nonneg (by omega) (by omega)
  have hlw : legalB (latT L p q t k i) = true ∧ wideB (latW L p q t k i) = true := by
    cases hg : tagB t with
    | true =>
      have hu : unpackE (tagY L p q t k i) = 0 := by
        have hh := h
        simp only [latE, he, hi, hg, ne_eq, not_true_eq_false, if_false, if_true] at hh
        exact hh
      have hl : legalB (((tagY L p q t k i).toNat : Int) / 4) = true := by
        by_cases hl : legalB (((tagY L p q t k i).toNat : Int) / 4) = true
        · exact hl
        · simp [unpackE, hl] at hu
      have e3 : latT L p q t k i = ((tagY L p q t k i).toNat : Int) / 4 := by simp [latT, h, hg, unpackT, hl]
      have e4 : latW L p q t k i = 2 ^ ((tagY L p q t k i).toNat % 4) := by simp [latW, h, hg, unpackW, hl]
      rw [e3, e4]
      refine ⟨hl, ?_⟩
      have h4 : (tagY L p q t k i).toNat % 4 < 4 := Nat.mod_lt _ (by omega)
      generalize (tagY L p q t k i).toNat % 4 = m at h4
      have : m = 0 ∨ m = 1 ∨ m = 2 ∨ m = 3 := by omega
      rcases this with rfl | rfl | rfl | rfl <;> decide
    | false =>
      have hv : vecB t = true := by simpa [vectorB, hg] using gv
      have e3 : latT L p q t k i = elemOf t := by simp [latT, h, hg]
      have e4 : latW L p q t k i = k := by simp [latW, h, hg]
      rw [e3, e4]
      exact ⟨elem_legal2 hv, hk⟩
  unfold mayE
  have hin : insideB L.length (latP L p q t k i) (latQ L p q t k i) = true := by
    rw [e1, e2]
    simp only [insideB, Bool.and_eq_true, decide_eq_true_eq]
    omega
  rw [hlw.1, hlw.2, e2, hk]
  rw [e2] at hin
  simp [hin]
def ND (L : List (Lead × Int)) : Prop := (L.map (·.1)).Nodup
theorem vknown_none {L : List (Lead × Int)} {x : Lead} (h : vknown L x = none) : x ∉ L.map (·.1) := by
  intro hm
  obtain ⟨y, hy, rfl⟩ := List.mem_map.1 hm
  unfold vknown at h
  cases hf : L.find? (fun z => z.1 == y.1) with
  | none => have := List.find?_eq_none.1 hf y hy; simp at this
  | some z => rw [hf] at h; cases h
theorem ND.cons {L : List (Lead × Int)} (h : ND L) {x : Lead} {v : Int} (hx : x ∉ L.map (·.1)) : ND ((x, v) :: L) := by
  unfold ND; rw [List.map_cons, List.nodup_cons]; exact ⟨hx, h⟩
/-- The first height of a lead in a row of heights, or 0. -/
def firstH (R : List (Lead × Int)) (x : Lead) : Int := (vknown R x).getD 0
theorem vknown_of_mem {L : List (Lead × Int)} (hn : ND L) {x : Lead} {v : Int} (h : (x, v) ∈ L) : vknown L x = some v := by
  induction L with
  | nil => cases h
  | cons y L ih =>
    obtain ⟨y1, y2⟩ := y
    rw [vknown_cons]
    unfold ND at hn
    rw [List.map_cons, List.nodup_cons] at hn
    rcases List.mem_cons.1 h with h | h
    · cases h; simp
    · have : y1 ≠ x := by
        intro e; subst e
        exact hn.1 (List.mem_map.2 ⟨_, h, rfl⟩)
      rw [if_neg this]; exact ih hn.2 h
theorem ND.reverse {L : List (Lead × Int)} (hn : ND L) : ND L.reverse := by
  unfold ND at *
  rw [List.map_reverse]; exact List.pairwise_reverse.2 (hn.imp fun h => h.symm)
theorem vknown_reverse {L : List (Lead × Int)} (hn : ND L) (x : Lead) : vknown L.reverse x = vknown L x := by
  cases h : vknown L x with
  | some v => exact vknown_of_mem hn.reverse (List.mem_reverse.2 (vknown_mem h))
  | none =>
    cases h2 : vknown L.reverse x with
    | none => rfl
    | some v => exact absurd (List.mem_map.2 ⟨_, List.mem_reverse.1 (vknown_mem h2), rfl⟩) (vknown_none h)
/-- What a part adds: few, all keys or before the limit, nothing twice. -/
def Adds (lim c : Int) (S S' : VS) : Prop := ∃ N, S'.L = N ++ S.L ∧ (∀ t a k h, ((t, a, k), h) ∈ N → t = -1 ∨ beginsV t k a < lim) ∧ (N.length : Int) ≤ 2 * (S'.s - S.s) + c ∧ S.s ≤ S'.s ∧ (ND S.L → ND S'.L)
theorem Adds.refl (lim : Int) (S : VS) : Adds lim 0 S S := ⟨[], rfl, (fun _ _ _ _ h => by cases h), by simp, Int.le_refl _, id⟩
theorem Adds.same {lim : Int} {S S' : VS} (h : S'.L = S.L) (hs : S.s ≤ S'.s) : Adds lim 0 S S' := ⟨[], h, (fun _ _ _ _ h => by cases h), by simp; omega, hs, fun hn => h ▸ hn⟩
theorem Adds.trans {lim c d : Int} {S S1 S2 : VS} (h : Adds lim c S S1) (k : Adds lim d S1 S2) : Adds lim (c + d) S S2 := by
  obtain ⟨N, h1, h2, h3, h4, h5⟩ := h
  obtain ⟨M, k1, k2, k3, k4, k5⟩ := k
  refine ⟨M ++ N, by rw [k1, h1, List.append_assoc], fun t a k h hm => ?_, by rw [List.length_append]; push_cast; omega, by omega, fun hn => k5 (h5 hn)⟩
  rcases List.mem_append.1 hm with hm | hm
  · exact k2 _ _ _ _ hm
  · exact h2 _ _ _ _ hm
theorem Adds.weak {lim lim' c c' : Int} {S S' : VS} (h : Adds lim c S S') (hl : lim ≤ lim') (hc : c ≤ c') : Adds lim' c' S S' := by
  obtain ⟨N, h1, h2, h3, h4, h5⟩ := h
  exact ⟨N, h1, fun t a k x hm => by have := h2 t a k x hm; omega, by omega, h4, h5⟩
theorem keyM_s {D : List UInt8} {bud p q k a : Int} {S S' : VS} {s : List UInt8} (h : keyM D bud p q k a S = .ok (S', s)) : S.s ≤ S'.s := by
  unfold keyM at h
  split at h
  · cases h
  · split at h
    · cases h; exact Int.le_refl _
    · split at h
      · cases h
      · rename_i heq
        cases h
        rw [(stepM_ok heq).1]
        show S.s ≤ S.s + _
        omega
theorem keysLoop_s {D : List UInt8} {bud p q k : Int} {r : Nat} {i : Int} {last : List UInt8} {S S' : VS} {u : Unit} (h : keysLoop D bud p q k r i last S = .ok (S', u)) : S.s ≤ S'.s := by
  induction r generalizing i last S with
  | zero =>
    rw [keysLoop] at h
    simp only [Except.ok.injEq, Prod.mk.injEq] at h
    rw [← h.1]; exact Int.le_refl _
  | succ r ih =>
    rw [keysLoop, keysStep] at h
    split at h
    · cases h
    · rename_i h1
      split at h
      · cases h
      · rename_i h2
        split at h
        · cases h
        · rename_i h3
          split at h
          · cases h
          · have g := ih h
            have g3 := keyM_s h3
            rw [(targetM_ok h2).1, (stepM_ok h1).1] at g3
            have g4 : S.s + 1 ≤ _ := g3
            omega
theorem keysM_adds {D : List UInt8} {bud k f m lim : Int} {S S' : VS} {u : Unit} (h : keysM D bud k f m S = .ok (S', u)) : Adds lim 1 S S' := by
  unfold keysM at h
  split at h
  · cases h
  · rename_i h1
    obtain ⟨e1, e2, -, -, -, -⟩ := keysRefM_ok h1
    split at h
    · cases h
    · split at h
      · cases h
      · split at h
        · cases h; rw [e1]; exact (Adds.refl _ _).weak (Int.le_refl _) (by omega)
        · rename_i hk
          split at h
          · cases h
          · rename_i h2
            cases h
            have hs := keysLoop_s h2
            have hL := keysLoop_L h2
            rw [e1] at hs hL hk
            refine ⟨[_], by show _ :: _ = _; rw [hL]; rfl, fun t a k x hm => ?_, ?_, hs, fun hn => ?_⟩
            · rcases List.mem_cons.1 hm with hm | hm
              · cases hm; exact .inl rfl
              · cases hm
            · dsimp only [List.length]
              omega
            · show ND (_ :: _)
              rw [hL]
              exact hn.cons (vknown_none hk)
def LNew (look : LookF) (D : List UInt8) : Prop := ∀ p q t k lim deep S S' h, mayE D.length p q t k = 0 → look p q t k lim deep S = .ok (S', h) → Adds lim 0 S S'
theorem vecLoop_adds {look : LookF} {D : List UInt8} (hl : LNew look D) {p q t k a deep : Int} {r : Nat} {i high : Int} {S S' : VS} {h : Int}
    (he : vecLoop look D p q t k a deep r i high S = .ok (S', h)) : Adds (lFrom D p q t k) 0 S S' := by
  induction r generalizing i high S with
  | zero => unfold vecLoop at he; cases he; exact Adds.refl _ _
  | succ r ih =>
    unfold vecLoop at he
    split at he
    · cases he
    · rename_i h0
      split at he
      · cases he
      · rename_i h2
        have g := hl _ _ _ _ _ _ _ _ _ (lat_may2 (show latE D p q t k i = 0 by simpa using h0)).1 h2
        exact g.trans (ih he)
theorem vecM_adds {look : LookF} {D : List UInt8} (hl : LNew look D) {bud p q t k a deep : Int} {S S' : VS} {h : Int} (he : vecM look D bud p q t k a deep S = .ok (S', h)) :
    Adds (beginsV t k (p - loadV D p q)) 1 S S' := by
  unfold vecM at he
  split at he
  · cases he
  · rename_i h0
    have h0 : lfindE D p q t k = 0 := by simpa using h0
    rw [lfrom_begins h0]
    split at he
    · cases he
    · rename_i S1 u1 h1
      have hk1 : Adds (lFrom D p q t k) 1 S S1 := by
        split at h1
        · exact keysM_adds h1
        · cases h1; exact (Adds.refl _ _).weak (Int.le_refl _) (by omega)
      split at he
      · cases he
      · rename_i h2
        cases he
        exact hk1.trans (vecLoop_adds hl h2)
theorem partM_adds {look : LookF} {D : List UInt8} (hl : LNew look D) {bud p q t k a deep : Int} {S S' : VS} {h : Int} (he : partM look D bud p q t k a deep S = .ok (S', h)) :
    Adds (beginsV t k (p - loadV D p q)) 1 S S' := by
  unfold partM at he
  split at he
  · split at he
    · cases he
    · cases he; exact (Adds.refl _ _).weak (Int.le_refl _) (by omega)
  · split at he
    · split at he
      · cases he
      · rename_i h1
        cases he
        exact (Adds.same (keyM_L h1) (keyM_s h1)).weak (Int.le_refl _) (by omega)
    · split at he
      · split at he
        · cases he
        · cases he; exact (Adds.refl _ _).weak (Int.le_refl _) (by omega)
      · exact vecM_adds hl he
theorem lookM_new (D : List UInt8) (dp bud : Int) (f : Nat) : LNew (lookM D dp bud f) D := by
  induction f with
  | zero => intro p q t k lim deep S S' h _ he; unfold lookM at he; cases he
  | succ f ih =>
    intro p q t k lim deep S S' h hm he
    obtain ⟨m1, -⟩ := mayE_zero hm
    obtain ⟨t0, -⟩ := kindOf_in m1
    unfold lookM at he
    split at he
    · cases he
    · rename_i h1
      have e1 := (stepM_ok h1).1
      split at he
      · cases he
      · split at he
        · cases he; exact Adds.same (by rw [e1]) (by rw [e1]; show S.s ≤ S.s + 1; omega)
        · split at he
          · cases he
          · rename_i h2
            obtain ⟨e2, e3, e4⟩ := targetM_ok h2
            obtain ⟨g1, g2⟩ := tgtB_le e4
            subst e2; subst e3
            split at he
            · split at he
              · cases he
                exact Adds.same (by rw [e1]) (by rw [e1]; show S.s ≤ S.s + 1; omega)
              · cases he
            · rename_i h3
              split at he
              · cases he
              · rename_i h4
                cases he
                obtain ⟨N, k1, k2, k3, k4, k5⟩ := partM_adds ih h4
                rw [e1] at k1 k3 k4 k5 h3
                have hn : leadOf t (p - loadV D p q) k ∉ ((N ++ S.L).map (·.1)) := by
                  rw [List.map_append]
                  intro hm
                  rcases List.mem_append.1 hm with hm | hm
                  · obtain ⟨⟨⟨t', a', k'⟩, v⟩, hy, hz⟩ := List.mem_map.1 hm
                    unfold leadOf at hz
                    injection hz with z1 z2
                    injection z2 with z2 z3
                    subst z1; subst z2; subst z3
                    have := k2 _ _ _ _ hy
                    rw [beginsV_lead] at this
                    omega
                  · exact vknown_none h3 hm
                refine ⟨(leadOf t (p - loadV D p q) k, h) :: N, by show _ :: _ = _; rw [k1]; rfl, fun t' a' k' x hm => ?_, ?_, ?_, fun hnd => ?_⟩
                · rcases List.mem_cons.1 hm with hm | hm
                  · injection hm with hm _
                    unfold leadOf at hm
                    injection hm with z1 z2
                    injection z2 with z2 z3
                    subst z1; subst z2; subst z3
                    rw [beginsV_lead]; exact .inr g2
                  · have := k2 _ _ _ _ hm; omega
                · rw [List.length_cons]; push_cast; dsimp only at k3 k4 ⊢; omega
                · dsimp only at k4 ⊢; omega
                · show ND (_ :: _)
                  rw [k1]
                  refine ND.cons ?_ hn
                  rw [← k1]; exact k5 hnd
end
section
open Go.RowKit
section
variable {D : List UInt8} {p q p' q' t k k' : Int}
theorem tgt_is (hm : mayE D.length p q t k = 0) (hi : inlineB t = false) (hl : loadV D p q ≤ p) : targetE D p q t k = 0 ∧ targetV D p q t k = p - loadV D p q := by
  have h : targetE D p q t k = 0 := by
    unfold targetE; rw [if_neg (by simp [hm]), if_neg (by simp [hi]), if_neg (by omega)]
  exact ⟨h, by simp [targetV, h]⟩
/-- Vectors at the same place have the same parts. -/
theorem same_list (hm : mayE D.length p q t k = 0) (hm' : mayE D.length p' q' t k = 0) (hi : inlineB t = false) (hl : loadV D p q ≤ p) (hl' : loadV D p' q' ≤ p') (ha : p' - loadV D p' q' = p - loadV D p q) :
    lfindE D p' q' t k = lfindE D p q t k ∧ lCnt D p' q' t k = lCnt D p q t k ∧ lFrom D p' q' t k = lFrom D p q t k ∧ (∀ i, latE D p' q' t k i = latE D p q t k i) ∧ (∀ i, latP D p' q' t k i = latP D p q t k i)
      ∧ (∀ i, latQ D p' q' t k i = latQ D p q t k i) ∧ (∀ i, latT D p' q' t k i = latT D p q t k i) ∧ (∀ i, latW D p' q' t k i = latW D p q t k i) := by
  obtain ⟨e, v⟩ := tgt_is hm hi hl
  obtain ⟨e', v'⟩ := tgt_is hm' hi hl'
  rw [ha] at v'
  have hE : lfindE D p' q' t k = lfindE D p q t k := by simp only [lfindE, hm, hm', e, e', v, v']
  have hC : lCnt D p' q' t k = lCnt D p q t k := by simp only [lCnt, hE, v, v']
  have hA : lAt D p' q' t k = lAt D p q t k := by simp only [lAt, hE, v, v']
  have hF : lFrom D p' q' t k = lFrom D p q t k := by simp only [lFrom, hE, v, v']
  have hY : ∀ i, tagY D p' q' t k i = tagY D p q t k i := fun i => by simp only [tagY, hA, hC]
  have hlE : ∀ i, latE D p' q' t k i = latE D p q t k i := fun i => by simp only [latE, hE, hC, hY]
  exact ⟨hE, hC, hF, hlE, fun i => by simp only [latP, hlE, hA], fun i => by simp only [latQ, hlE], fun i => by simp only [latT, hlE, hY], fun i => by simp only [latW, hlE, hY]⟩
theorem same_kloop (hm : mayE D.length p q 14 k = 0) (hm' : mayE D.length p' q' 14 k = 0) (hl : loadV D p q ≤ p) (hl' : loadV D p' q' ≤ p') (ha : p' - loadV D p' q' = p - loadV D p q) :
    ∀ (r : Nat) (i : Int) (acc : List (List UInt8)), kloopD D p' q' k r i acc = kloopD D p q k r i acc
  | 0, i, acc => rfl
  | r + 1, i, acc => by
    obtain ⟨-, -, hF, -, hP, hQ, hT, hW⟩ := same_list hm hm' (by decide) hl hl' ha
    rw [kloopD, kloopD, hP, hQ, hT, hW, hF, same_kloop hm hm' hl hl' ha r]
theorem same_vloop (hm : mayE D.length p q t k = 0) (hm' : mayE D.length p' q' t k = 0) (hi : inlineB t = false) (hl : loadV D p q ≤ p) (hl' : loadV D p' q' ≤ p') (ha : p' - loadV D p' q' = p - loadV D p q) (dec : DecF) (a d : Int) :
    ∀ (r : Nat) (i : Int) (acc : List DT) (fu : Int), vloopD dec D p' q' t k a d r i acc fu = vloopD dec D p q t k a d r i acc fu
  | 0, i, acc, fu => rfl
  | r + 1, i, acc, fu => by
    obtain ⟨-, hC, hF, hE, hP, hQ, hT, hW⟩ := same_list hm hm' hi hl hl' ha
    rw [vloopD, vloopD, hP, hQ, hT, hW, hF, hE, hC]
    simp only [same_vloop hm hm' hi hl hl' ha dec a d r]
theorem same_body (hm : mayE D.length p q t k = 0) (hm' : mayE D.length p' q' t k' = 0) (hi : inlineB t = false) (hl : loadV D p q ≤ p) (hl' : loadV D p' q' ≤ p') (ha : p' - loadV D p' q' = p - loadV D p q) (hk : k' = k ∨ t = 4)
    (dec : DecF) (a d fu : Int) : bodyD dec D p' q' t k' a d fu = bodyD dec D p q t k a d fu := by
  obtain ⟨e, v⟩ := tgt_is hm hi hl
  obtain ⟨e', v'⟩ := tgt_is hm' hi hl'
  rw [ha] at v'
  by_cases h4 : t = 4
  · subst h4
    have hE : findE D p' q' 4 k' true = findE D p q 4 k true := by simp only [findE, hm, hm', e, e', v, v', if_true]
    have hN : findN D p' q' 4 k' = findN D p q 4 k := by simp only [findN, v, v', if_true]
    have hS : findS D p' q' 4 k' true = findS D p q 4 k true := by simp only [findS, hE, hN, v, v']
    unfold bodyD
    rw [hE, hS]
    simp only [true_or, if_true, show ¬ ((4 : Int) = 0) by omega, show ¬ ((4 : Int) = 1 ∨ (4 : Int) = 6 ∨ (4 : Int) = 26) by omega, show ¬ ((4 : Int) = 2 ∨ (4 : Int) = 7) by omega, if_false]
  · obtain rfl : k' = k := by rcases hk with h | h; exact h; exact absurd h h4
    have hE : findE D p' q' t k' true = findE D p q t k' true := by simp only [findE, hm, hm', e, e', v, v']
    have hN : findN D p' q' t k' = findN D p q t k' := by simp only [findN, v, v']
    have hS : findS D p' q' t k' true = findS D p q t k' true := by simp only [findS, hE, hN, v, v']
    have sE : splaceE D p' q' t k' = splaceE D p q t k' := by simp only [splaceE, hm, hm', e, e', v, v']
    have sA : splaceA D p' q' t k' = splaceA D p q t k' := by simp only [splaceA, sE, hi, v, v', Bool.false_eq_true, if_false]
    have sW : splaceW D p' q' t k' = splaceW D p q t k' := by simp only [splaceW, sE, hi, Bool.false_eq_true, if_false]
    have iV : intV D p' q' t k' = intV D p q t k' := by simp only [intV, sE, sA, sW]
    have uV : uintV D p' q' t k' = uintV D p q t k' := by simp only [uintV, sE, sA, sW]
    obtain ⟨lE, lC, lF, -⟩ := same_list hm hm' hi hl hl' ha
    unfold bodyD vecD
    simp only [hE, hS, sE, iV, uV, lE, lC, lF, same_vloop hm hm' hi hl hl' ha]
end
/-- How many offsets have not been counted. -/
def left_ (n : Nat) (C : List Int) : Int := ((List.range n).filter (fun (x : Nat) => !(C.contains (x : Int)))).length
theorem left_nonneg (n : Nat) (C : List Int) : 0 ≤ left_ n C := by unfold left_; omega
theorem left_le (n : Nat) (C : List Int) : left_ n C ≤ n := by
  unfold left_
  have := List.length_filter_le (fun (x : Nat) => !(C.contains (x : Int))) (List.range n)
  rw [List.length_range] at this
  omega
theorem left_cons {n : Nat} {C : List Int} {a : Int} (h0 : 0 ≤ a) (h1 : a < n) (hn : ¬ a ∈ C) : left_ n (a :: C) + 1 ≤ left_ n C := by
  unfold left_
  have e : (List.range n).filter (fun (x : Nat) => !((a :: C).contains (x : Int))) = ((List.range n).filter (fun (x : Nat) => !(C.contains (x : Int)))).filter (fun (x : Nat) => !((x : Int) == a)) := by
    rw [List.filter_filter]
    congr 1
    funext x
    rw [List.contains_cons, Bool.not_or]
  rw [e]
  have hlt : (((List.range n).filter (fun (x : Nat) => !(C.contains (x : Int)))).filter (fun (x : Nat) => !((x : Int) == a))).length < ((List.range n).filter (fun (x : Nat) => !(C.contains (x : Int)))).length := by
    rw [List.length_filter_lt_length_iff_exists]
    refine ⟨a.toNat, ?_, ?_⟩
    · rw [List.mem_filter, List.mem_range]
      refine ⟨by omega, ?_⟩
      rw [show ((a.toNat : Nat) : Int) = a by omega]
      simpa using hn
    · rw [show ((a.toNat : Nat) : Int) = a by omega]
      simp
  omega
/-- What is known is good: it decodes to a tree of that depth from wherever it is referred to. -/
def KGood (D : List UInt8) (t a k h : Int) : Prop := ∃ T, depthD T = h ∧ ∀ p q k', mayE D.length p q t k' = 0 → loadV D p q ≤ p → p - loadV D p q = a → (k' = k ∨ t = 4) → DecB D p q t k' a T
def KKeys (D : List UInt8) (a k : Int) : Prop := ∀ f k', mayE D.length f k' 14 k = 0 → loadV D f k' ≤ f → f - loadV D f k' = a → ∃ ks, kloopD D f k' k (lCnt D f k' 14 k).toNat 0 [] = .ok ks
def KOk (D : List UInt8) (L : List (Lead × Int)) : Prop := ∀ t a k h, ((t, a, k), h) ∈ L → (t ≠ -1 → KGood D t a k h) ∧ (t = -1 → KKeys D a k)
theorem KOk.cons {D : List UInt8} {L : List (Lead × Int)} (hL : KOk D L) {t a k h : Int} (h1 : t ≠ -1 → KGood D t a k h) (h2 : t = -1 → KKeys D a k) : KOk D (((t, a, k), h) :: L) := by
  intro t' a' k' h' hm
  rcases List.mem_cons.1 hm with e | e
  · cases e; exact ⟨h1, h2⟩
  · exact hL _ _ _ _ e
/-- The steps spent, twice the fuel that is left, and the steps that the keys not counted may take. -/
def Pot (D : List UInt8) (S : VS) (fu : Int) : Int := S.s + 2 * fu + 501 * left_ D.length S.C
section
variable {D : List UInt8} (hN : D.length ≤ 500) {bud : Int}
include hN
theorem keyM_sim {p q k : Int} {S : VS} (hb : S.s + 501 * left_ D.length S.C ≤ bud) (he : findE D p q 4 k true = 0) {a : Int} (ha : a = p - loadV D p q) :
    ∃ S', keyM D bud p q k a S = .ok (S', findS D p q 4 k true) ∧ S'.L = S.L ∧ S'.s + 501 * left_ D.length S'.C ≤ S.s + 501 * left_ D.length S.C := by
  obtain ⟨hT, hle, -⟩ := findE_zero he
  obtain ⟨hm, -, t0, t1⟩ := targetE_zero hT
  have hv : targetV D p q 4 k = p - loadV D p q := by simp [targetV, hT]
  have hk : keyE D (targetV D p q 4 k).toNat = 0 := by
    have h := he
    simp only [findE, hm, hT, ne_eq, not_true_eq_false, if_false, if_true, Bool.true_eq_false] at h
    exact h
  have hz := keyE_zero hk
  have hg := zeroAt_ge D (targetV D p q 4 k).toNat
  unfold keyM
  rw [if_neg (by simpa using he)]
  by_cases hc : a ∈ S.C
  · rw [if_pos hc]
    exact ⟨S, rfl, rfl, Int.le_refl _⟩
  · rw [if_neg hc]
    have hl := left_cons (n := D.length) (by omega) (by omega) hc
    have h0 := left_nonneg D.length (a :: S.C)
    have hs := findS_le D p q 4 k true
    unfold stepM
    rw [if_pos (by omega)]
    exact ⟨_, rfl, rfl, by dsimp only; omega⟩
theorem kloop_sim {p q k : Int} : ∀ (r : Nat) (i : Int) (last : List UInt8) (acc : List (List UInt8)) (S : VS), i = acc.length → (0 < i → last = acc.getD (i - 1).toNat []) → S.s + r + 501 * left_ D.length S.C ≤ bud →
    (∀ ks, kloopD D p q k r i acc = .ok ks → ∃ S', keysLoop D bud p q k r i last S = .ok (S', ()) ∧ S'.L = S.L ∧ S'.s + 501 * left_ D.length S'.C ≤ S.s + r + 501 * left_ D.length S.C) ∧
    (∀ a e, kloopD D p q k r i acc = .error (a, e) → ∃ s, keysLoop D bud p q k r i last S = .error (s, a, e))
  | 0, i, last, acc, S, hi, hla, hb => by
    rw [kloopD]
    exact ⟨fun ks _ => ⟨S, by rw [keysLoop], rfl, by omega⟩, fun a e h => by cases h⟩
  | r + 1, i, last, acc, S, hi, hla, hb => by
    have hn0 := left_nonneg D.length S.C
    rw [kloopD, keysLoop]
    unfold keysStep
    have hst : stepM bud 1 (latP D p q 14 k i) S = .ok ({ S with s := S.s + 1 }, ()) := by
      unfold stepM; rw [if_pos (by omega)]
    rw [hst]
    dsimp only
    by_cases ht : tgtB D (latP D p q 14 k i) (latQ D p q 14 k i) (latT D p q 14 k i) (latW D p q 14 k i) (lFrom D p q 14 k) = false
    · rw [if_pos ht]
      unfold targetM
      rw [ht]
      exact ⟨fun ks h => (by cases h), fun a e h => by cases h; exact ⟨_, rfl⟩⟩
    rw [if_neg ht]
    have ht' : tgtB D (latP D p q 14 k i) (latQ D p q 14 k i) (latT D p q 14 k i) (latW D p q 14 k i) (lFrom D p q 14 k) = true := by simpa using ht
    have htm : targetM D (latP D p q 14 k i) (latQ D p q 14 k i) (latT D p q 14 k i) (latW D p q 14 k i) (lFrom D p q 14 k) { S with s := S.s + 1 } = .ok ({ S with s := S.s + 1 }, latP D p q 14 k i - loadV D (latP D p q 14 k i) (latQ D p q 14 k i)) := by
      unfold targetM; rw [ht']; rfl
    rw [htm]
    dsimp only
    by_cases hf : findE D (latP D p q 14 k i) (latQ D p q 14 k i) 4 (latW D p q 14 k i) true = 0
    · rw [if_neg (show ¬ (findE D (latP D p q 14 k i) (latQ D p q 14 k i) 4 (latW D p q 14 k i) true ≠ 0) by simpa using hf)]
      obtain ⟨S', h1, h2, h3⟩ := keyM_sim (bud := bud) hN (S := { S with s := S.s + 1 }) (by dsimp only; omega) hf rfl
      rw [h1]
      dsimp only at h2 h3 ⊢
      have hls : (0 < i ∧ lessB last (findS D (latP D p q 14 k i) (latQ D p q 14 k i) 4 (latW D p q 14 k i) true) = false) ↔ (0 < i ∧ lessB (acc.getD (i - 1).toNat []) (findS D (latP D p q 14 k i) (latQ D p q 14 k i) 4 (latW D p q 14 k i) true) = false) :=
        and_congr_right fun h => by rw [hla h]
      by_cases hc : 0 < i ∧ lessB (acc.getD (i - 1).toNat []) (findS D (latP D p q 14 k i) (latQ D p q 14 k i) 4 (latW D p q 14 k i) true) = false
      · rw [if_pos hc, if_pos (hls.2 hc)]
        exact ⟨fun ks h => (by cases h), fun a e h => by cases h; exact ⟨_, rfl⟩⟩
      · rw [if_neg hc, if_neg (fun h => hc (hls.1 h))]
        obtain ⟨g1, g2⟩ := kloop_sim r (i + 1) (findS D (latP D p q 14 k i) (latQ D p q 14 k i) 4 (latW D p q 14 k i) true) (acc ++ [findS D (latP D p q 14 k i) (latQ D p q 14 k i) 4 (latW D p q 14 k i) true]) S'
          (by rw [List.length_append, List.length_singleton]; omega) (fun _ => by rw [show (i + 1 - 1).toNat = acc.length by omega]; simp) (by omega)
        refine ⟨fun ks h => ?_, g2⟩
        obtain ⟨S2, j1, j2, j3⟩ := g1 ks h
        exact ⟨S2, j1, j2.trans h2, by omega⟩
    · rw [if_pos (show findE D (latP D p q 14 k i) (latQ D p q 14 k i) 4 (latW D p q 14 k i) true ≠ 0 from hf)]
      refine ⟨fun ks h => (by cases h), fun a e h => ?_⟩
      cases h
      unfold keyM
      rw [if_pos (show findE D (latP D p q 14 k i) (latQ D p q 14 k i) 4 (latW D p q 14 k i) true ≠ 0 from hf)]
      exact ⟨_, rfl⟩
theorem keys_sim {k f many : Int} {S : VS} (hK : KOk D S.L) (h0 : 0 ≤ many) (hb : S.s + many + 501 * left_ D.length S.C ≤ bud) :
    (∀ ks, keysD D k f many = .ok ks → ∃ S', keysM D bud k f many S = .ok (S', ()) ∧ KOk D S'.L ∧ S'.s + 501 * left_ D.length S'.C ≤ S.s + many + 501 * left_ D.length S.C) ∧
    (∀ a e, keysD D k f many = .error (a, e) → ∃ s, keysM D bud k f many S = .error (s, a, e)) := by
  unfold keysD keysM krefD keysRefM
  by_cases c1 : f < loadV D f k
  · rw [if_pos c1, if_pos c1]
    exact ⟨fun ks h => (by cases h), fun a e h => by cases h; exact ⟨_, rfl⟩⟩
  rw [if_neg c1, if_neg c1]
  by_cases c2 : wideB (kwOf D k f) = false
  · rw [if_pos c2, if_pos c2]
    exact ⟨fun ks h => (by cases h), fun a e h => by cases h; exact ⟨_, rfl⟩⟩
  rw [if_neg c2, if_neg c2]
  unfold targetM
  by_cases c3 : tgtB D f k 14 (kwOf D k f) f = false
  · rw [if_pos c3, c3]
    exact ⟨fun ks h => (by cases h), fun a e h => by cases h; exact ⟨_, rfl⟩⟩
  rw [if_neg c3, if_pos (by simpa using c3)]
  dsimp only
  by_cases c4 : lfindE D f k 14 (kwOf D k f) = 0
  · rw [if_neg (show ¬ (lfindE D f k 14 (kwOf D k f) ≠ 0) by simpa using c4), if_neg (show ¬ (lfindE D f k 14 (kwOf D k f) ≠ 0) by simpa using c4)]
    by_cases c5 : lCnt D f k 14 (kwOf D k f) = many
    · rw [if_neg (show ¬ (lCnt D f k 14 (kwOf D k f) ≠ many) by simpa using c5), if_neg (show ¬ (lCnt D f k 14 (kwOf D k f) ≠ many) by simpa using c5)]
      have hT := (lfindE_zero c4).1
      have hm := (targetE_zero hT).1
      cases hv : vknown S.L (-1, f - loadV D f k, kwOf D k f) with
      | some h =>
        dsimp only
        obtain ⟨ks, hks⟩ := (hK _ _ _ _ (vknown_mem hv)).2 rfl f k hm (by omega) rfl
        rw [c5] at hks
        rw [hks]
        exact ⟨fun ks' _ => ⟨S, rfl, hK, by omega⟩, fun a e h => by cases h⟩
      | none =>
        dsimp only
        obtain ⟨g1, g2⟩ := kloop_sim hN (bud := bud) (p := f) (q := k) (k := kwOf D k f) many.toNat 0 [] [] S rfl (fun h => by omega) (by omega)
        cases hx : kloopD D f k (kwOf D k f) many.toNat 0 [] with
        | error x =>
          obtain ⟨a, e⟩ := x
          obtain ⟨s, hs⟩ := g2 a e hx
          rw [hs]
          exact ⟨fun ks h => (by cases h), fun a e h => by cases h; exact ⟨_, rfl⟩⟩
        | ok ks =>
          obtain ⟨S', i1, i2, i3⟩ := g1 ks hx
          rw [i1]
          refine ⟨fun ks' _ => ⟨_, rfl, ?_, by dsimp only; omega⟩, fun a e h => by cases h⟩
          dsimp only
          refine KOk.cons (by rw [i2]; exact hK) (fun h => absurd rfl h) fun _ => ?_
          intro f' k' hm' hl' ha'
          refine ⟨ks, ?_⟩
          rw [same_kloop hm hm' (by omega) hl' ha', (same_list hm hm' (by decide) (by omega) hl' ha').2.1, c5]
          exact hx
    · rw [if_pos (show lCnt D f k 14 (kwOf D k f) ≠ many from c5), if_pos (show lCnt D f k 14 (kwOf D k f) ≠ many from c5)]
      exact ⟨fun ks h => (by cases h), fun a e h => by cases h; exact ⟨_, rfl⟩⟩
  · rw [if_pos (show lfindE D f k 14 (kwOf D k f) ≠ 0 from c4), if_pos (show lfindE D f k 14 (kwOf D k f) ≠ 0 from c4)]
    exact ⟨fun ks h => (by cases h), fun a e h => by cases h; exact ⟨_, rfl⟩⟩
end
/-- What Check does where decode does this. -/
def SimR {α : Type} (D : List UInt8) (S : VS) (fu c : Int) (dep : α → Int) (r : DR (α × Int)) (r' : VR Int) : Prop :=
  (∀ T fu', r = .ok (T, fu') → ∃ S', r' = .ok (S', dep T) ∧ KOk D S'.L ∧ Pot D S' fu' + c ≤ Pot D S fu) ∧ (∀ a e, r = .error (a, e) → e = 260 ∨ ∃ s a', r' = .error (s, a', e) ∧ (a' = a ∨ e = 61))
theorem SimR.err {α : Type} {D : List UInt8} {S : VS} {fu c : Int} {dep : α → Int} {a e s : Int} : SimR D S fu c dep (.error (a, e)) (.error (s, a, e)) :=
  ⟨fun T fu' h => (by cases h), fun a' e' h => by cases h; exact .inr ⟨_, _, rfl, .inl rfl⟩⟩
theorem SimR.fuel {α : Type} {D : List UInt8} {S : VS} {fu c : Int} {dep : α → Int} {a : Int} {r' : VR Int} : SimR D S fu c dep (.error (a, 260)) r' :=
  ⟨fun T fu' h => (by cases h), fun a' e' h => by cases h; exact .inl rfl⟩
theorem SimR.ok {α : Type} {D : List UInt8} {S S' : VS} {fu fu' c h : Int} {dep : α → Int} {T : α} (hd : h = dep T) (hK : KOk D S'.L) (hp : Pot D S' fu' + c ≤ Pot D S fu) : SimR D S fu c dep (.ok (T, fu')) (.ok (S', h)) :=
  ⟨fun T fu' e => by cases e; exact ⟨S', by rw [hd], hK, hp⟩, fun a' e' h => by cases h⟩
def SimL (D : List UInt8) (bud : Int) (dec : DecF) (look : LookF) (g lm : Int) : Prop := ∀ p q t k lim d fu S, 0 ≤ fu → fu ≤ g → mayE D.length p q t k = 0 → lim ≤ lm → KOk D S.L → Pot D S fu + (66 - d) * 520 ≤ bud → d ≤ 65 →
  SimR D S fu 1 depthD (dec p q t k lim d fu) (look p q t k lim d S)
theorem depthsD_snoc (y : DT) : ∀ l : List DT, depthsD (l ++ [y]) = max (depthsD l) (depthD y)
  | [] => by
    rw [List.nil_append, depthsD, depthsD, depthsD]
    have : 1 ≤ depthD y := depthD_pos y
    omega
  | t :: ts => by
    rw [List.cons_append, depthsD, depthsD, depthsD_snoc y ts]
    omega
theorem vloop_sim {D : List UInt8} {bud g : Int} {dec : DecF} {look : LookF} {p q t k a d : Int} (hle : ∀ p q t k lim d fu T f, 0 ≤ fu → dec p q t k lim d fu = .ok (T, f) → 0 ≤ f ∧ f ≤ fu) (hd : SimL D bud dec look g (lFrom D p q t k)) (hd64 : d ≤ 64) :
    ∀ (r : Nat) (i : Int) (acc : List DT) (fu high : Int) (S : VS), 0 ≤ fu → fu ≤ g → high = depthsD acc → KOk D S.L → Pot D S fu + (66 - (d + 1)) * 520 ≤ bud →
      SimR D S fu r depthsD (vloopD dec D p q t k a d r i acc fu) (vecLoop look D p q t k a d r i high S)
  | 0, i, acc, fu, high, S, h0, h1, hh, hK, hb => by
    rw [vloopD, vecLoop]
    exact SimR.ok hh hK (by omega)
  | r + 1, i, acc, fu, high, S, h0, h1, hh, hK, hb => by
    rw [vloopD, vecLoop]
    by_cases he : latE D p q t k i = 0
    · rw [if_neg (show ¬ (latE D p q t k i ≠ 0) by simpa using he), if_neg (show ¬ (latE D p q t k i ≠ 0) by simpa using he)]
      obtain ⟨g1, g2⟩ := hd (latP D p q t k i) (latQ D p q t k i) (latT D p q t k i) (latW D p q t k i) (lFrom D p q t k) (d + 1) fu S h0 h1 (lat_may2 he).1 (Int.le_refl _) hK hb (by omega)
      cases hx : dec (latP D p q t k i) (latQ D p q t k i) (latT D p q t k i) (latW D p q t k i) (lFrom D p q t k) (d + 1) fu with
      | error x =>
        obtain ⟨a1, e1⟩ := x
        dsimp only
        rcases g2 a1 e1 hx with rfl | ⟨s, a', hs, ha⟩
        · exact SimR.fuel
        · rw [hs]
          exact ⟨fun T fu' h => (by cases h), fun a' e' h => by cases h; exact .inr ⟨_, _, rfl, ha⟩⟩
      | ok y =>
        obtain ⟨T, f⟩ := y
        dsimp only
        obtain ⟨S', i1, i2, i3⟩ := g1 T f hx
        have hf := hle _ _ _ _ _ _ _ _ _ h0 hx
        rw [i1]
        dsimp only
        obtain ⟨j1, j2⟩ := vloop_sim (a := a) (d := d) hle hd hd64 r (i + 1) (acc ++ [T]) f (max high (depthD T)) S' hf.1 (by omega) (by rw [depthsD_snoc, hh]) i2 (by omega)
        refine ⟨fun l fu' h => ?_, j2⟩
        obtain ⟨S2, k1, k2, k3⟩ := j1 l fu' h
        exact ⟨S2, k1, k2, by push_cast at k3 ⊢; omega⟩
    · rw [if_pos (show latE D p q t k i ≠ 0 from he), if_pos (show latE D p q t k i ≠ 0 from he)]
      exact SimR.err
/-- The types of references that hold their data in place. -/
theorem inline_is {t : Int} (h : legalB t = true) : inlineB t = true ↔ (t = 0 ∨ t = 1 ∨ t = 2 ∨ t = 26) := by
  by_cases ho : t < 0 ∨ 37 ≤ t
  · simp [legalB, isOf_out ho] at h
  have h37 : t = 0 ∨ t = 1 ∨ t = 2 ∨ t = 3 ∨ t = 4 ∨ t = 5 ∨ t = 6 ∨ t = 7 ∨ t = 8 ∨ t = 9 ∨ t = 10 ∨ t = 11 ∨ t = 12 ∨ t = 13 ∨ t = 14 ∨ t = 15 ∨ t = 16 ∨ t = 17 ∨ t = 18 ∨ t = 19 ∨ t = 20 ∨ t = 21 ∨ t = 22 ∨ t = 23 ∨ t = 24 ∨ t = 25 ∨ t = 26 ∨ t = 27 ∨ t = 28 ∨ t = 29 ∨ t = 30 ∨ t = 31 ∨ t = 32 ∨ t = 33 ∨ t = 34 ∨ t = 35 ∨ t = 36 := by omega
  rcases h37 with rfl | rfl | rfl | rfl | rfl | rfl | rfl | rfl | rfl | rfl | rfl | rfl | rfl | rfl | rfl | rfl | rfl | rfl | rfl | rfl | rfl | rfl | rfl | rfl | rfl | rfl | rfl | rfl | rfl | rfl | rfl | rfl | rfl | rfl | rfl | rfl | rfl
  all_goals (first | decide | (revert h; decide))
theorem scal_inline {t : Int} (h : t = 0 ∨ t = 1 ∨ t = 2 ∨ t = 26) : scalB t = true ∧ inlineB t = true := by
  rcases h with rfl | rfl | rfl | rfl <;> decide
section
variable {D : List UInt8} (hN : D.length ≤ 500) {bud : Int}
include hN
theorem vec_sim {g : Int} {dec : DecF} {look : LookF} {p q t k a d fu : Int} {S : VS} (hle : ∀ p q t k lim d fu T f, 0 ≤ fu → dec p q t k lim d fu = .ok (T, f) → 0 ≤ f ∧ f ≤ fu)
    (hd : lfindE D p q t k = 0 → SimL D bud dec look g (lFrom D p q t k)) (h0 : 0 ≤ fu) (h1 : fu ≤ g) (hK : KOk D S.L) (hb : Pot D S fu + (66 - d) * 520 ≤ bud) (hd65 : d ≤ 64) :
    SimR D S fu 0 depthD (vecD dec D p q t k a d fu) (vecM look D bud p q t k a d S) := by
  unfold vecD vecM
  by_cases he : lfindE D p q t k = 0
  · rw [if_neg (show ¬ (lfindE D p q t k ≠ 0) by simpa using he), if_neg (show ¬ (lfindE D p q t k ≠ 0) by simpa using he)]
    obtain ⟨-, -, -, -, -, hc0, hc1, -⟩ := lfindE_zero he
    have hn0 := left_nonneg D.length S.C
    unfold Pot at hb
    have hkeys : (∀ ks, (if t = 9 then keysD D k (lFrom D p q t k) (lCnt D p q t k) else .ok []) = .ok ks → ∃ S', (if t = 9 then keysM D bud k (lFrom D p q t k) (lCnt D p q t k) S else .ok (S, ())) = .ok (S', ()) ∧ KOk D S'.L ∧ S'.s + 501 * left_ D.length S'.C ≤ S.s + lCnt D p q t k + 501 * left_ D.length S.C) ∧
        (∀ a e, (if t = 9 then keysD D k (lFrom D p q t k) (lCnt D p q t k) else .ok []) = .error (a, e) → ∃ s, (if t = 9 then keysM D bud k (lFrom D p q t k) (lCnt D p q t k) S else .ok (S, ())) = .error (s, a, e)) := by
      by_cases h9 : t = 9
      · simp only [if_pos h9]
        exact keys_sim hN hK hc0 (by omega)
      · simp only [if_neg h9]
        exact ⟨fun ks _ => ⟨S, rfl, hK, by omega⟩, fun a e h => by cases h⟩
    obtain ⟨g1, g2⟩ := hkeys
    cases hx : (if t = 9 then keysD D k (lFrom D p q t k) (lCnt D p q t k) else .ok []) with
    | error x =>
      obtain ⟨a1, e1⟩ := x
      obtain ⟨s, hs⟩ := g2 a1 e1 hx
      rw [hs]
      exact SimR.err
    | ok ks =>
      obtain ⟨S1, i1, i2, i3⟩ := g1 ks hx
      rw [i1]
      dsimp only
      obtain ⟨j1, j2⟩ := vloop_sim (a := a) (d := d) hle (hd he) hd65 (lCnt D p q t k).toNat 0 [] fu 0 S1 h0 h1 rfl i2 (by unfold Pot; omega)
      cases hy : vloopD dec D p q t k a d (lCnt D p q t k).toNat 0 [] fu with
      | error y =>
        obtain ⟨a1, e1⟩ := y
        dsimp only
        rcases j2 a1 e1 hy with rfl | ⟨s, a', hs, ha⟩
        · exact SimR.fuel
        · rw [hs]
          exact ⟨fun T fu' h => (by cases h), fun a' e' h => by cases h; exact .inr ⟨_, _, rfl, ha⟩⟩
      | ok y =>
        obtain ⟨l, f⟩ := y
        obtain ⟨S2, k1, k2, k3⟩ := j1 l f hy
        rw [k1]
        dsimp only
        refine SimR.ok (by rw [depthD]; omega) k2 ?_
        unfold Pot at k3 ⊢
        omega
  · rw [if_pos (show lfindE D p q t k ≠ 0 from he), if_pos (show lfindE D p q t k ≠ 0 from he)]
    exact SimR.err
theorem leaf_depth (kd n u : Int) (s : List UInt8) : depthD (.mk kd n u s [] []) = 1 := (leaf_size kd n u s []).2
theorem part_sim {g : Int} {dec : DecF} {look : LookF} {p q t k a d fu : Int} {S : VS} (hle : ∀ p q t k lim d fu T f, 0 ≤ fu → dec p q t k lim d fu = .ok (T, f) → 0 ≤ f ∧ f ≤ fu)
    (hd : lfindE D p q t k = 0 → SimL D bud dec look g (lFrom D p q t k)) (h0 : 0 ≤ fu) (h1 : fu ≤ g) (hK : KOk D S.L) (hb : Pot D S fu + (66 - d) * 520 ≤ bud) (hd65 : d ≤ 64) (hm : mayE D.length p q t k = 0) (hi : inlineB t = false) (ha : a = p - loadV D p q) :
    SimR D S fu 0 depthD (bodyD dec D p q t k a d fu) (partM look D bud p q t k a d S) := by
  have hn : ¬ (t = 0 ∨ t = 1 ∨ t = 2 ∨ t = 26) := fun h => by rw [(inline_is (mayE_zero hm).1).2 h] at hi; cases hi
  unfold bodyD partM
  rw [if_neg (show ¬ (t = 0) by omega)]
  by_cases c6 : t = 6
  · rw [if_pos (show t = 1 ∨ t = 6 ∨ t = 26 by omega), if_pos (show t = 6 ∨ t = 7 by omega)]
    by_cases hs : splaceE D p q t k = 0
    · rw [if_neg (show ¬ (splaceE D p q t k ≠ 0) by simpa using hs), if_neg (show ¬ (splaceE D p q t k ≠ 0) by simpa using hs)]
      exact SimR.ok (leaf_depth hN _ _ _ _).symm hK (by omega)
    · rw [if_pos (show splaceE D p q t k ≠ 0 from hs), if_pos (show splaceE D p q t k ≠ 0 from hs)]
      exact SimR.err
  rw [if_neg (show ¬ (t = 1 ∨ t = 6 ∨ t = 26) by omega)]
  by_cases c7 : t = 7
  · rw [if_pos (show t = 2 ∨ t = 7 by omega), if_pos (show t = 6 ∨ t = 7 by omega)]
    by_cases hs : splaceE D p q t k = 0
    · rw [if_neg (show ¬ (splaceE D p q t k ≠ 0) by simpa using hs), if_neg (show ¬ (splaceE D p q t k ≠ 0) by simpa using hs)]
      exact SimR.ok (leaf_depth hN _ _ _ _).symm hK (by omega)
    · rw [if_pos (show splaceE D p q t k ≠ 0 from hs), if_pos (show splaceE D p q t k ≠ 0 from hs)]
      exact SimR.err
  rw [if_neg (show ¬ (t = 2 ∨ t = 7) by omega), if_neg (show ¬ (t = 6 ∨ t = 7) by omega)]
  have hn0 := left_nonneg D.length S.C
  by_cases c4 : t = 4
  · subst c4
    rw [if_pos (show (4 : Int) = 4 ∨ (4 : Int) = 5 ∨ (4 : Int) = 25 by omega), if_pos rfl]
    by_cases hs : findE D p q 4 k true = 0
    · rw [if_neg (show ¬ (findE D p q 4 k true ≠ 0) by simpa using hs)]
      obtain ⟨S', i1, i2, i3⟩ := keyM_sim (bud := bud) hN (S := S) (by unfold Pot at hb; omega) hs ha
      rw [i1]
      exact SimR.ok (leaf_depth hN _ _ _ _).symm (by rw [i2]; exact hK) (by unfold Pot; omega)
    · rw [if_pos (show findE D p q 4 k true ≠ 0 from hs)]
      unfold keyM
      rw [if_pos (show findE D p q 4 k true ≠ 0 from hs)]
      exact SimR.err
  rw [if_neg c4]
  by_cases c5 : t = 5 ∨ t = 25
  · rw [if_pos (show t = 4 ∨ t = 5 ∨ t = 25 by omega), if_pos c5]
    by_cases hs : findE D p q t k true = 0
    · rw [if_neg (show ¬ (findE D p q t k true ≠ 0) by simpa using hs), if_neg (show ¬ (findE D p q t k true ≠ 0) by simpa using hs)]
      exact SimR.ok (leaf_depth hN _ _ _ _).symm hK (by omega)
    · rw [if_pos (show findE D p q t k true ≠ 0 from hs), if_pos (show findE D p q t k true ≠ 0 from hs)]
      exact SimR.err
  rw [if_neg (show ¬ (t = 4 ∨ t = 5 ∨ t = 25) by omega), if_neg c5]
  exact vec_sim hN hle hd h0 h1 hK hb hd65
theorem look_sim : ∀ (g f : Nat) (lm : Int), lm + 1 ≤ f → 1 ≤ f → SimL D bud (decN D 64 g) (lookM D 64 bud f) g lm
  | 0, f, lm, hf, h1f => by
    intro p q t k lim d fu S h0 h1 hm hl hK hb h65
    rw [decN]
    exact SimR.fuel
  | g + 1, 0, lm, hf, h1f => by omega
  | g + 1, f + 1, lm, hf, h1f => by
    intro p q t k lim d fu S h0 h1 hm hl hK hb h65
    rw [decN, lookM]
    dsimp only
    by_cases hfu : fu = 0
    · rw [if_pos hfu]; exact SimR.fuel
    rw [if_neg hfu]
    have hn0 := left_nonneg D.length S.C
    have hst : stepM bud 1 p S = .ok ({ S with s := S.s + 1 }, ()) := by unfold stepM; unfold Pot at hb; rw [if_pos (by omega)]
    rw [hst]
    dsimp only
    by_cases hdp : (64 : Int) < d
    · rw [if_pos hdp, if_pos hdp]
      exact SimR.err
    rw [if_neg hdp, if_neg hdp]
    have hP1 : Pot D { S with s := S.s + 1 } (fu - 1) + 1 = Pot D S fu := by unfold Pot; dsimp only; omega
    by_cases hi : inlineB t = true
    · rw [if_neg (show ¬ (inlineB t = false ∧ tgtB D p q t k lim = false) by simp [hi]), if_pos hi, if_pos hi]
      have ht := (inline_is (mayE_zero hm).1).1 hi
      have hs : splaceE D p q t k = 0 := by
        unfold splaceE
        rw [if_neg (by simpa using hm), if_neg (by simp [(scal_inline ht).1]), if_pos (by simpa using hi)]
      unfold bodyD
      by_cases c0 : t = 0
      · rw [if_pos c0]
        exact SimR.ok (leaf_depth hN _ _ _ _).symm hK (by omega)
      rw [if_neg c0]
      by_cases c1 : t = 1 ∨ t = 6 ∨ t = 26
      · rw [if_pos c1, if_neg (show ¬ (splaceE D p q t k ≠ 0) by simpa using hs)]
        exact SimR.ok (leaf_depth hN _ _ _ _).symm hK (by omega)
      rw [if_neg c1, if_pos (show t = 2 ∨ t = 7 by omega), if_neg (show ¬ (splaceE D p q t k ≠ 0) by simpa using hs)]
      exact SimR.ok (leaf_depth hN _ _ _ _).symm hK (by omega)
    · rw [if_neg hi, if_neg hi]
      replace hi : inlineB t = false := by simpa using hi
      unfold targetM
      by_cases htg : tgtB D p q t k lim = false
      · rw [if_pos (show inlineB t = false ∧ tgtB D p q t k lim = false from ⟨hi, htg⟩), htg]
        exact SimR.err
      rw [if_neg (show ¬ (inlineB t = false ∧ tgtB D p q t k lim = false) from fun h => htg h.2), if_pos (show tgtB D p q t k lim = true by simpa using htg)]
      dsimp only
      have htg' : tgtB D p q t k lim = true := by simpa using htg
      obtain ⟨hld, hbg⟩ := tgtB_le htg'
      have htn : t ≠ -1 := by
        rintro rfl
        have := (mayE_zero hm).1
        revert this; decide
      have hleN : ∀ p q t k lim d fu T f, 0 ≤ fu → decN D 64 g p q t k lim d fu = .ok (T, f) → 0 ≤ f ∧ f ≤ fu := fun p q t k lim d fu T f => decN_le g p q t k lim d fu T f
      cases hv : vknown S.L (leadOf t (p - loadV D p q) k) with
      | some h =>
        dsimp only
        obtain ⟨T, hT, hall⟩ := (hK _ _ _ _ (vknown_mem hv)).1 htn
        have hB := hall p q k hm hld rfl (by by_cases h4 : t = 4; exact .inr h4; rw [if_neg h4]; exact .inl rfl)
        have hsz := sizeD_pos T
        by_cases hh : d + h - 1 ≤ 64
        · rw [if_pos hh]
          obtain ⟨b1, b2⟩ := hB 64 g d (fu - 1) (by omega) (by omega)
          by_cases hfs : sizeD T - 1 ≤ fu - 1
          · rw [b1 hfs]
            refine SimR.ok hT.symm hK ?_
            unfold Pot at hP1 ⊢
            dsimp only at hP1 ⊢
            omega
          · obtain ⟨x, hx⟩ := b2 (by omega) (by omega)
            rw [hx]
            exact SimR.fuel
        · rw [if_neg hh]
          have hmo := bodyD_mono (D := D) (g := (g : Int)) (dp := 64) (dp' := d + h) (c := sizeD T) (dec := decN D 64 g) (dec' := decN D (d + h) (g + (sizeD T).toNat)) hleN
            (fun p q t k lim d d' fu i0 i1 i2 => decN_mono (by omega) g (g + (sizeD T).toNat) p q t k lim d d' fu i0 i1 (by push_cast; omega) i2) p q t k (p - loadV D p q) d d (fu - 1) (by omega) (by omega) (by omega)
          have hbig := (hB (d + h) (g + (sizeD T).toNat) d (fu - 1 + sizeD T) (by push_cast; omega) (by omega)).1 (by omega)
          cases hr : bodyD (decN D 64 g) D p q t k (p - loadV D p q) d (fu - 1) with
          | ok y =>
            obtain ⟨T', f'⟩ := y
            rw [hr] at hmo
            have hmo' : bodyD (decN D (d + h) (g + (sizeD T).toNat)) D p q t k (p - loadV D p q) d (fu - 1 + sizeD T) = .ok (T', f' + sizeD T) := hmo
            rw [hbig] at hmo'
            obtain rfl : T = T' := (Prod.mk.inj (Except.ok.inj hmo')).1
            have := (bodyD_least (decN_least g) (by omega) (by omega) hr).2.1
            omega
          | error x =>
            obtain ⟨a, e⟩ := x
            rw [hr] at hmo
            rcases hmo with he | he | he
            · rw [he]; exact SimR.fuel
            · rw [he]
              exact ⟨fun T fu' h => (by cases h), fun a' e' h => by cases h; exact .inr ⟨_, _, rfl, .inr rfl⟩⟩
            · rw [hbig] at he; cases he
      | none =>
        dsimp only
        have hsub : lfindE D p q t k = 0 → SimL D bud (decN D 64 g) (lookM D 64 bud f) g (lFrom D p q t k) := fun hl0 => by
          have hlb := lfrom_begins hl0
          have hlf := lFrom_nonneg D p q t k
          exact look_sim g f (lFrom D p q t k) (by omega) (by omega)
        obtain ⟨j1, j2⟩ := part_sim (bud := bud) (g := g) (dec := decN D 64 g) (look := lookM D 64 bud f) (p := p) (q := q) (t := t) (k := k) (a := p - loadV D p q) (d := d) (fu := fu - 1) (S := { S with s := S.s + 1 }) hN hleN hsub (by omega) (by omega) hK (by omega) (by omega) hm hi rfl
        cases hx : bodyD (decN D 64 g) D p q t k (p - loadV D p q) d (fu - 1) with
        | error y =>
          obtain ⟨a1, e1⟩ := y
          rcases j2 a1 e1 hx with rfl | ⟨s, a', hs, ha⟩
          · exact SimR.fuel
          · rw [hs]
            exact ⟨fun T fu' h => (by cases h), fun a' e' h => by cases h; exact .inr ⟨_, _, rfl, ha⟩⟩
        | ok y =>
          obtain ⟨T, f'⟩ := y
          obtain ⟨S2, k1, k2, k3⟩ := j1 T f' hx
          rw [k1]
          refine SimR.ok rfl ?_ (by unfold Pot at k3 hP1 ⊢; dsimp only at k3 hP1 ⊢; omega)
          dsimp only
          have hDB := (bodyD_least (decN_least g) (by omega) (by omega) hx).2.2
          refine KOk.cons k2 (fun _ => ⟨T, rfl, fun p' q' k' hm' hl' ha' hk' => ?_⟩) (fun h => absurd h htn)
          have hk2 : k' = k ∨ t = 4 := by
            rcases hk' with h | h
            · by_cases h4 : t = 4
              · exact .inr h4
              · rw [if_neg h4] at h; exact .inl h
            · exact .inr h
          intro dp' g' d' fu' u1 u2
          rw [same_body hm hm' hi hld hl' ha' hk2]
          exact hDB dp' g' d' fu' u1 u2
/-- Check at depth 64 and a budget of 2^20 answers as Doc with fuel 2000, where that is enough. -/
theorem walk_law {T : DT} {f a e : Int} (h : docD D 2000 = (T, f, a, e)) (he : e ≠ 260) :
    (e = 0 → ∃ s, checkM D 64 1048576 = ((s, 0, depthD T), 0)) ∧ (e ≠ 0 → ∃ s a', checkM D 64 1048576 = ((s, a', 0), e) ∧ (a' = a ∨ e = 61)) := by
  unfold docD at h
  unfold checkM
  by_cases h20 : rootE D.length (lastD D 1) (lastD D 2) = 20
  · rw [if_pos h20] at h ⊢
    cases h
    exact ⟨fun h => by omega, fun _ => ⟨_, _, rfl, .inl rfl⟩⟩
  rw [if_neg h20] at h ⊢
  by_cases hr : rootE D.length (lastD D 1) (lastD D 2) = 0
  · rw [if_neg (show ¬ (rootE D.length (lastD D 1) (lastD D 2) ≠ 0) by simpa using hr)] at h ⊢
    have hm := root_may hr
    have hp : rootP D.length (lastD D 1) (lastD D 2) ≤ D.length := by have := mayE_zero hm; omega
    have hl := left_le D.length []
    generalize rootP D.length (lastD D 1) (lastD D 2) = p at *
    generalize rootQ D.length (lastD D 1) (lastD D 2) = q at *
    generalize rootT D.length (lastD D 1) (lastD D 2) = t at *
    generalize rootW D.length (lastD D 1) (lastD D 2) = k at *
    rw [show max (1048576 : Int) 0 = 1048576 by omega]
    unfold treeD at h
    rw [if_neg (by simpa using hm), show max (2000 : Int) 0 = 2000 by omega] at h
    obtain ⟨g1, g2⟩ := look_sim (bud := 1048576) hN (2000 : Int).toNat (D.length + 1) p (by omega) (by omega) p q t k p 1 2000 ⟨0, [], []⟩ (by omega) (by omega) hm (Int.le_refl _) (fun _ _ _ _ hx => by cases hx) (by unfold Pot; dsimp only; omega) (by omega)
    cases hx : decN D 64 (2000 : Int).toNat p q t k p 1 2000 with
    | error y =>
      obtain ⟨a1, e1⟩ := y
      rw [hx] at h
      cases h
      have hne := decN_ne _ _ _ _ _ _ _ _ _ _ hx
      rcases g2 _ _ hx with h1 | ⟨s, a', hs, ha⟩
      · exact absurd h1 he
      · rw [hs]
        exact ⟨fun h => absurd h hne, fun _ => ⟨_, _, rfl, ha⟩⟩
    | ok y =>
      obtain ⟨T1, f1⟩ := y
      rw [hx] at h
      cases h
      obtain ⟨S', i1, -⟩ := g1 _ _ hx
      rw [i1]
      exact ⟨fun _ => ⟨_, rfl⟩, fun h => absurd rfl h⟩
  · rw [if_pos (show rootE D.length (lastD D 1) (lastD D 2) ≠ 0 from hr)] at h ⊢
    cases h
    exact ⟨fun h => absurd h hr, fun _ => ⟨_, _, rfl, .inl rfl⟩⟩
end
end
end Go.Proofs.Ytmpflnlajakibaa
