/- The plain laws of decode: more fuel, more depth, a wider limit; a vector's parts. -/
import Derived.Test.YtmpflnlajakibaaC12
import Derived.Test.YtmpflnlajakibaaCk
namespace Go.Proofs.Ytmpflnlajakibaa
set_option linter.unusedVariables false
set_option linter.unusedSimpArgs false
open Go.RowKit
/-- The second result is the first with c more fuel left, unless the first ended for want of fuel or depth. -/
def Mono {α : Type} (r r' : DR (α × Int)) (c : Int) : Prop :=
  match r with
  | .ok (T, f) => r' = .ok (T, f + c)
  | .error (a, e) => e = 260 ∨ e = 61 ∨ r' = .error (a, e)
theorem Mono.err {α : Type} {a e : Int} {c : Int} : Mono (α := α) (.error (a, e)) (.error (a, e)) c := .inr (.inr rfl)
theorem vloopD_mono {dec dec' : DecF} {D : List UInt8} {g : Int} {dp dp' c : Int} (hle : ∀ p q t k lim d fu T f, 0 ≤ fu → dec p q t k lim d fu = .ok (T, f) → 0 ≤ f ∧ f ≤ fu)
    (hd : ∀ p q t k lim d d' fu, 0 ≤ fu → fu ≤ g → dp - d ≤ dp' - d' → Mono (dec p q t k lim d fu) (dec' p q t k lim d' (fu + c)) c)
    (p q t k a d d' : Int) (hdd : dp - d ≤ dp' - d') : ∀ (r : Nat) (i : Int) (acc : List DT) (fu : Int), 0 ≤ fu → fu ≤ g → Mono (vloopD dec D p q t k a d r i acc fu) (vloopD dec' D p q t k a d' r i acc (fu + c)) c
  | 0, i, acc, fu, h0, h1 => by rw [vloopD, vloopD]; rfl
  | r + 1, i, acc, fu, h0, h1 => by
    rw [vloopD, vloopD]
    split
    · exact Mono.err
    · have hm := hd (latP D p q t k i) (latQ D p q t k i) (latT D p q t k i) (latW D p q t k i) (lFrom D p q t k) (d + 1) (d' + 1) fu h0 h1 (by omega)
      cases hx : dec (latP D p q t k i) (latQ D p q t k i) (latT D p q t k i) (latW D p q t k i) (lFrom D p q t k) (d + 1) fu with
      | error x =>
        obtain ⟨a1, e1⟩ := x
        rw [hx] at hm
        rcases hm with h | h | h
        · exact .inl h
        · exact .inr (.inl h)
        · rw [h]; exact Mono.err
      | ok y =>
        obtain ⟨T, f⟩ := y
        have hl := hle _ _ _ _ _ _ _ _ _ h0 hx
        rw [hx] at hm
        have hm' : dec' (latP D p q t k i) (latQ D p q t k i) (latT D p q t k i) (latW D p q t k i) (lFrom D p q t k) (d' + 1) (fu + c) = .ok (T, f + c) := hm
        rw [hm']
        exact vloopD_mono hle hd p q t k a d d' hdd r (i + 1) (acc ++ [T]) f hl.1 (by omega)
theorem bodyD_mono {dec dec' : DecF} {D : List UInt8} {g : Int} {dp dp' c : Int} (hle : ∀ p q t k lim d fu T f, 0 ≤ fu → dec p q t k lim d fu = .ok (T, f) → 0 ≤ f ∧ f ≤ fu)
    (hd : ∀ p q t k lim d d' fu, 0 ≤ fu → fu ≤ g → dp - d ≤ dp' - d' → Mono (dec p q t k lim d fu) (dec' p q t k lim d' (fu + c)) c)
    (p q t k a d d' fu : Int) (hdd : dp - d ≤ dp' - d') (h0 : 0 ≤ fu) (h1 : fu ≤ g) : Mono (bodyD dec D p q t k a d fu) (bodyD dec' D p q t k a d' (fu + c)) c := by
  unfold bodyD
  split
  · rfl
  · split
    · split
      · exact Mono.err
      · rfl
    · split
      · split
        · exact Mono.err
        · rfl
      · split
        · split
          · exact Mono.err
          · rfl
        · unfold vecD
          split
          · exact Mono.err
          · cases hk : (if t = 9 then keysD D k (lFrom D p q t k) (lCnt D p q t k) else .ok []) with
            | error x => exact Mono.err
            | ok ks =>
              have hm := vloopD_mono (D := D) hle hd p q t k a d d' hdd (lCnt D p q t k).toNat 0 [] fu h0 h1
              cases hx : vloopD dec D p q t k a d (lCnt D p q t k).toNat 0 [] fu with
              | error x =>
                obtain ⟨a1, e1⟩ := x
                rw [hx] at hm
                rcases hm with h | h | h
                · exact .inl h
                · exact .inr (.inl h)
                · dsimp only; rw [h]; exact Mono.err
              | ok y =>
                obtain ⟨T, f⟩ := y
                rw [hx] at hm
                have hm' : vloopD dec' D p q t k a d' (lCnt D p q t k).toNat 0 [] (fu + c) = .ok (T, f + c) := hm
                dsimp only
                rw [hm']
                rfl
theorem decN_mono {D : List UInt8} {dp dp' c : Int} (hc : 0 ≤ c) : ∀ (g g' : Nat) (p q t k lim d d' fu : Int), 0 ≤ fu → fu ≤ g → fu + c ≤ g' → dp - d ≤ dp' - d' →
    Mono (decN D dp g p q t k lim d fu) (decN D dp' g' p q t k lim d' (fu + c)) c
  | 0, g', p, q, t, k, lim, d, d', fu, h0, h1, h2, h3 => by rw [decN]; exact .inl rfl
  | g + 1, 0, p, q, t, k, lim, d, d', fu, h0, h1, h2, h3 => by
    have e : decN D dp (g + 1) p q t k lim d fu = .error (p, 260) := by
      rw [decN]
      exact if_pos (by omega)
    rw [e]
    exact .inl rfl
  | g + 1, g' + 1, p, q, t, k, lim, d, d', fu, h0, h1, h2, h3 => by
    rw [decN, decN]
    dsimp only
    by_cases hf : fu = 0
    · rw [if_pos hf]; exact .inl rfl
    rw [if_neg hf, if_neg (show ¬ fu + c = 0 by omega)]
    by_cases hd : dp < d
    · rw [if_pos hd]; exact .inr (.inl rfl)
    rw [if_neg hd, if_neg (show ¬ dp' < d' by omega)]
    split
    · exact Mono.err
    · have := bodyD_mono (D := D) (g := min (g : Int) ((g' : Int) - c)) (dp := dp) (dp' := dp') (c := c) (dec := decN D dp g) (dec' := decN D dp' g') (fun p q t k lim d fu T f => decN_le g p q t k lim d fu T f)
        (fun p q t k lim d d' fu i0 i1 i2 => decN_mono hc g g' p q t k lim d d' fu i0 (by omega) (by omega) i2) p q t k (if inlineB t then p else p - loadV D p q) d d' (fu - 1) h3 (by omega) (by omega)
      rwa [show fu - 1 + c = fu + c - 1 by omega] at this
/-- A wider limit changes nothing where the reference decodes. -/
theorem decN_lim {D : List UInt8} {dp : Int} {g : Nat} {p q t k lim lim' d fu : Int} {T : DT} {f : Int} (h : decN D dp g p q t k lim d fu = .ok (T, f)) (hl : lim ≤ lim') : decN D dp g p q t k lim' d fu = .ok (T, f) := by
  cases g with
  | zero => rw [decN] at h; cases h
  | succ g =>
    rw [decN] at h ⊢
    dsimp only at h ⊢
    by_cases hf : fu = 0
    · rw [if_pos hf] at h; cases h
    rw [if_neg hf] at h ⊢
    by_cases hd : dp < d
    · rw [if_pos hd] at h; cases h
    rw [if_neg hd] at h ⊢
    by_cases ht : inlineB t = false ∧ tgtB D p q t k lim = false
    · rw [if_pos ht] at h; cases h
    rw [if_neg ht] at h
    rw [if_neg ?_]
    · exact h
    · rintro ⟨h1, h2⟩
      refine ht ⟨h1, ?_⟩
      simp only [tgtB, Bool.and_eq_false_iff, decide_eq_false_iff_not] at h2 ⊢
      rcases h2 with h2 | h2
      · exact .inl h2
      · exact .inr (by omega)
/-- The rounds of a vector that decodes. -/
theorem vloopD_parts {dec : DecF} {D : List UInt8} {p q t k a d : Int} : ∀ (r : Nat) (i : Int) (acc : List DT) (fu : Int) (l : List DT) (f : Int), vloopD dec D p q t k a d r i acc fu = .ok (l, f) →
    ∃ (ys : List DT) (F : Nat → Int), l = acc ++ ys ∧ ys.length = r ∧ F 0 = fu ∧ F r = f ∧ ∀ j (hj : j < ys.length), latE D p q t k (i + j) = 0 ∧
      dec (latP D p q t k (i + j)) (latQ D p q t k (i + j)) (latT D p q t k (i + j)) (latW D p q t k (i + j)) (lFrom D p q t k) (d + 1) (F j) = .ok (ys[j], F (j + 1))
  | 0, i, acc, fu, l, f, h => by
    rw [vloopD] at h
    cases h
    exact ⟨[], fun _ => fu, by simp, rfl, rfl, rfl, fun j hj => absurd hj (Nat.not_lt_zero _)⟩
  | r + 1, i, acc, fu, l, f, h => by
    rw [vloopD] at h
    split at h
    · cases h
    · rename_i hE
      have hE' : latE D p q t k i = 0 := by simpa using hE
      split at h
      · cases h
      · rename_i y fu' he
        obtain ⟨ys, F, h1, h2, h3, h4, h5⟩ := vloopD_parts r (i + 1) (acc ++ [y]) fu' l f h
        refine ⟨y :: ys, fun j => if j = 0 then fu else F (j - 1), by rw [h1]; simp, by simp [h2], by simp, by simp [h4], ?_⟩
        intro j hj
        cases j with
        | zero =>
          simp only [Int.natCast_zero, Int.add_zero, if_true, List.getElem_cons_zero, Nat.zero_add]
          exact ⟨hE', by rw [he]; simp [h3]⟩
        | succ j =>
          have := h5 j (by simpa using hj)
          rw [show i + 1 + (j : Int) = i + ((j + 1 : Nat) : Int) by push_cast; omega] at this
          simpa using this
/-- A failure bears an error that is not 0. -/
def NErr {α : Type} (r : DR α) : Prop := ∀ a e, r = .error (a, e) → e ≠ 0
theorem NErr.ok {α : Type} (x : α) : NErr (.ok x) := fun _ _ h => by cases h
theorem NErr.err {α : Type} {a e : Int} (h : e ≠ 0) : NErr (α := α) (.error (a, e)) := fun _ _ hx => by cases hx; exact h
theorem kloopD_ne {D : List UInt8} {p q k : Int} : ∀ (r : Nat) (i : Int) (acc : List (List UInt8)), NErr (kloopD D p q k r i acc)
  | 0, _, acc => by rw [kloopD]; exact NErr.ok _
  | r + 1, i, acc => by
    rw [kloopD]
    split
    · exact NErr.err (by decide)
    · split
      · rename_i h; exact NErr.err h
      · split
        · exact NErr.err (by decide)
        · exact kloopD_ne r (i + 1) _
theorem keysD_ne {D : List UInt8} {k f many : Int} : NErr (keysD D k f many) := by
  unfold keysD krefD
  split
  · rename_i x hx
    intro a e h
    cases h
    split at hx
    · cases hx; decide
    · split at hx
      · cases hx; decide
      · split at hx
        · cases hx; decide
        · cases hx
  · split
    · rename_i h; exact NErr.err h
    · split
      · exact NErr.err (by decide)
      · exact kloopD_ne _ _ _
theorem vloopD_ne {dec : DecF} {D : List UInt8} (hd : ∀ p q t k lim d fu, NErr (dec p q t k lim d fu)) {p q t k a d : Int} : ∀ (r : Nat) (i : Int) (acc : List DT) (fu : Int), NErr (vloopD dec D p q t k a d r i acc fu)
  | 0, _, _, _ => by rw [vloopD]; exact NErr.ok _
  | r + 1, i, acc, fu => by
    rw [vloopD]
    split
    · rename_i h; exact NErr.err h
    · split
      · rename_i x hx
        intro a e h
        cases h
        exact hd _ _ _ _ _ _ _ _ _ hx
      · exact vloopD_ne hd r (i + 1) _ _
theorem bodyD_ne {dec : DecF} {D : List UInt8} (hd : ∀ p q t k lim d fu, NErr (dec p q t k lim d fu)) (p q t k a d fu : Int) : NErr (bodyD dec D p q t k a d fu) := by
  unfold bodyD
  split
  · exact NErr.ok _
  · split
    · split
      · rename_i h; exact NErr.err h
      · exact NErr.ok _
    · split
      · split
        · rename_i h; exact NErr.err h
        · exact NErr.ok _
      · split
        · split
          · rename_i h; exact NErr.err h
          · exact NErr.ok _
        · unfold vecD
          split
          · rename_i h; exact NErr.err h
          · split
            · rename_i x hx
              intro a e h
              cases h
              split at hx
              · exact keysD_ne _ _ hx
              · cases hx
            · split
              · rename_i x hx
                intro a e h
                cases h
                exact vloopD_ne hd _ _ _ _ _ _ hx
              · exact NErr.ok _
theorem decN_ne {D : List UInt8} {dp : Int} : ∀ (g : Nat) (p q t k lim d fu : Int), NErr (decN D dp g p q t k lim d fu)
  | 0, p, q, t, k, lim, d, fu => by rw [decN]; exact NErr.err (by decide)
  | g + 1, p, q, t, k, lim, d, fu => by
    rw [decN]
    dsimp only
    split
    · exact NErr.err (by decide)
    · split
      · exact NErr.err (by decide)
      · split
        · exact NErr.err (by decide)
        · exact bodyD_ne (decN_ne g) _ _ _ _ _ _ _
end Go.Proofs.Ytmpflnlajakibaa
