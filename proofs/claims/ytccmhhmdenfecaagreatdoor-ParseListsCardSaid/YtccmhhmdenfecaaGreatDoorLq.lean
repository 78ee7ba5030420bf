/- Plain laws of lex: a token is determined by its own bytes; tokens do not overlap. No program here. -/
import Derived.Test.YtccmhhmdenfecaaGreatDoorLp
namespace Go.Proofs.YtccmhhmdenfecaaGreatDoor
set_option linter.unusedVariables false
set_option linter.unusedSimpArgs false
theorem common_full : ∀ (w l : List UInt8), commonN w l = w.length → commonN w (l.take w.length) = w.length
  | [], l, _ => by simp [commonN]
  | a :: w, [], h => by simp [commonN] at h
  | a :: w, b :: l, h => by
    by_cases hab : a = b
    · rw [commonN, if_pos hab] at h
      rw [List.length_cons, List.take_succ_cons, commonN, if_pos hab, common_full w l (by simpa using h)]
    · rw [commonN, if_neg hab] at h
      simp at h
theorem numF_ok {neg : Bool} {u : Nat} {y : List UInt8} {z : Nat} {a : Int} (h : (numF neg u y z a).2 = 0) : numF neg u y z a = intT neg u a (a + z) := by
  unfold numF numE at h ⊢
  by_cases h1 : headB (· == 46) y = true
  · exfalso
    rw [if_pos h1] at h
    split at h
    · exact absurd (show (100 : Int) = 0 from h) (by decide)
    · split at h
      · split at h <;> first | exact absurd (show (100 : Int) = 0 from h) (by decide) | exact absurd (show (101 : Int) = 0 from h) (by decide)
      · exact absurd (show (101 : Int) = 0 from h) (by decide)
  · rw [if_neg h1] at h ⊢
    split at h
    · exfalso
      split at h <;> first | exact absurd (show (100 : Int) = 0 from h) (by decide) | exact absurd (show (101 : Int) = 0 from h) (by decide)
    · rename_i h2
      rw [if_neg h2]
      rfl
theorem intT_ok {neg : Bool} {u : Nat} {a b a' b' : Int} (h : (intT neg u a b).2 = 0) : ∃ kd n v, (kd = 10 ∨ kd = 11) ∧ intT neg u a b = (⟨kd, a, b, n, v, []⟩, 0) ∧ intT neg u a' b' = (⟨kd, a', b', n, v, []⟩, 0) := by
  unfold intT at h ⊢
  by_cases h1 : 2 ^ 64 ≤ u ∨ (neg = true ∧ 2 ^ 63 < u)
  · rw [if_pos h1] at h; exact absurd h (show (101 : Int) ≠ 0 by decide)
  rw [if_neg h1, if_neg h1]
  by_cases h2 : neg = true
  · rw [if_pos h2, if_pos h2]; exact ⟨10, _, _, .inl rfl, rfl, rfl⟩
  rw [if_neg h2, if_neg h2]
  by_cases h3 : 2 ^ 63 ≤ u
  · rw [if_pos h3, if_pos h3]; exact ⟨11, _, _, .inr rfl, rfl, rfl⟩
  rw [if_neg h3, if_neg h3]
  exact ⟨10, _, _, .inl rfl, rfl, rfl⟩
/-- A token and its own bytes. -/
theorem tok_cover {l : List UInt8} {a : Int} (h0 : (tokM l a).2 = 0) (h1 : (tokM l a).1.kind ≠ 0) : ∃ (k : Nat) (kd n u : Int) (x : List UInt8), 1 ≤ k ∧ k ≤ l.length ∧ 1 ≤ kd ∧ kd ≤ 12 ∧ tokM l a = (⟨kd, a, a + k, n, u, x⟩, 0) ∧
    ∀ a' : Int, tokM (l.take k) a' = (⟨kd, a', a' + k, n, u, x⟩, 0) := by
  cases l with
  | nil => exact absurd rfl h1
  | cons c t =>
    cases hs : spellW c with
    | some wk =>
      obtain ⟨w, kd⟩ := wk
      have e : ∀ v (a : Int), tokM (c :: v) a = wordM w kd (c :: v) a := fun v a => by rw [tokM, hs]
      rw [e] at h0 h1 ⊢
      obtain ⟨v, rfl, k1, k9⟩ := spell_first hs
      by_cases hc : commonN (c :: v) (c :: t) = (c :: v).length
      · have hl := (common_le (c :: v) (c :: t)).2
        have hf := common_full _ _ hc
        refine ⟨(c :: v).length, kd, 0, 0, [], by simp, by omega, k1, by omega, ?_, fun a' => ?_⟩
        · unfold wordM; rw [if_pos hc]
        · rw [List.length_cons, List.take_succ_cons] at hf ⊢
          rw [e]
          unfold wordM
          rw [List.length_cons, hf, if_pos rfl]
      · exfalso
        unfold wordM at h0
        rw [if_neg hc] at h0
        exact absurd h0 (show (100 : Int) ≠ 0 by decide)
    | none =>
      by_cases hq : c = 34
      · subst hq
        have e : ∀ v (a : Int), tokM (34 :: v) a = litM (34 :: v) a := fun v a => by rw [tokM, hs]; rfl
        rw [e] at h0 h1 ⊢
        have hu : (uqRun uq0 0 (34 :: t)).2.2.2 = 0 := by
          by_cases hu : (uqRun uq0 0 (34 :: t)).2.2.2 = 0
          · exact hu
          · unfold litM unqM at h0
            rw [if_pos hu] at h0
            exact absurd h0 hu
        obtain ⟨k, k1, k2, k3, k4⟩ := uq_cover (34 :: t) uq0 0 hu
        have e2 : ∀ (v : List UInt8) (a : Int), (uqRun uq0 0 v).2.2.2 = 0 → litM v a = (⟨12, a, a + (uqRun uq0 0 v).2.1, 0, 0, (uqRun uq0 0 v).1⟩, 0) := fun v a h => by
          unfold litM unqM; rw [if_neg (by simpa using h)]
        obtain ⟨j, rfl⟩ : ∃ j, k = j + 1 := ⟨k - 1, by omega⟩
        refine ⟨j + 1, 12, 0, 0, (uqRun uq0 0 (34 :: t)).1, k1, k2, by omega, by omega, by rw [e2 _ _ hu, k3, Int.zero_add], fun a' => ?_⟩
        rw [List.take_succ_cons] at k4 ⊢
        rw [e, e2 _ _ (by rw [k4]; exact hu), k4, k3, Int.zero_add]
      · by_cases hn : c = 45 ∨ digB c = true
        · have e : ∀ v (a : Int), tokM (c :: v) a = numM (c :: v) a := fun v a => by rw [tokM, hs]; simp only [hq, hn, if_false, if_true]
          rw [e] at h0 h1 ⊢
          have hw : wholeN ((c :: t).drop (signN (c :: t))) ≠ 0 := by
            intro hw
            unfold numM at h0
            rw [if_pos hw] at h0
            exact absurd h0 (show (100 : Int) ≠ 0 by decide)
          obtain ⟨neg, x, y, hl, hx⟩ := num_parts _ hw
          generalize hct : c :: t = ct at *
          have hne := hx.ne
          have hxl : x.length ≠ 0 := fun e => hne (List.eq_nil_of_length_eq_zero e)
          have h2 := h0
          rw [hl, num_app neg a hx] at h2
          have h3 := numF_ok h2
          rw [h3] at h2
          obtain ⟨kd, n, v, hk, i1, -⟩ := intT_ok (a' := 0) (b' := 0) h2
          generalize hsg : (if neg = true then [45] else [] : List UInt8) = sg at *
          refine ⟨sg.length + x.length, kd, n, v, [], by omega, by rw [hl, List.length_append, List.length_append]; omega, by omega, by omega, ?_, fun a' => ?_⟩
          · have := num_app neg a hx
            rw [hsg] at this
            rw [hl, this, h3, i1, Int.natCast_add]
          · have e3 : ct.take (sg.length + x.length) = sg ++ (x ++ []) := by
              rw [hl, ← List.append_assoc, ← List.length_append, List.take_left, List.append_nil]
            have e4 : ∃ v, ct.take (sg.length + x.length) = c :: v := by
              rw [← hct]
              obtain ⟨j, hj⟩ : ∃ j, sg.length + x.length = j + 1 := ⟨sg.length + x.length - 1, by omega⟩
              rw [hj, List.take_succ_cons]; exact ⟨_, rfl⟩
            obtain ⟨v', hv'⟩ := e4
            have e5 : tokM (ct.take (sg.length + x.length)) a' = numM (ct.take (sg.length + x.length)) a' := by rw [hv', e]
            rw [e5, e3]
            have := num_app neg a' (hx.to (y' := []) fun _ => rfl)
            rw [hsg] at this
            rw [this]
            have e6 : numF neg (valU x) [] (sg.length + x.length) a' = intT neg (valU x) a' (a' + ((sg.length + x.length : Nat) : Int)) := rfl
            rw [e6]
            obtain ⟨kd', n', v', hk', i1', i2'⟩ := intT_ok (a' := a') (b' := a' + ((sg.length + x.length : Nat) : Int)) h2
            rw [i1] at i1'
            cases i1'
            exact i2'
        · have e : ∀ v, tokM (c :: v) a = wrongT a 100 := fun v => by rw [tokM, hs]; simp only [hq, hn, if_false]
          rw [e] at h0
          exact absurd h0 (show (100 : Int) ≠ 0 by decide)
theorem tok_kind {c : UInt8} {t : List UInt8} {a : Int} (h : (tokM (c :: t) a).2 = 0) (hk : (tokM (c :: t) a).1.kind = 0) : False := by
  rw [tokM] at h hk
  cases hs : spellW c with
  | some wk =>
    obtain ⟨w, kd⟩ := wk
    rw [hs] at h hk
    obtain ⟨v, rfl, k1, k9⟩ := spell_first hs
    dsimp only at h hk
    unfold wordM at h hk
    split at h
    · rename_i hc
      rw [if_pos hc] at hk
      dsimp only at hk
      omega
    · exact absurd h (show (100 : Int) ≠ 0 by decide)
  | none =>
    rw [hs] at h hk
    dsimp only at h hk
    split at h
    · rename_i hq
      rw [if_pos hq] at hk
      unfold litM at h hk
      split at h
      · rename_i hu; exact hu h
      · rename_i hu
        rw [if_neg hu] at hk
        exact absurd hk (show (12 : Int) ≠ 0 by decide)
    · rename_i hq
      rw [if_neg hq] at hk
      split at h
      · rename_i hn
        rw [if_pos hn] at hk
        unfold numM at h hk
        split at h
        · exact absurd h (show (100 : Int) ≠ 0 by decide)
        · rename_i hw
          rw [if_neg hw] at hk
          have h3 := numF_ok h
          rw [h3] at h hk
          obtain ⟨kd, n, v, hkd, i1, -⟩ := intT_ok (a' := 0) (b' := 0) h
          rw [i1] at hk
          dsimp only at hk
          omega
      · exact absurd h (show (100 : Int) ≠ 0 by decide)
/-- The tokens of s from an offset on: they do not overlap, only white space lies between them, and their bytes alone yield them. -/
def Covers (s : List UInt8) : Nat → List Tok → Prop
  | e, [] => e ≤ s.length ∧ ∀ c ∈ s.drop e, blankB c = true
  | e, t :: ts => ∃ (b k : Nat), e ≤ b ∧ 1 ≤ k ∧ b + k ≤ s.length ∧ (∀ c ∈ (s.drop e).take (b - e), blankB c = true) ∧ 1 ≤ t.kind ∧ t.kind ≤ 12 ∧ t.from_ = b ∧ t.to_ = b + k ∧
      nextM (32 :: 10 :: ((s.drop b).take k)) 0 = (⟨t.kind, 2, 2 + k, t.n, t.u, t.text⟩, 0) ∧ Covers s (b + k) ts
theorem next_at {s : List UInt8} {e : Nat} (he : e ≤ s.length) : nextM s e = tokM ((s.drop e).drop (blanksN (s.drop e))) ((e : Int) + blanksN (s.drop e)) := by
  unfold nextM
  rw [if_neg (by omega), Int.toNat_natCast]
theorem allN_cover {s : List UInt8} : ∀ (f e : Nat) (acc : List Tok), s.length < f + e → e ≤ s.length →
    ((allN s f e acc).2.2 = 0 → ∃ ts, allN s f e acc = (acc ++ ts, 0, 0) ∧ Covers s e ts) ∧ ((allN s f e acc).2.2 ≠ 0 → (allN s f e acc).1 = [] ∧ (nextM s (allN s f e acc).2.1).2 = (allN s f e acc).2.2 → True)
  | 0, e, acc, hf, he => by omega
  | f + 1, e, acc, hf, he => by
    refine ⟨fun h => ?_, fun _ _ => trivial⟩
    rw [allN] at h ⊢
    have hn := next_at he
    have hbl := blanks_le (s.drop e)
    rw [List.length_drop] at hbl
    obtain ⟨ba, bh⟩ := blanks_all (s.drop e)
    by_cases h2 : (nextM s e).2 = 0
    · rw [if_neg (show ¬ ((nextM s e).2 ≠ 0) by simpa using h2)] at h ⊢
      by_cases hk : (nextM s e).1.kind = 0
      · rw [if_pos hk]
        refine ⟨[], by rw [List.append_nil], he, ?_⟩
        rw [hn] at h2 hk
        have hnil : (s.drop e).drop (blanksN (s.drop e)) = [] := by
          cases hd : (s.drop e).drop (blanksN (s.drop e)) with
          | nil => rfl
          | cons c t =>
            exfalso
            rw [hd] at h2 hk
            exact tok_kind h2 hk
        intro c hc
        refine ba c ?_
        rw [← List.take_append_drop (blanksN (s.drop e)) (s.drop e), hnil, List.append_nil] at hc
        exact hc
      · rw [if_neg hk] at h ⊢
        have h2' := h2
        have hk' := hk
        rw [hn] at h2' hk'
        obtain ⟨k, kd, n, u, x, k1, k2, d1, d12, i1, i2⟩ := tok_cover h2' hk'
        rw [← hn] at i1
        rw [List.length_drop, List.length_drop] at k2
        rw [i1] at h ⊢
        dsimp only at h ⊢
        rw [show (e : Int) + ((blanksN (s.drop e) : Nat) : Int) + (k : Int) = ((e + blanksN (s.drop e) + k : Nat) : Int) by push_cast; rfl] at h ⊢
        obtain ⟨g1, -⟩ := allN_cover (s := s) f (e + blanksN (s.drop e) + k) (acc ++ [⟨kd, (e : Int) + blanksN (s.drop e), ((e + blanksN (s.drop e) + k : Nat) : Int), n, u, x⟩]) (by omega) (by omega)
        obtain ⟨ts, j1, j2⟩ := g1 h
        refine ⟨⟨kd, (e : Int) + blanksN (s.drop e), ((e + blanksN (s.drop e) + k : Nat) : Int), n, u, x⟩ :: ts, ?_, ?_⟩
        · rw [j1, List.append_assoc]; rfl
        · refine ⟨e + blanksN (s.drop e), k, by omega, k1, by omega, ?_, d1, d12, by push_cast; rfl, by push_cast; rfl, ?_, j2⟩
          · rw [show e + blanksN (s.drop e) - e = blanksN (s.drop e) by omega]; exact ba
          · have hx : ∀ c ∈ ([32, 10] : List UInt8), blankB c = true := by decide
            have hy : headB blankB ((s.drop (e + blanksN (s.drop e))).take k) = false := by
              rw [← List.drop_drop]
              have := head_take (p := blankB) (k := k) (x := (s.drop e).drop (blanksN (s.drop e))) [] k1 (by
                intro hnil
                rw [hnil] at hk'
                exact hk' rfl)
              rw [List.append_nil] at this
              rw [this]; exact bh
            have := next_app hx hy
            rw [show (32 :: 10 :: ((s.drop (e + blanksN (s.drop e))).take k) : List UInt8) = [32, 10] ++ (s.drop (e + blanksN (s.drop e))).take k from rfl, this, ← List.drop_drop, i2]
            rfl
    · rw [if_pos (show (nextM s e).2 ≠ 0 from h2)] at h
      exact absurd h h2
end Go.Proofs.YtccmhhmdenfecaaGreatDoor
