/- Plain laws for LexCovers: the place of an error; a token's cells in a row. No program here. -/
import Derived.Test.YtccmhhmdenfecaaGreatDoorLq
namespace Go.Proofs.YtccmhhmdenfecaaGreatDoor
set_option linter.unusedVariables false
set_option linter.unusedSimpArgs false
theorem intT_101 {neg : Bool} {u : Nat} {a b : Int} (h : (intT neg u a b).2 ≠ 0) : (intT neg u a b).1.from_ = a := by
  unfold intT wrongT at h ⊢
  (repeat' split) <;> rfl
theorem numE_101 {neg : Bool} {u : Nat} {pt : Bool} {l : List UInt8} {z : Nat} {a : Int} (h : (numE neg u pt l z a).2 = 101) : (numE neg u pt l z a).1.from_ = a := by
  unfold numE at h ⊢
  split
  · rename_i he
    rw [if_pos he] at h
    split
    · rename_i hd; rw [if_pos hd] at h; exact absurd h (show (100 : Int) ≠ 101 by decide)
    · rfl
  · rename_i he
    rw [if_neg he] at h
    split
    · rfl
    · rename_i hp
      rw [if_neg hp] at h
      exact intT_101 (by omega)
theorem num_101 {l : List UInt8} {a : Int} (h : (numM l a).2 = 101) : (numM l a).1.from_ = a := by
  unfold numM at h ⊢
  split
  · rename_i he; rw [if_pos he] at h; exact absurd h (show (100 : Int) ≠ 101 by decide)
  · rename_i he
    rw [if_neg he] at h
    unfold numF at h ⊢
    split
    · rename_i hp
      rw [if_pos hp] at h
      split
      · rename_i hd; rw [if_pos hd] at h; exact absurd h (show (100 : Int) ≠ 101 by decide)
      · rename_i hd; rw [if_neg hd] at h; exact numE_101 h
    · rename_i hp
      rw [if_neg hp] at h
      exact numE_101 h
theorem uq_err : ∀ (l : List UInt8) (Q : UQ) (i : Int), (uqRun Q i l).2.2.2 = 0 ∨ (uqRun Q i l).2.2.2 = 3 ∨ (uqRun Q i l).2.2.2 = 40 ∨ (uqRun Q i l).2.2.2 = 41
  | [], Q, i => by simp [uqRun]
  | c :: l, Q, i => by
    rw [uqRun]
    cases h : takeQ Q c with
    | error e =>
      dsimp only
      unfold takeQ wantQ beginQ escapeQ digitQ plainQ at h
      (repeat' split at h) <;> first | (cases h; simp) | cases h
    | ok Q' =>
      dsimp only
      split
      · simp
      · exact uq_err l Q' (i + 1)
theorem tok_101 {l : List UInt8} {a : Int} (h : (tokM l a).2 = 101) : (tokM l a).1.from_ = a := by
  cases l with
  | nil => cases h
  | cons c t =>
    rw [tokM] at h ⊢
    cases hs : spellW c with
    | some wk =>
      obtain ⟨w, kd⟩ := wk
      rw [hs] at h
      dsimp only at h ⊢
      unfold wordM at h ⊢
      split
      · rfl
      · rename_i hc; rw [if_neg hc] at h; exact absurd h (show (100 : Int) ≠ 101 by decide)
    | none =>
      rw [hs] at h
      dsimp only at h ⊢
      split
      · rename_i hq
        rw [if_pos hq] at h
        unfold litM at h ⊢
        split
        · rename_i hu
          rw [if_pos hu] at h
          have := uq_err (c :: t) uq0 0
          unfold unqM at h
          simp only [wrongT] at h
          omega
        · rfl
      · rename_i hq
        rw [if_neg hq] at h
        split
        · rename_i hn; rw [if_pos hn] at h; exact num_101 h
        · rename_i hn; rw [if_neg hn] at h; exact absurd h (show (100 : Int) ≠ 101 by decide)
theorem next_bd {s : List UInt8} {e : Nat} (he : e ≤ s.length) (h : (nextM s e).2 ≠ 0) : 0 ≤ (nextM s e).1.from_ ∧ (nextM s e).1.from_ ≤ s.length := by
  have hn := next_at he
  have hbl := blanks_le (s.drop e)
  rw [List.length_drop] at hbl
  rw [hn] at h ⊢
  by_cases h1 : (tokM ((s.drop e).drop (blanksN (s.drop e))) ((e : Int) + blanksN (s.drop e))).2 = 101
  · rw [tok_101 h1]; omega
  · obtain ⟨k, k1, k2, -⟩ := tok_place h h1
    rw [k2]
    rw [List.length_drop, List.length_drop] at k1
    simp only [wrongT]
    omega
theorem allN_bd {s : List UInt8} : ∀ (f e : Nat) (acc : List Tok), s.length < f + e → e ≤ s.length → (allN s f e acc).2.2 ≠ 0 → (allN s f e acc).1 = [] ∧ 0 ≤ (allN s f e acc).2.1 ∧ (allN s f e acc).2.1 ≤ s.length
  | 0, e, acc, hf, he, _ => by omega
  | f + 1, e, acc, hf, he, h => by
    rw [allN] at h ⊢
    by_cases h2 : (nextM s e).2 = 0
    · rw [if_neg (fun g => g h2)] at h ⊢
      by_cases hk : (nextM s e).1.kind = 0
      · rw [if_pos hk] at h; exact absurd rfl h
      · rw [if_neg hk] at h ⊢
        have hn := next_at he
        have hbl := blanks_le (s.drop e)
        rw [List.length_drop] at hbl
        have h2' := h2
        have hk' := hk
        rw [hn] at h2' hk'
        obtain ⟨k, kd, n, u, x, k1, k2, d1, d12, i1, i2⟩ := tok_cover h2' hk'
        rw [← hn] at i1
        rw [List.length_drop, List.length_drop] at k2
        rw [i1] at h ⊢
        dsimp only at h ⊢
        rw [show (e : Int) + ((blanksN (s.drop e) : Nat) : Int) + (k : Int) = ((e + blanksN (s.drop e) + k : Nat) : Int) by push_cast; rfl] at h ⊢
        exact allN_bd f (e + blanksN (s.drop e) + k) _ (by omega) (by omega) h
    · rw [if_pos h2]
      exact ⟨rfl, next_bd he h2⟩
theorem all_covers {s : List UInt8} (hl : s.length ≤ 1048576) : ((allM s).2.2 = 0 → (allM s).2.1 = 0 ∧ Covers s 0 (allM s).1) ∧ ((allM s).2.2 ≠ 0 → (allM s).1 = [] ∧ 0 ≤ (allM s).2.1 ∧ (allM s).2.1 ≤ s.length) := by
  unfold allM
  rw [if_neg (by omega)]
  refine ⟨fun h => ?_, fun h => allN_bd _ 0 [] (by omega) (Nat.zero_le _) h⟩
  obtain ⟨g, -⟩ := allN_cover (s := s) (s.length + 1) 0 [] (by omega) (Nat.zero_le _)
  obtain ⟨ts, h1, h2⟩ := g h
  have h1' : allN s (s.length + 1) 0 [] = ([] ++ ts, 0, 0) := h1
  rw [h1', List.nil_append]
  exact ⟨rfl, h2⟩
end Go.Proofs.YtccmhhmdenfecaaGreatDoor
