/- Plain laws of the reader of a literal: what it keeps from byte to byte. No program here. -/
import Derived.Test.YtgdhepoffnpgiaaDoorLu
namespace Go.Proofs.YtgdhepoffnpgiaaDoor
set_option linter.unusedVariables false
set_option linter.unusedSimpArgs false
/-- What the reader keeps while it reads. -/
structure QInv (Q : UQ) : Prop where
  st : Q.st = 0 ∨ Q.st = 1 ∨ Q.st = 2 ∨ Q.st = 3 ∨ Q.st = 4 ∨ Q.st = 5 ∨ Q.st = 6
  ru : Q.ru.length ≤ 3
  mn : Q.st = 3 ∨ Q.st = 6 → (Q.many = 0 ∧ Q.n = 0) ∨ (Q.many = 1 ∧ 0 ≤ Q.n ∧ Q.n ≤ 15) ∨ (Q.many = 2 ∧ 0 ≤ Q.n ∧ Q.n ≤ 255) ∨ (Q.many = 3 ∧ 0 ≤ Q.n ∧ Q.n ≤ 4095)
  first : Q.st = 4 ∨ Q.st = 5 ∨ Q.st = 6 → 55296 ≤ Q.first ∧ Q.first ≤ 56319
theorem qinv0 : QInv uq0 := ⟨.inl rfl, by decide, (fun h => by simp [uq0] at h), (fun h => by simp [uq0] at h)⟩
theorem enc_le (x : Int) : (Lib.encodeRune x).length ≤ 4 := by
  have := (Lib.runeCells_le x).2
  rwa [Lib.runeCells_length] at this
theorem hexV_bd2 (c : UInt8) : -1 ≤ hexV c ∧ hexV c ≤ 15 := by
  have := c.toNat_lt
  unfold hexV
  (repeat' split) <;> omega
/-- An incomplete encoding that is not full has three bytes at most. -/
theorem part_short {l : List UInt8} (h : l ≠ []) (hU : isU l = false) (hF : fullU l = false) : l.length ≤ 3 := by
  have hd : ¬ DoneU l.length (bat l 0) (bat l 1) (bat l 2) (bat l 3) := fun hd => by rw [(isU_iff h).2 hd] at hU; cases hU
  have hp := (full_iff h hd).1 hF
  have h4 : longB (bat l 0) ≤ 4 := by unfold longB; (repeat' split) <;> omega
  have := hp.1
  omega
theorem plain_inv {Q Q' : UQ} {c : UInt8} (hI : QInv Q) (hs : Q.st = 1) (h : plainQ Q c = .ok Q') : QInv Q' ∧ Q'.st = 1 ∧ Q'.out.length ≤ Q.out.length + 4 := by
  unfold plainQ at h
  have hl : (Q.ru ++ [c]).length ≤ 4 := by have := hI.ru; simp; omega
  by_cases hU : isU (Q.ru ++ [c]) = true
  · rw [if_pos hU] at h
    cases h
    refine ⟨⟨by simp [hs], by simp, fun h => by simp [hs] at h, fun h => by simp [hs] at h⟩, hs, ?_⟩
    have : ((Q.ru ++ [c]).take (decL (Q.ru ++ [c])).2).length ≤ (Q.ru ++ [c]).length := List.length_take_le' _ _
    simp only [List.length_append] at this ⊢
    simp only [List.length_append] at hl
    omega
  · rw [if_neg hU] at h
    by_cases hF : fullU (Q.ru ++ [c]) = true
    · rw [if_pos hF] at h; cases h
    · rw [if_neg hF] at h
      cases h
      refine ⟨⟨by simp [hs], ?_, fun h => by simp [hs] at h, fun h => by simp [hs] at h⟩, hs, by simp⟩
      exact part_short (by simp) (by simpa using hU) (by simpa using hF)
theorem take_inv {Q Q' : UQ} {c : UInt8} (hI : QInv Q) (h : takeQ Q c = .ok Q') (h7 : Q'.st ≠ 7) : QInv Q' ∧ Q'.out.length ≤ Q.out.length + 4 := by
  have hk := hexV_bd2 c
  have hru := hI.ru
  unfold takeQ at h
  by_cases s0 : Q.st = 0
  · rw [if_pos s0] at h
    unfold wantQ at h
    split at h
    · cases h; exact ⟨⟨by simp, hru, fun h => by simp at h, fun h => by simp at h⟩, by simp⟩
    · cases h
  rw [if_neg s0] at h
  by_cases s1 : Q.st = 1
  · rw [if_pos s1] at h
    unfold beginQ at h
    split at h
    · obtain ⟨a, b, d⟩ := plain_inv hI s1 h; exact ⟨a, d⟩
    · split at h
      · cases h; exact absurd rfl h7
      · split at h
        · cases h; exact ⟨⟨by simp, hru, fun h => by simp at h, fun h => by simp at h⟩, by simp⟩
        · split at h
          · cases h
          · obtain ⟨a, b, d⟩ := plain_inv hI s1 h; exact ⟨a, d⟩
  rw [if_neg s1] at h
  by_cases s2 : Q.st = 2
  · rw [if_pos s2] at h
    unfold escapeQ at h
    split at h
    · cases h
      have := enc_le (escV c)
      exact ⟨⟨by simp [putQ], hru, fun h => by simp [putQ] at h, fun h => by simp [putQ] at h⟩, by simp [putQ]; omega⟩
    · split at h
      · cases h; exact ⟨⟨by simp, hru, fun _ => .inl ⟨rfl, rfl⟩, fun h => by simp at h⟩, by simp⟩
      · cases h
  rw [if_neg s2] at h
  by_cases s4 : Q.st = 4
  · rw [if_pos s4] at h
    unfold wantQ at h
    split at h
    · cases h; exact ⟨⟨by simp, hru, fun h => by simp at h, fun _ => hI.first (.inl s4)⟩, by simp⟩
    · cases h
  rw [if_neg s4] at h
  by_cases s5 : Q.st = 5
  · rw [if_pos s5] at h
    unfold wantQ at h
    split at h
    · cases h; exact ⟨⟨by simp, hru, fun _ => .inl ⟨rfl, rfl⟩, fun _ => hI.first (.inr (.inl s5))⟩, by simp⟩
    · cases h
  rw [if_neg s5] at h
  have s36 : Q.st = 3 ∨ Q.st = 6 := by have := hI.st; omega
  have hmn := hI.mn s36
  unfold digitQ at h
  split at h
  · cases h
  · split at h
    · cases h
    · split at h
      · cases h
        refine ⟨⟨by simp; omega, hru, fun _ => ?_, fun h => hI.first h⟩, by simp⟩
        dsimp only
        omega
      · split at h
        · cases h
          have := enc_le (65536 + (Q.first - 55296) * 1024 + (16 * Q.n + hexV c) - 56320)
          exact ⟨⟨by simp [putQ], hru, fun h => by simp [putQ] at h, fun h => by simp [putQ] at h⟩, by simp [putQ]; omega⟩
        · split at h
          · cases h; exact ⟨⟨by simp, hru, fun h => by simp at h, fun _ => by dsimp only; omega⟩, by simp⟩
          · cases h
            have := enc_le (16 * Q.n + hexV c)
            exact ⟨⟨by simp [putQ], hru, fun h => by simp [putQ] at h, fun h => by simp [putQ] at h⟩, by simp [putQ]; omega⟩
end Go.Proofs.YtgdhepoffnpgiaaDoor
