/- The reference's literal, byte by byte, is the program's at valid texts. -/
import Derived.Test.YtlblddeemkefkaaGreatDoorYa
namespace Go.Proofs.YtlblddeemkefkaaGreatDoor
set_option linter.unusedVariables false
set_option linter.unusedSimpArgs false
open Go.RowKit Go.Shelf
/-- Where a byte stands among the eight that have a short spelling: what the loop over the first k gives. -/
def shortK (c : UInt8) : Nat → Int
  | 0 => -1
  | k + 1 => if qL.getD k 0 = c ∧ mkL.getD k 0 ≠ 47 then (k : Int) else shortK c k
set_option maxRecDepth 100000 in
theorem short_fin (c : UInt8) : shortK c 8 = if 0 ≤ qIdx c.toNat ∧ c.toNat ≠ 47 then qIdx c.toNat else -1 := by
  have h : ∀ n : Fin 256, shortK (UInt8.ofNat n.1) 8 = if 0 ≤ qIdx (UInt8.ofNat n.1).toNat ∧ (UInt8.ofNat n.1).toNat ≠ 47 then qIdx (UInt8.ofNat n.1).toNat else -1 := by decide +kernel
  have := h ⟨c.toNat, c.toNat_lt⟩
  simpa using this
/-- The spelling of a byte. -/
def qB (c : UInt8) : List UInt8 :=
  if 0 ≤ shortK c 8 then [92, mkL.getD (shortK c 8).toNat 0]
  else if c.toNat < 32 then [92, 117, 48, 48, hxL.getD (c.toNat / 16) 0, hxL.getD (c.toNat % 16) 0]
  else [c]
theorem qB_low {c : UInt8} (h : c.toNat < 128) : qB c = quoR c.toNat := by
  unfold qB quoR
  rw [short_fin]
  by_cases h1 : 0 ≤ qIdx c.toNat ∧ c.toNat ≠ 47
  · rw [if_pos h1, if_pos h1, if_pos h1.1]
  · rw [if_neg h1, if_neg h1, if_neg (by decide)]
    by_cases h2 : c.toNat < 32
    · rw [if_pos h2, if_pos h2]
    · rw [if_neg h2, if_neg h2, enc_one h]
      simp
theorem qIdx_high {r : Nat} (h : 128 ≤ r) : qIdx r = -1 := by unfold qIdx; rw [if_neg (by omega)]
theorem qB_high {c : UInt8} (h : 128 ≤ c.toNat) : qB c = [c] := by
  unfold qB
  rw [short_fin, if_neg (show ¬ (0 ≤ qIdx c.toNat ∧ c.toNat ≠ 47) by rw [qIdx_high h]; omega), if_neg (show ¬ (0 : Int) ≤ -1 by decide), if_neg (show ¬ c.toNat < 32 by omega)]
theorem enc_high {r : Nat} (h : 128 ≤ r) : ∀ c ∈ Lib.encodeRune (r : Int), 128 ≤ c.toNat := by
  intro c hc
  unfold Lib.encodeRune at hc
  obtain ⟨x, hx, rfl⟩ := List.mem_map.1 hc
  have hb : 128 ≤ x ∧ x ≤ 255 := by
    unfold Lib.encodeRuneZ at hx
    split at hx
    · omega
    split at hx
    · simp only [List.mem_cons, List.not_mem_nil, or_false] at hx; omega
    split at hx
    · simp only [List.mem_cons, List.not_mem_nil, or_false] at hx; omega
    split at hx
    · simp only [List.mem_cons, List.not_mem_nil, or_false] at hx; omega
    · simp only [List.mem_cons, List.not_mem_nil, or_false] at hx; omega
  have : (x.toNat.toUInt8).toNat = x.toNat % 256 := by simp
  rw [this]
  omega
theorem flat_high : ∀ l : List UInt8, (∀ c ∈ l, 128 ≤ c.toNat) → l.flatMap qB = l
  | [], _ => rfl
  | c :: l, h => by
    rw [List.flatMap_cons, qB_high (h c (List.mem_cons_self ..)), flat_high l fun x hx => h x (List.mem_cons_of_mem _ hx)]
    rfl
theorem quo_bytes : ∀ (g : Nat) (l : List UInt8), Lib.validD l = true → l.length ≤ g → quoD g l = l.flatMap qB
  | 0, l, _, h => by
    obtain rfl : l = [] := List.eq_nil_of_length_eq_zero (by omega)
    rfl
  | g + 1, l, hv, hl => by
    by_cases hne : l = []
    · subst hne; simp [quoD]
    · rw [Lib.validD_step l hne] at hv
      by_cases hb : (Lib.decodeL l).1 = 65533 ∧ (Lib.decodeL l).2 = 1
      · rw [if_pos hb] at hv; cases hv
      rw [if_neg hb] at hv
      have henc := Lib.encode_decode l hne hb
      have hw := Lib.decodeL_width l
      have hd := Lib.decodeL_le l hne
      have hpos : 0 < l.length := List.length_pos_iff.2 hne
      rw [quoD, if_neg hne, quo_bytes g _ hv (by rw [List.length_drop]; omega)]
      conv => rhs; rw [← List.take_append_drop (Lib.decodeL l).2 l, List.flatMap_append]
      congr 1
      rw [← henc]
      generalize (Lib.decodeL l).1 = r
      by_cases h : r < 128
      · rw [enc_one h]
        have e : r.toUInt8.toNat = r := by simp; omega
        rw [List.flatMap_cons, List.flatMap_nil, List.append_nil, qB_low (by rw [e]; exact h), e]
      · rw [flat_high _ (enc_high (by omega))]
        unfold quoR
        rw [if_neg (by rw [qIdx_high (by omega)]; omega), if_neg (by omega)]
theorem quoL_bytes {l : List UInt8} (hv : Lib.validD l = true) : quoL' l = 34 :: (l.flatMap qB ++ [34]) := by
  rw [quoL_eq, quo_bytes l.length l hv (Nat.le_refl _)]
end Go.Proofs.YtlblddeemkefkaaGreatDoor
