/- Plain facts of UTF-8: what is decoded, and which bytes begin an encoding. No program here. -/
import Derived.Test.YtccmhhmdenfecaaGreatDoorTv
namespace Go.Proofs.YtccmhhmdenfecaaGreatDoor
set_option linter.unusedVariables false
set_option linter.unusedSimpArgs false
/-- The least and the greatest second byte behind a first byte. -/
def loB (b : Nat) : Nat := if b = 224 then 160 else if b = 240 then 144 else 128
def hiB (b : Nat) : Nat := if b = 237 then 159 else if b = 244 then 143 else 191
/-- The length of the encodings that begin with a byte. -/
def longB (b : Nat) : Nat := if b < 128 then 1 else if b < 194 then 0 else if b < 224 then 2 else if b < 240 then 3 else if b < 245 then 4 else 0
/-- m bytes b0 b1 b2 .. are a proper prefix of an encoding. -/
def PartU (m b0 b1 b2 : Nat) : Prop := m < longB b0 ∧ (1 < m → loB b0 ≤ b1 ∧ b1 ≤ hiB b0) ∧ (2 < m → 128 ≤ b2 ∧ b2 ≤ 191)
/-- They begin with an encoding. -/
def DoneU (m b0 b1 b2 b3 : Nat) : Prop := 1 ≤ longB b0 ∧ longB b0 ≤ m ∧ (2 ≤ longB b0 → loB b0 ≤ b1 ∧ b1 ≤ hiB b0) ∧ (3 ≤ longB b0 → 128 ≤ b2 ∧ b2 ≤ 191) ∧ (4 ≤ longB b0 → 128 ≤ b3 ∧ b3 ≤ 191)
/-- The scalar value of an encoding. -/
def runeN (b0 b1 b2 b3 : Nat) : Nat := if longB b0 = 1 then b0 else if longB b0 = 2 then b0 % 32 * 64 + b1 % 64 else if longB b0 = 3 then b0 % 16 * 4096 + b1 % 64 * 64 + b2 % 64 else b0 % 8 * 262144 + b1 % 64 * 4096 + b2 % 64 * 64 + b3 % 64
def Cls (b : Nat) : Prop :=
  (b < 128 ∧ Lib.firstT b = 240 ∧ longB b = 1 ∧ loB b = 128 ∧ hiB b = 191) ∨ ((128 ≤ b ∧ b < 194) ∧ Lib.firstT b = 241 ∧ longB b = 0 ∧ loB b = 128 ∧ hiB b = 191) ∨ ((245 ≤ b) ∧ Lib.firstT b = 241 ∧ longB b = 0 ∧ loB b = 128 ∧ hiB b = 191)
  ∨ ((194 ≤ b ∧ b < 224) ∧ Lib.firstT b = 2 ∧ longB b = 2 ∧ loB b = 128 ∧ hiB b = 191) ∨ (b = 224 ∧ Lib.firstT b = 19 ∧ longB b = 3 ∧ loB b = 160 ∧ hiB b = 191) ∨ ((225 ≤ b ∧ b < 237) ∧ Lib.firstT b = 3 ∧ longB b = 3 ∧ loB b = 128 ∧ hiB b = 191)
  ∨ (b = 237 ∧ Lib.firstT b = 35 ∧ longB b = 3 ∧ loB b = 128 ∧ hiB b = 159) ∨ ((238 ≤ b ∧ b < 240) ∧ Lib.firstT b = 3 ∧ longB b = 3 ∧ loB b = 128 ∧ hiB b = 191) ∨ (b = 240 ∧ Lib.firstT b = 52 ∧ longB b = 4 ∧ loB b = 144 ∧ hiB b = 191)
  ∨ ((241 ≤ b ∧ b < 244) ∧ Lib.firstT b = 4 ∧ longB b = 4 ∧ loB b = 128 ∧ hiB b = 191) ∨ (b = 244 ∧ Lib.firstT b = 68 ∧ longB b = 4 ∧ loB b = 128 ∧ hiB b = 143)
instance (b : Nat) : Decidable (Cls b) := by unfold Cls; infer_instance
set_option maxRecDepth 100000 in
theorem cls : ∀ b, b < 256 → Cls b := by decide
set_option maxRecDepth 100000 in
set_option maxHeartbeats 4000000 in
theorem dec_done {m b0 b1 b2 b3 : Nat} (h0 : b0 < 256) (h1 : b1 < 256) (h2 : b2 < 256) (h3 : b3 < 256) (hd : DoneU m b0 b1 b2 b3) : Lib.decodeN m b0 b1 b2 b3 = (runeN b0 b1 b2 b3, longB b0) := by
  have hc := cls b0 h0
  unfold DoneU at hd
  unfold runeN
  rcases hc with ⟨hb, -, e1, e2, e3⟩ | ⟨hb, -, e1, e2, e3⟩ | ⟨hb, -, e1, e2, e3⟩ | ⟨hb, -, e1, e2, e3⟩ | ⟨hb, -, e1, e2, e3⟩ | ⟨hb, -, e1, e2, e3⟩ | ⟨hb, -, e1, e2, e3⟩ | ⟨hb, -, e1, e2, e3⟩ | ⟨hb, -, e1, e2, e3⟩ | ⟨hb, -, e1, e2, e3⟩ | ⟨hb, -, e1, e2, e3⟩
  all_goals (rw [e1, e2, e3] at hd; rw [e1])
  all_goals first | (exfalso; omega) | skip
  all_goals (unfold Lib.decodeN; (repeat' split) <;> first | rfl | (exfalso; omega) | (apply Prod.ext <;> simp only <;> omega))
set_option maxRecDepth 100000 in
set_option maxHeartbeats 4000000 in
theorem dec_not {m b0 b1 b2 b3 : Nat} (h0 : b0 < 256) (h1 : b1 < 256) (h2 : b2 < 256) (h3 : b3 < 256) (hm : 1 ≤ m) (hd : ¬ DoneU m b0 b1 b2 b3) : Lib.decodeN m b0 b1 b2 b3 = (65533, 1) := by
  have hc := cls b0 h0
  unfold DoneU at hd
  rcases hc with ⟨hb, -, e1, e2, e3⟩ | ⟨hb, -, e1, e2, e3⟩ | ⟨hb, -, e1, e2, e3⟩ | ⟨hb, -, e1, e2, e3⟩ | ⟨hb, -, e1, e2, e3⟩ | ⟨hb, -, e1, e2, e3⟩ | ⟨hb, -, e1, e2, e3⟩ | ⟨hb, -, e1, e2, e3⟩ | ⟨hb, -, e1, e2, e3⟩ | ⟨hb, -, e1, e2, e3⟩ | ⟨hb, -, e1, e2, e3⟩
  all_goals rw [e1, e2, e3] at hd
  all_goals (unfold Lib.decodeN; (repeat' split) <;> first | rfl | (exfalso; omega))
theorem rune_ne {m b0 b1 b2 b3 : Nat} (h0 : b0 < 256) (hd : DoneU m b0 b1 b2 b3) : ¬ (runeN b0 b1 b2 b3 = 65533 ∧ longB b0 < 2) := by
  unfold DoneU at hd
  rintro ⟨h1, h2⟩
  have : longB b0 = 1 := by omega
  unfold runeN at h1
  rw [if_pos this] at h1
  omega
instance (m b0 b1 b2 b3 : Nat) : Decidable (DoneU m b0 b1 b2 b3) := by unfold DoneU; infer_instance
instance (m b0 b1 b2 : Nat) : Decidable (PartU m b0 b1 b2) := by unfold PartU; infer_instance
/-- The byte at a place of a list, as a number. -/
def bat (l : List UInt8) (i : Nat) : Nat := (l.getD i 0).toNat
theorem bat_lt (l : List UInt8) (i : Nat) : bat l i < 256 := (l.getD i 0).toNat_lt
theorem decL_eq {l : List UInt8} (h : l ≠ []) : decL l = Lib.decodeN l.length (bat l 0) (bat l 1) (bat l 2) (bat l 3) := by unfold decL; rw [if_neg h]; rfl
theorem isU_iff {l : List UInt8} (h : l ≠ []) : isU l = true ↔ DoneU l.length (bat l 0) (bat l 1) (bat l 2) (bat l 3) := by
  have hl : 1 ≤ l.length := by cases l with | nil => exact absurd rfl h | cons c t => simp
  unfold isU
  rw [decL_eq h]
  by_cases hd : DoneU l.length (bat l 0) (bat l 1) (bat l 2) (bat l 3)
  · rw [dec_done (bat_lt _ _) (bat_lt _ _) (bat_lt _ _) (bat_lt _ _) hd]
    have := rune_ne (bat_lt l 0) hd
    simp only [hd, iff_true, Bool.not_eq_true', Bool.and_eq_false_iff, decide_eq_false_iff_not]
    omega
  · rw [dec_not (bat_lt _ _) (bat_lt _ _) (bat_lt _ _) (bat_lt _ _) hl hd]
    simp [hd]
theorem decL_done {l : List UInt8} (h : l ≠ []) (hd : DoneU l.length (bat l 0) (bat l 1) (bat l 2) (bat l 3)) : decL l = (runeN (bat l 0) (bat l 1) (bat l 2) (bat l 3), longB (bat l 0)) := by
  rw [decL_eq h, dec_done (bat_lt _ _) (bat_lt _ _) (bat_lt _ _) (bat_lt _ _) hd]
set_option maxRecDepth 100000 in
set_option maxHeartbeats 4000000 in
/-- What is neither whole nor bad is a proper prefix. -/
theorem full_iff {l : List UInt8} (h : l ≠ []) (hn : ¬ DoneU l.length (bat l 0) (bat l 1) (bat l 2) (bat l 3)) : fullU l = false ↔ PartU l.length (bat l 0) (bat l 1) (bat l 2) := by
  have hl : 1 ≤ l.length := by cases l with | nil => exact absurd rfl h | cons c t => simp
  have h0 := bat_lt l 0
  have h1 := bat_lt l 1
  have h2 := bat_lt l 2
  unfold fullU
  simp only [h, decide_false, Bool.not_false, Bool.true_and, Bool.or_eq_false_iff, Bool.and_eq_false_iff, decide_eq_false_iff_not]
  change (((¬ Lib.firstT (bat l 0) % 8 ≤ l.length) ∧ (¬ 1 < l.length ∨ ((¬ bat l 1 < Lib.accLo (Lib.firstT (bat l 0) / 16)) ∧ ¬ Lib.accHi (Lib.firstT (bat l 0) / 16) < bat l 1))) ∧ (¬ 2 < l.length ∨ ((¬ bat l 2 < 128) ∧ ¬ 191 < bat l 2))) ↔ _
  generalize bat l 0 = b0 at *
  generalize bat l 1 = b1 at *
  generalize bat l 2 = b2 at *
  generalize bat l 3 = b3 at *
  generalize l.length = m at *
  have hc := cls b0 h0
  unfold DoneU at hn
  unfold PartU
  rcases hc with ⟨hb, e0, e1, e2, e3⟩ | ⟨hb, e0, e1, e2, e3⟩ | ⟨hb, e0, e1, e2, e3⟩ | ⟨hb, e0, e1, e2, e3⟩ | ⟨hb, e0, e1, e2, e3⟩ | ⟨hb, e0, e1, e2, e3⟩ | ⟨hb, e0, e1, e2, e3⟩ | ⟨hb, e0, e1, e2, e3⟩ | ⟨hb, e0, e1, e2, e3⟩ | ⟨hb, e0, e1, e2, e3⟩ | ⟨hb, e0, e1, e2, e3⟩
  all_goals (rw [e1, e2, e3] at hn; rw [e0, e1, e2, e3])
  all_goals simp only [Lib.accLo, Lib.accHi, Nat.reduceDiv, Nat.reduceMod, Nat.reduceEqDiff, if_true, if_false]
  all_goals omega
end Go.Proofs.YtccmhhmdenfecaaGreatDoor
