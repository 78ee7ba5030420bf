/- Plain laws for LexNumbers: the digits of a number are lexed as that number. No program here. -/
import Derived.Test.YtgdhepoffnpgiaaDoorLq
import Derived.Lib.ItoaNum
namespace Go.Proofs.YtgdhepoffnpgiaaDoor
set_option linter.unusedVariables false
set_option linter.unusedSimpArgs false
theorem valU_snoc (l : List UInt8) (c : UInt8) : valU (l ++ [c]) = 10 * valU l + (c.toNat - 48) := by
  unfold valU; rw [List.foldl_append]; rfl
theorem dig_byte {k : Nat} (h : k < 10) : (UInt8.ofNat (48 + k)).toNat = 48 + k := by
  simp [UInt8.toNat_ofNat]; omega
theorem dig_digB {k : Nat} (h : k < 10) : digB (UInt8.ofNat (48 + k)) = true := by
  unfold digB; rw [dig_byte h]; simp; omega
theorem dec_step {u d : Nat} (hu : 0 < u) (hd : d < 10) : Lib.decDigits (10 * u + d) = Lib.decDigits u ++ [UInt8.ofNat (48 + d)] := by
  rw [Lib.decDigits, dif_neg (by omega)]
  rw [show (10 * u + d) / 10 = u by omega, show (10 * u + d) % 10 = d by omega]
theorem dec_facts : ∀ (n u : Nat), u ≤ n → valU (Lib.decDigits u) = u ∧ (∀ c ∈ Lib.decDigits u, digB c = true) ∧ Lib.decDigits u ≠ [] ∧ (0 < u → headB (· == 48) (Lib.decDigits u) = false)
  | 0, u, h => by
    obtain rfl : u = 0 := by omega
    rw [Lib.decDigits, dif_pos (by omega)]
    refine ⟨rfl, by decide, by simp, fun h => by omega⟩
  | n + 1, u, h => by
    by_cases h10 : u < 10
    · rw [Lib.decDigits, dif_pos h10]
      refine ⟨?_, fun c hc => ?_, by simp, fun hu => ?_⟩
      · have := valU_snoc [] (UInt8.ofNat (48 + u))
        rw [List.nil_append, dig_byte h10] at this
        rw [this]
        show 10 * 0 + _ = _
        omega
      · rw [List.mem_singleton] at hc; rw [hc]; exact dig_digB h10
      · simp only [headB, List.head?_cons, Option.any_some, beq_eq_false_iff_ne]
        intro e
        have := congrArg UInt8.toNat e
        rw [dig_byte h10] at this
        have h48 : (48 : UInt8).toNat = 48 := rfl
        omega
    · rw [Lib.decDigits, dif_neg h10]
      obtain ⟨h1, h2, h3, h4⟩ := dec_facts n (u / 10) (by omega)
      have hm : u % 10 < 10 := Nat.mod_lt _ (by decide)
      refine ⟨?_, fun c hc => ?_, by simp, fun hu => ?_⟩
      · rw [valU_snoc, h1, dig_byte hm]; omega
      · rcases List.mem_append.1 hc with hc | hc
        · exact h2 c hc
        · rw [List.mem_singleton] at hc; rw [hc]; exact dig_digB hm
      · rw [head_app h3]; exact h4 (by omega)
theorem dec_whole (u : Nat) (y : List UInt8) (hy : u = 0 ∨ headB digB y = false) : WholeOk (Lib.decDigits u) y := by
  obtain ⟨h1, h2, h3, h4⟩ := dec_facts u u (Nat.le_refl _)
  by_cases h0 : u = 0
  · subst h0
    left
    rw [Lib.decDigits, dif_pos (by omega)]
    rfl
  · right
    rcases hy with h | h
    · exact absurd h h0
    · exact ⟨h2, h4 (by omega), h3, h⟩
theorem lex_num (neg : Bool) {x y : List UInt8} (h : WholeOk x y) (h1 : headB (· == 46) y = false) (h2 : headB expB y = false) :
    nextM ((if neg = true then [45] else []) ++ (x ++ y)) 0 = intT neg (valU x) 0 (((if neg = true then [45] else [] : List UInt8).length + x.length : Nat) : Int) := by
  have hd := h.dig
  have hne := h.ne
  obtain ⟨c, t, hct⟩ : ∃ c t, x = c :: t := by
    cases x with
    | nil => exact absurd rfl hne
    | cons c t => exact ⟨c, t, rfl⟩
  have hdc : digB c = true := by rw [hct] at hd; simpa [headB] using hd
  have hspell : ∀ c : UInt8, digB c = true ∨ c = 45 → spellW c = none ∧ c ≠ 34 ∧ blankB c = false := by
    have hall : ∀ n : Fin 256, (digB (UInt8.ofNat n.val) = true ∨ UInt8.ofNat n.val = 45) → spellW (UInt8.ofNat n.val) = none ∧ UInt8.ofNat n.val ≠ 34 ∧ blankB (UInt8.ofNat n.val) = false := by decide +kernel
    intro c hc
    have := hall ⟨c.toNat, c.toNat_lt⟩ (by simpa using hc)
    simpa using this
  have hn := num_app neg 0 h
  have hF : numF neg (valU x) y ((if neg = true then [45] else [] : List UInt8).length + x.length) 0 = intT neg (valU x) 0 (((if neg = true then [45] else [] : List UInt8).length + x.length : Nat) : Int) := by
    unfold numF numE
    rw [if_neg (by rw [h1]; exact Bool.false_ne_true), if_neg (by rw [h2]; exact Bool.false_ne_true), if_neg Bool.false_ne_true, Int.zero_add]
  rw [hF] at hn
  rw [← hn]
  obtain ⟨c0, t0, hl0, hc0⟩ : ∃ c0 t0, (if neg = true then [45] else [] : List UInt8) ++ (x ++ y) = c0 :: t0 ∧ (digB c0 = true ∨ c0 = 45) := by
    cases neg with
    | true => exact ⟨45, x ++ y, rfl, .inr rfl⟩
    | false => exact ⟨c, t ++ y, by rw [hct]; rfl, .inl hdc⟩
  obtain ⟨e1, e2, e3⟩ := hspell c0 hc0
  rw [hl0]
  unfold nextM
  have hb : blanksN (c0 :: t0) = 0 := by unfold blanksN; rw [List.takeWhile_cons, e3]; rfl
  rw [if_neg (by simp; omega), show (0 : Int).toNat = 0 from rfl, List.drop_zero, hb, List.drop_zero, tokM, e1]
  dsimp only
  rw [if_neg e2, if_pos (by rcases hc0 with h | h; exact .inr h; exact .inl h)]
  rfl
/-- The token of a number's digits. -/
def wantT (u : Nat) (len : Nat) : Tok := if 2 ^ 63 ≤ u then ⟨11, 0, len, 0, u, []⟩ else ⟨10, 0, len, u, 0, []⟩
theorem num_plain (u : Nat) (y : List UInt8) (hu : u < 2 ^ 64) (hy : u = 0 ∨ headB digB y = false) (h1 : headB (· == 46) y = false) (h2 : headB expB y = false) :
    nextM (Lib.decDigits u ++ y) 0 = (wantT u (Lib.decDigits u).length, 0) := by
  have := lex_num false (dec_whole u y hy) h1 h2
  rw [(dec_facts u u (Nat.le_refl _)).1] at this
  simp only [Bool.false_eq_true, if_false, List.nil_append, List.length_nil, Nat.zero_add] at this
  rw [this]
  unfold intT wantT
  rw [if_neg (by rintro (h | ⟨h, -⟩); omega; cases h), if_neg Bool.false_ne_true]
  split <;> rfl
theorem num_neg (u : Nat) (hu : u < 2 ^ 64) : nextM (45 :: Lib.decDigits u) 0 = if 2 ^ 63 < u then wrongT 0 101 else (⟨10, 0, 1 + (Lib.decDigits u).length, -(u : Int), 0, []⟩, 0) := by
  have := lex_num true (dec_whole u [] (.inr rfl)) rfl rfl
  rw [(dec_facts u u (Nat.le_refl _)).1] at this
  simp only [if_true, List.append_nil] at this
  rw [show (45 :: Lib.decDigits u) = [45] ++ Lib.decDigits u from rfl, this]
  unfold intT
  by_cases h : 2 ^ 63 < u
  · rw [if_pos (.inr ⟨rfl, h⟩), if_pos h]
  · rw [if_neg (by rintro (g | ⟨-, g⟩) <;> omega), if_pos rfl, if_neg h]
    simp
theorem num_more (u d : Nat) (hu : 0 < u) (hd : d < 10) : nextM (Lib.decDigits u ++ Lib.decDigits d) 0 = if 2 ^ 64 ≤ 10 * u + d then wrongT 0 101 else (wantT (10 * u + d) (Lib.decDigits u ++ Lib.decDigits d).length, 0) := by
  have e : Lib.decDigits u ++ Lib.decDigits d = Lib.decDigits (10 * u + d) := by
    rw [dec_step hu hd]
    congr 1
    rw [Lib.decDigits, dif_pos hd]
  rw [e]
  have := lex_num false (dec_whole (10 * u + d) [] (.inr rfl)) rfl rfl
  rw [(dec_facts _ _ (Nat.le_refl _)).1] at this
  simp only [Bool.false_eq_true, if_false, List.nil_append, List.append_nil, List.length_nil, Nat.zero_add] at this
  rw [this]
  unfold intT wantT
  by_cases h : 2 ^ 64 ≤ 10 * u + d
  · rw [if_pos (.inl h), if_pos h]
  · rw [if_neg (by rintro (g | ⟨g, -⟩); omega; cases g), if_neg Bool.false_ne_true, if_neg h]
    split <;> rfl
theorem num_zero (d : Nat) (hd : d < 10) : nextM (Lib.decDigits 0 ++ Lib.decDigits d) 0 = (wantT 0 (Lib.decDigits 0).length, 0) := by
  refine num_plain 0 (Lib.decDigits d) (by decide) (.inl rfl) ?_ ?_
  all_goals
    rw [Lib.decDigits, dif_pos hd]
    have : d = 0 ∨ d = 1 ∨ d = 2 ∨ d = 3 ∨ d = 4 ∨ d = 5 ∨ d = 6 ∨ d = 7 ∨ d = 8 ∨ d = 9 := by omega
    rcases this with rfl | rfl | rfl | rfl | rfl | rfl | rfl | rfl | rfl | rfl <;> decide
end Go.Proofs.YtgdhepoffnpgiaaDoor
