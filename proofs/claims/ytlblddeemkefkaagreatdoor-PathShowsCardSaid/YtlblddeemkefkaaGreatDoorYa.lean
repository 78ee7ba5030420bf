/- The plain law of literals and digits: what Quote writes Unquote reads back; what Itoa writes place reads back. The plain law of PathBack: what Show writes Parse reads back. -/
import Derived.Test.YtlblddeemkefkaaGreatDoorKd
import Derived.Test.YtlblddeemkefkaaGreatDoorLr
import Derived.Lib.ItoaNum
import Derived.Lib.MapLaws
import Derived.Lib.ValidLaws
import Derived.Test.YtlblddeemkefkaaGreatDoorKi
namespace Go.Proofs.YtlblddeemkefkaaGreatDoor
set_option linter.unusedVariables false
set_option linter.unusedSimpArgs false
section
open Go.RowKit Go.Shelf
/-- The literal's inner text, over lists. -/
def quoD : Nat → List UInt8 → List UInt8
  | 0, _ => []
  | f + 1, l => if l = [] then [] else quoR (Lib.decodeL l).1 ++ quoD f (l.drop (Lib.decodeL l).2)
theorem quoF_eq (l : List UInt8) : ∀ (f pos : Nat), quoF ⟨l.toArray⟩ f pos = quoD f (l.drop pos)
  | 0, _ => rfl
  | f + 1, pos => by
    have hs : (⟨l.toArray⟩ : ByteArray).size = l.length := by simp [ByteArray.size]
    have hd : Utf8.decode ⟨l.toArray⟩ pos = Lib.decodeL (l.drop pos) := (Lib.decodeL_drop ⟨l.toArray⟩ pos).symm
    rw [quoF, quoD, hs, hd, quoF_eq l f]
    by_cases h : pos < l.length
    · rw [if_pos h, if_neg (by intro e; have := congrArg List.length e; rw [List.length_drop, List.length_nil] at this; omega), List.drop_drop]
    · rw [if_neg h, if_pos (List.drop_of_length_le (by omega))]
theorem quoL_eq (l : List UInt8) : quoL' l = 34 :: (quoD l.length l ++ [34]) := by
  unfold quoL'
  rw [quoF_eq, List.drop_zero]
theorem esc_table : ∀ r : Fin 128, (0 ≤ qIdx r.val ∧ r.val ≠ 47) → escV (mkL.getD (qIdx r.val).toNat 0) = (r.val : Int) := by decide +kernel
theorem hex_table : ∀ r : Fin 32, hexV (hxL.getD (r.val / 16) 0) = ((r.val / 16 : Nat) : Int) ∧ hexV (hxL.getD (r.val % 16) 0) = ((r.val % 16 : Nat) : Int) := by decide +kernel
theorem plain_table : ∀ r : Fin 128, ¬ (0 ≤ qIdx r.val ∧ r.val ≠ 47) → r.val ≠ 34 ∧ r.val ≠ 92 := by decide +kernel
theorem enc_one {r : Nat} (h : r < 128) : Lib.encodeRune (r : Int) = [r.toUInt8] := by
  unfold Lib.encodeRune
  rw [Lib.encodeRuneZ_one (by omega) (by omega)]
  simp
theorem u8_small {r : Nat} (h : r < 256) : r.toUInt8.toNat = r := by
  simp [Nat.toUInt8, UInt8.toNat_ofNat]; omega
/-- A rune that can be encoded. -/
def RuneOk (r : Nat) : Prop := r < 55296 ∨ (57343 < r ∧ r ≤ 1114111)
/-- A rune's own bytes, whatever follows. -/
theorem enc_done {r : Nat} (hr : RuneOk r) (rest : List UInt8) : ∃ (c : UInt8) (t : List UInt8), Lib.encodeRune (r : Int) = c :: t ∧ (r < 128 → c.toNat = r) ∧ (128 ≤ r → 128 ≤ c.toNat) ∧ longB c.toNat = (c :: t).length ∧
    DoneU (c :: (t ++ rest)).length (bat (c :: (t ++ rest)) 0) (bat (c :: (t ++ rest)) 1) (bat (c :: (t ++ rest)) 2) (bat (c :: (t ++ rest)) 3) ∧ runeN (bat (c :: (t ++ rest)) 0) (bat (c :: (t ++ rest)) 1) (bat (c :: (t ++ rest)) 2) (bat (c :: (t ++ rest)) 3) = r := by
  unfold RuneOk at hr
  by_cases h1 : r < 128
  · have hn := u8_small (show r < 256 by omega)
    have hb : bat (r.toUInt8 :: ([] ++ rest)) 0 = r := hn
    have hlb : longB r = 1 := by unfold longB; rw [if_pos h1]
    refine ⟨r.toUInt8, [], enc_one h1, fun _ => hn, fun h => by omega, by rw [hn, hlb]; rfl, ?_, ?_⟩
    · unfold DoneU
      rw [hb, hlb]
      refine ⟨by omega, by simp, fun h => by omega, fun h => by omega, fun h => by omega⟩
    · unfold runeN
      rw [hb, hlb, if_pos rfl]
  by_cases h2 : r ≤ 2047
  · have e : Lib.encodeRune (r : Int) = [(192 + r / 64).toUInt8, (128 + r % 64).toUInt8] := by
      unfold Lib.encodeRune
      rw [Lib.encodeRuneZ_two (by omega) (by omega)]
      rfl
    have n0 := u8_small (show 192 + r / 64 < 256 by omega)
    have n1 := u8_small (show 128 + r % 64 < 256 by omega)
    have hlb : longB (192 + r / 64) = 2 := by unfold longB; rw [if_neg (by omega), if_neg (by omega), if_pos (by omega)]
    have b0 : bat ((192 + r / 64).toUInt8 :: ([(128 + r % 64).toUInt8] ++ rest)) 0 = 192 + r / 64 := n0
    have b1 : bat ((192 + r / 64).toUInt8 :: ([(128 + r % 64).toUInt8] ++ rest)) 1 = 128 + r % 64 := n1
    refine ⟨_, _, e, fun h => by omega, fun _ => by omega, by rw [n0, hlb]; rfl, ?_, ?_⟩
    · unfold DoneU
      rw [b0, b1, hlb]
      refine ⟨by omega, by simp, fun _ => ?_, fun h => by omega, fun h => by omega⟩
      unfold loB hiB
      (repeat' split) <;> omega
    · unfold runeN
      rw [b0, b1, hlb, if_neg (by omega), if_pos rfl]
      omega
  by_cases h3 : r ≤ 65535
  · have e : Lib.encodeRune (r : Int) = [(224 + r / 4096).toUInt8, (128 + r / 64 % 64).toUInt8, (128 + r % 64).toUInt8] := by
      unfold Lib.encodeRune
      rw [Lib.encodeRuneZ_three (by omega)]
      rfl
    have n0 := u8_small (show 224 + r / 4096 < 256 by omega)
    have n1 := u8_small (show 128 + r / 64 % 64 < 256 by omega)
    have n2 := u8_small (show 128 + r % 64 < 256 by omega)
    have hlb : longB (224 + r / 4096) = 3 := by unfold longB; rw [if_neg (by omega), if_neg (by omega), if_neg (by omega), if_pos (by omega)]
    have b0 : bat ((224 + r / 4096).toUInt8 :: ([(128 + r / 64 % 64).toUInt8, (128 + r % 64).toUInt8] ++ rest)) 0 = 224 + r / 4096 := n0
    have b1 : bat ((224 + r / 4096).toUInt8 :: ([(128 + r / 64 % 64).toUInt8, (128 + r % 64).toUInt8] ++ rest)) 1 = 128 + r / 64 % 64 := n1
    have b2 : bat ((224 + r / 4096).toUInt8 :: ([(128 + r / 64 % 64).toUInt8, (128 + r % 64).toUInt8] ++ rest)) 2 = 128 + r % 64 := n2
    refine ⟨_, _, e, fun h => by omega, fun _ => by omega, by rw [n0, hlb]; rfl, ?_, ?_⟩
    · unfold DoneU
      rw [b0, b1, b2, hlb]
      refine ⟨by omega, by simp, fun _ => ?_, fun _ => by omega, fun h => by omega⟩
      unfold loB hiB
      (repeat' split) <;> omega
    · unfold runeN
      rw [b0, b1, b2, hlb, if_neg (by omega), if_neg (by omega), if_pos rfl]
      omega
  · have e : Lib.encodeRune (r : Int) = [(240 + r / 262144).toUInt8, (128 + r / 4096 % 64).toUInt8, (128 + r / 64 % 64).toUInt8, (128 + r % 64).toUInt8] := by
      unfold Lib.encodeRune
      rw [Lib.encodeRuneZ_four (by omega) (by omega)]
      rfl
    have n0 := u8_small (show 240 + r / 262144 < 256 by omega)
    have n1 := u8_small (show 128 + r / 4096 % 64 < 256 by omega)
    have n2 := u8_small (show 128 + r / 64 % 64 < 256 by omega)
    have n3 := u8_small (show 128 + r % 64 < 256 by omega)
    have hlb : longB (240 + r / 262144) = 4 := by unfold longB; rw [if_neg (by omega), if_neg (by omega), if_neg (by omega), if_neg (by omega), if_pos (by omega)]
    have b0 : bat ((240 + r / 262144).toUInt8 :: ([(128 + r / 4096 % 64).toUInt8, (128 + r / 64 % 64).toUInt8, (128 + r % 64).toUInt8] ++ rest)) 0 = 240 + r / 262144 := n0
    have b1 : bat ((240 + r / 262144).toUInt8 :: ([(128 + r / 4096 % 64).toUInt8, (128 + r / 64 % 64).toUInt8, (128 + r % 64).toUInt8] ++ rest)) 1 = 128 + r / 4096 % 64 := n1
    have b2 : bat ((240 + r / 262144).toUInt8 :: ([(128 + r / 4096 % 64).toUInt8, (128 + r / 64 % 64).toUInt8, (128 + r % 64).toUInt8] ++ rest)) 2 = 128 + r / 64 % 64 := n2
    have b3 : bat ((240 + r / 262144).toUInt8 :: ([(128 + r / 4096 % 64).toUInt8, (128 + r / 64 % 64).toUInt8, (128 + r % 64).toUInt8] ++ rest)) 3 = 128 + r % 64 := n3
    refine ⟨_, _, e, fun h => by omega, fun _ => by omega, by rw [n0, hlb]; rfl, ?_, ?_⟩
    · unfold DoneU
      rw [b0, b1, b2, b3, hlb]
      refine ⟨by omega, by simp, fun _ => ?_, fun _ => by omega, fun _ => by omega⟩
      unfold loB hiB
      (repeat' split) <;> omega
    · unfold runeN
      rw [b0, b1, b2, b3, hlb, if_neg (by omega), if_neg (by omega), if_neg (by omega)]
      omega
/-- The reference's reader over a rune's own bytes. -/
theorem rU_enc {r : Nat} (hr : RuneOk r) (hp : 32 ≤ r ∧ r ≠ 34 ∧ r ≠ 92) (f : Nat) (out : List UInt8) (i : Int) (rest : List UInt8) :
    rU (f + 1) out i (Lib.encodeRune (r : Int) ++ rest) = rU f (out ++ Lib.encodeRune (r : Int)) (i + (Lib.encodeRune (r : Int)).length) rest := by
  obtain ⟨c, t, e, k1, k2, k3, hd, -⟩ := enc_done hr rest
  rw [e]
  have hcr : c.toNat = r ∨ 128 ≤ c.toNat := by
    rcases Nat.lt_or_ge r 128 with h | h
    · exact .inl (k1 h)
    · exact .inr (k2 h)
  have c1 : c ≠ 34 := fun e => by have : c.toNat = 34 := by rw [e]; rfl
                                  omega
  have c2 : c ≠ 92 := fun e => by have : c.toNat = 92 := by rw [e]; rfl
                                  omega
  show rU (f + 1) out i (c :: (t ++ rest)) = _
  have hb : longB (bat (c :: (t ++ rest)) 0) = (c :: t).length := k3
  rw [rU, if_neg c1, if_neg (by omega), if_neg c2, if_pos hd, hb]
  have e : c :: (t ++ rest) = (c :: t) ++ rest := rfl
  rw [e, List.take_left, List.drop_left]
/-- The reader over a rune's spelling. -/
theorem rU_quoR {r : Nat} (hr : RuneOk r) (f : Nat) (out : List UInt8) (i : Int) (rest : List UInt8) :
    rU (f + 1) out i (quoR r ++ rest) = rU f (out ++ Lib.encodeRune (r : Int)) (i + (quoR r).length) rest := by
  by_cases hq : 0 ≤ qIdx r ∧ r ≠ 47
  · have h1 : r < 128 := by
      rcases Nat.lt_or_ge r 128 with h | h
      · exact h
      · have := hq.1
        unfold qIdx at this
        rw [if_neg (by omega)] at this
        omega
    have ht := esc_table ⟨r, h1⟩ hq
    dsimp only at ht
    have e : quoR r = [92, mkL.getD (qIdx r).toNat 0] := if_pos hq
    rw [e]
    generalize mkL.getD (qIdx r).toNat 0 = m at *
    show rU (f + 1) out i (92 :: m :: rest) = _
    rw [rU, if_neg (by decide), if_neg (by decide), if_pos rfl]
    have hE : rEsc (m :: rest) = .ok ([(escV m).toNat.toUInt8], 1) := by
      unfold rEsc
      dsimp only
      rw [if_pos (by omega)]
    rw [hE]
    dsimp only
    rw [ht, enc_one h1, Int.toNat_natCast]
    rw [show i + 1 + ((1 : Nat) : Int) = i + (([92, m] : List UInt8).length : Int) by simp; omega]
    rfl
  by_cases h32 : r < 32
  · obtain ⟨ht1, ht2⟩ := hex_table ⟨r, h32⟩
    dsimp only at ht1 ht2
    have e : quoR r = [92, 117, 48, 48, hxL.getD (r / 16) 0, hxL.getD (r % 16) 0] := by unfold quoR; rw [if_neg hq, if_pos h32]
    rw [e]
    generalize hxL.getD (r / 16) 0 = m1 at *
    generalize hxL.getD (r % 16) 0 = m2 at *
    show rU (f + 1) out i (92 :: 117 :: 48 :: 48 :: m1 :: m2 :: rest) = _
    rw [rU, if_neg (by decide), if_neg (by decide), if_pos rfl]
    have h48 : hexV 48 = 0 := by decide
    have hF : rF false 4 0 (48 :: 48 :: m1 :: m2 :: rest) 0 = .ok (r : Int) := by
      rw [rF, h48, if_neg (by omega), if_neg (by simp), rF, h48, if_neg (by omega), if_neg (by simp), rF, ht1, if_neg (by omega), if_neg (by simp), rF, ht2, if_neg (by omega), if_neg (by simp), rF]
      congr 1
      omega
    have hE : rEsc (117 :: 48 :: 48 :: m1 :: m2 :: rest) = .ok (Lib.encodeRune (r : Int), 5) := by
      unfold rEsc
      dsimp only
      rw [if_neg (by decide), if_neg (by decide), hF]
      dsimp only
      rw [if_neg (by omega)]
    rw [hE]
    dsimp only
    rw [show i + 1 + ((5 : Nat) : Int) = i + (([92, 117, 48, 48, m1, m2] : List UInt8).length : Int) by simp; omega]
    rfl
  · have e : quoR r = Lib.encodeRune (r : Int) := by unfold quoR; rw [if_neg hq, if_neg h32]
    rw [e]
    refine rU_enc hr ⟨by omega, ?_⟩ f out i rest
    by_cases h1 : r < 128
    · exact plain_table ⟨r, h1⟩ hq
    · omega
theorem quoR_pos (r : Nat) : 1 ≤ (quoR r).length := by
  unfold quoR
  split
  · simp
  · split
    · simp
    · unfold Lib.encodeRune
      rw [List.length_map]
      exact (Lib.encodeRuneZ_length (r : Int)).1
theorem decL_valid (l : List UInt8) : RuneOk (Lib.decodeL l).1 := dec_valid _ _
theorem rU_quoD : ∀ (g : Nat) (l : List UInt8) (f : Nat) (out : List UInt8) (i : Int) (rest : List UInt8), Lib.validD l = true → l.length ≤ g → (quoD g l).length + 1 ≤ f →
    rU f out i (quoD g l ++ 34 :: rest) = (out ++ l, i + (quoD g l).length + 1, 0, 0)
  | 0, l, f, out, i, rest, _, hl, hf => by
    have : l = [] := List.eq_nil_of_length_eq_zero (by omega)
    subst this
    obtain ⟨f, rfl⟩ : ∃ k, f = k + 1 := ⟨f - 1, by omega⟩
    show rU (f + 1) out i (34 :: rest) = _
    rw [rU, if_pos rfl]
    simp [quoD]
  | g + 1, l, f, out, i, rest, hv, hl, hf => by
    obtain ⟨f, rfl⟩ : ∃ k, f = k + 1 := ⟨f - 1, by omega⟩
    by_cases hne : l = []
    · subst hne
      rw [quoD, if_pos rfl]
      show rU (f + 1) out i (34 :: rest) = _
      rw [rU, if_pos rfl]
      simp
    · rw [Lib.validD_step l hne] at hv
      by_cases hb : (Lib.decodeL l).1 = 65533 ∧ (Lib.decodeL l).2 = 1
      · rw [if_pos hb] at hv; cases hv
      rw [if_neg hb] at hv
      have henc := Lib.encode_decode l hne hb
      have hw := Lib.decodeL_width l
      have hpos : 0 < l.length := List.length_pos_iff.2 hne
      rw [quoD, if_neg hne, List.length_append] at hf
      have hq := quoR_pos (Lib.decodeL l).1
      rw [quoD, if_neg hne, List.append_assoc, rU_quoR (decL_valid l), rU_quoD g _ f _ _ rest hv (by rw [List.length_drop]; omega) (by omega), henc, List.append_assoc, List.take_append_drop, List.length_append]
      refine Prod.ext rfl (Prod.ext ?_ rfl)
      dsimp only
      push_cast
      omega
/-- What Quote writes Unquote reads back. -/
theorem unq_quo (l rest : List UInt8) (hv : Lib.validD l = true) : unqM (quoL' l ++ rest) = (l, ((quoL' l).length : Int), 0, 0) := by
  rw [← rUnq_eq, quoL_eq]
  show rUnq (34 :: ((quoD l.length l ++ [34]) ++ rest)) = _
  unfold rUnq
  dsimp only
  rw [if_neg (by decide), List.append_assoc]
  show rU _ [] 1 (quoD l.length l ++ 34 :: rest) = _
  rw [rU_quoD l.length l _ [] 1 rest hv (Nat.le_refl _) (by simp only [List.length_append, List.length_cons]; omega)]
  refine Prod.ext rfl (Prod.ext ?_ rfl)
  simp only [List.length_cons, List.length_append, List.length_nil]
  push_cast
  omega
end
section
open Go.RowKit Go.Shelf
theorem valU_snoc (l : List UInt8) (c : UInt8) : valU (l ++ [c]) = 10 * valU l + (c.toNat - 48) := by
  unfold valU; rw [List.foldl_append]; rfl
theorem dig_byte {k : Nat} (h : k < 10) : (UInt8.ofNat (48 + k)).toNat = 48 + k := by
  simp [UInt8.toNat_ofNat]; omega
theorem dig_digB {k : Nat} (h : k < 10) : digB (UInt8.ofNat (48 + k)) = true := by
  unfold digB; rw [dig_byte h]; simp; omega
theorem dec_facts : ∀ (n u : Nat), u ≤ n → valU (Lib.decDigits u) = u ∧ (∀ c ∈ Lib.decDigits u, digB c = true) ∧ Lib.decDigits u ≠ [] ∧ (0 < u → (Lib.decDigits u).getD 0 0 ≠ 48)
  | 0, u, h => by
    obtain rfl : u = 0 := by omega
    rw [Lib.decDigits, dif_pos (by omega)]
    refine ⟨rfl, by decide, by simp, fun h => by omega⟩
  | n + 1, u, h => by
    by_cases h10 : u < 10
    · rw [Lib.decDigits, dif_pos h10]
      refine ⟨?_, fun c hc => ?_, by simp, fun hu => ?_⟩
      · have := valU_snoc [] (UInt8.ofNat (48 + u))
        rw [List.nil_append, dig_byte h10] at this
        rw [this]
        show 10 * 0 + _ = _
        omega
      · rw [List.mem_singleton] at hc; rw [hc]; exact dig_digB h10
      · intro e
        have := congrArg UInt8.toNat (show UInt8.ofNat (48 + u) = 48 from e)
        rw [dig_byte h10] at this
        have h48 : (48 : UInt8).toNat = 48 := rfl
        omega
    · rw [Lib.decDigits, dif_neg h10]
      obtain ⟨h1, h2, h3, h4⟩ := dec_facts n (u / 10) (by omega)
      have hm : u % 10 < 10 := Nat.mod_lt _ (by decide)
      refine ⟨?_, fun c hc => ?_, by simp, fun hu => ?_⟩
      · rw [valU_snoc, h1, dig_byte hm]; omega
      · rcases List.mem_append.1 hc with hc | hc
        · exact h2 c hc
        · rw [List.mem_singleton] at hc; rw [hc]; exact dig_digB hm
      · have h5 := h4 (by omega)
        obtain ⟨x, t, e⟩ := List.exists_cons_of_ne_nil h3
        rw [e] at h5 ⊢
        exact h5
theorem nDig_le : ∀ (k u : Nat), u < 10 ^ (k + 1) → Lib.nDigits u ≤ k + 1
  | 0, u, h => by rw [Lib.nDigits_small (by simpa using h)]; exact Nat.le_refl _
  | k + 1, u, h => by
    by_cases h10 : u < 10
    · rw [Lib.nDigits_small h10]; omega
    · rw [Lib.nDigits_big h10]
      have := nDig_le k (u / 10) (by rw [Nat.pow_succ] at h; omega)
      omega
theorem digs_of (D t : List UInt8) (c : UInt8) (h : ∀ x ∈ D, digB x = true) (hc : digB c = false) : digs (D ++ c :: t) = D.length := by
  unfold digs
  rw [List.takeWhile_append_of_pos h, List.takeWhile_cons, hc]
  simp
/-- An index's digits read as that index. -/
theorem place_back (pre rest : List UInt8) (n : Nat) (hn : n ≤ 999999999) :
    placeM (pre ++ (Lib.decDigits n ++ 93 :: rest)) pre.length = (([], (n : Int), false), ((pre.length + (Lib.decDigits n).length : Nat) : Int), 0, 0) := by
  obtain ⟨h1, h2, h3, h4⟩ := dec_facts n n (Nat.le_refl _)
  have hd : (pre ++ (Lib.decDigits n ++ 93 :: rest)).drop pre.length = Lib.decDigits n ++ 93 :: rest := List.drop_left
  have hg : (pre ++ (Lib.decDigits n ++ 93 :: rest)).getD pre.length 0 = (Lib.decDigits n ++ 93 :: rest).getD 0 0 := by
    have := Lib.getD_dropU (pre ++ (Lib.decDigits n ++ 93 :: rest)) pre.length 0
    rw [Nat.add_zero, hd] at this
    exact this.symm
  have hl := Lib.decDigits_length n
  have h9 := nDig_le 8 n (by omega)
  unfold placeM
  rw [hd, digs_of _ rest 93 h2 (by decide), hg, if_neg, List.take_left, h1]
  rintro (⟨a, b⟩ | a)
  · by_cases h0 : n = 0
    · subst h0
      rw [hl, Lib.nDigits_small (by omega)] at b
      omega
    · have h5 := h4 (by omega)
      obtain ⟨x, t, e⟩ := List.exists_cons_of_ne_nil h3
      rw [e] at h5 a
      exact h5 a
  · omega
theorem getD_at (pre : List UInt8) (c : UInt8) (t : List UInt8) : (pre ++ c :: t).getD pre.length 0 = c := by
  have := Lib.getD_dropU (pre ++ c :: t) pre.length 0
  rw [Nat.add_zero, List.drop_left] at this
  exact this.symm
theorem endM_ok {l : List UInt8} {s : PS} {e : Nat} {y : Int} (h1 : e < l.length) (h2 : l.getD e 0 = 93) : endM l (s, (e : Int), y, 0) = (s, (e : Int), y, 0) := by
  unfold endM
  rw [if_neg]
  rintro ⟨-, h | h⟩
  · dsimp only at h; omega
  · exact h h2
/-- A step's text reads as that step. -/
theorem step_back (pre rest : List UInt8) (s : PS) (cnt : Nat) (hc : cnt ≠ 64) (hs : stepOK s = true) :
    endM (pre ++ (stepT s ++ rest)) (oneM (pre ++ (stepT s ++ rest)) pre.length cnt) = (s, ((pre.length + (stepT s).length - 1 : Nat) : Int), 0, 0) := by
  obtain ⟨key, at_, by_⟩ := s
  have form : ∀ X : List UInt8, stepT (key, at_, by_) = 91 :: (X ++ [93]) → pre ++ (stepT (key, at_, by_) ++ rest) = (pre ++ [91]) ++ (X ++ 93 :: rest) ∧ pre.length + (stepT (key, at_, by_)).length - 1 = (pre ++ [91]).length + X.length := by
    intro X hX
    rw [hX]
    refine ⟨by simp, by simp; omega⟩
  have h91 : ∀ Y : List UInt8, ((pre ++ [91]) ++ Y).getD pre.length 0 = 91 := by
    intro Y
    rw [List.append_assoc]
    exact getD_at pre 91 Y
  have hend : ∀ X : List UInt8, ((pre ++ [91]) ++ (X ++ 93 :: rest)).getD ((pre ++ [91]).length + X.length) 0 = 93 := by
    intro X
    have := getD_at ((pre ++ [91]) ++ X) 93 rest
    rwa [List.length_append, List.append_assoc] at this
  have hlen : ∀ X : List UInt8, (pre ++ [91]).length + X.length < ((pre ++ [91]) ++ (X ++ 93 :: rest)).length := by
    intro X
    simp
    omega
  have hp1 : pre.length + 1 = (pre ++ [91]).length := by simp
  cases by_
  · have hX : stepT (key, at_, false) = 91 :: (Lib.itoa at_ ++ [93]) := by simp [stepT]
    obtain ⟨e1, e2⟩ := form _ hX
    rw [e1, e2]
    simp only [stepOK, Bool.false_eq_true, if_false, Bool.and_eq_true, decide_eq_true_eq, List.isEmpty_iff] at hs
    obtain ⟨rfl, h0, h9⟩ := hs
    obtain ⟨n, rfl⟩ : ∃ n : Nat, at_ = (n : Int) := ⟨at_.toNat, by omega⟩
    rw [Lib.itoa_nonneg]
    obtain ⟨h1, h2, h3, -⟩ := dec_facts n n (Nat.le_refl _)
    have hfirst : ((pre ++ [91]) ++ (Lib.decDigits n ++ 93 :: rest)).getD (pre ++ [91]).length 0 = (Lib.decDigits n).getD 0 0 := by
      obtain ⟨x, t, e⟩ := List.exists_cons_of_ne_nil h3
      rw [e]
      exact getD_at (pre ++ [91]) x (t ++ 93 :: rest)
    have hdig : digB ((Lib.decDigits n).getD 0 0) = true := by
      obtain ⟨x, t, e⟩ := List.exists_cons_of_ne_nil h3
      rw [e] at h2 ⊢
      exact h2 x (by simp)
    unfold oneM
    rw [if_neg hc, if_neg (fun h => h (h91 _)), hp1, hfirst, if_pos ⟨by have := hlen (Lib.decDigits n); omega, hdig⟩, place_back _ _ n (by omega)]
    exact endM_ok (hlen _) (hend _)
  · have hX : stepT (key, at_, true) = 91 :: (quoL' key ++ [93]) := by simp [stepT]
    obtain ⟨e1, e2⟩ := form _ hX
    rw [e1, e2]
    simp only [stepOK, if_true, Bool.and_eq_true, decide_eq_true_eq, beq_iff_eq] at hs
    obtain ⟨⟨hv, hk⟩, rfl⟩ := hs
    have hfirst : ((pre ++ [91]) ++ (quoL' key ++ 93 :: rest)).getD (pre ++ [91]).length 0 = 34 := by
      rw [quoL_eq]
      exact getD_at (pre ++ [91]) 34 ((quoD key.length key ++ [34]) ++ 93 :: rest)
    have hd : ((pre ++ [91]) ++ (quoL' key ++ 93 :: rest)).drop (pre ++ [91]).length = quoL' key ++ 93 :: rest := List.drop_left
    unfold oneM
    rw [if_neg hc, if_neg (fun h => h (h91 _)), hp1, hfirst, if_neg (fun h => by have := h.2; revert this; decide), if_pos ⟨by have := hlen (quoL' key); omega, rfl⟩]
    unfold nameM
    rw [hd, unq_quo key _ hv]
    dsimp only
    rw [if_neg (by decide), if_neg (by unfold keyE; rw [if_neg (by omega)]; decide), ← Int.natCast_add]
    exact endM_ok (hlen _) (hend _)
theorem stepT_pos (s : PS) : 2 ≤ (stepT s).length := by
  unfold stepT
  simp only [List.length_cons, List.length_append, List.length_nil]
  omega
theorem parse_back : ∀ (p : List PS) (pre : List UInt8) (acc : List PS) (f : Nat), p.all stepOK = true → acc.length + p.length ≤ 64 → (p.flatMap stepT).length + 1 ≤ f →
    parseF (pre ++ p.flatMap stepT) f pre.length acc = (acc ++ p, 0, 0)
  | [], pre, acc, f, _, _, hf => by
    obtain ⟨f, rfl⟩ : ∃ k, f = k + 1 := ⟨f - 1, by omega⟩
    rw [parseF, if_neg (by simp)]
    simp
  | s :: p, pre, acc, f, ho, hc, hf => by
    obtain ⟨f, rfl⟩ : ∃ k, f = k + 1 := ⟨f - 1, by omega⟩
    rw [List.all_cons, Bool.and_eq_true] at ho
    have h2 := stepT_pos s
    rw [List.flatMap_cons, List.length_append] at hf
    rw [List.length_cons] at hc
    have hst := step_back pre (p.flatMap stepT) s acc.length (by omega) ho.1
    rw [List.flatMap_cons, parseF, if_pos (by simp only [List.length_append]; omega), hst]
    dsimp only
    rw [if_neg (by decide), Int.toNat_natCast, show pre.length + (stepT s).length - 1 + 1 = (pre ++ stepT s).length by rw [List.length_append]; omega, ← List.append_assoc,
      parse_back p (pre ++ stepT s) (acc ++ [s]) f ho.2 (by rw [List.length_append, List.length_cons, List.length_nil]; omega) (by omega), List.append_assoc]
    rfl
/-- What Show writes Parse reads back. -/
theorem parse_show (p : List PS) (h : (showM p).2 = 0) : parseM (showM p).1 = (p, 0, 0) := by
  unfold showM at h ⊢
  by_cases h64 : 64 < p.length
  · rw [if_pos h64] at h; cases h
  rw [if_neg h64] at h ⊢
  by_cases ho : p.all stepOK = true
  · rw [if_pos ho]
    exact parse_back p [] [] _ ho (by simp; omega) (Nat.le_refl _)
  · rw [if_neg ho] at h; cases h
theorem show_err (p : List PS) (h : (showM p).2 ≠ 0) : (showM p).1 = [] := by
  unfold showM at h ⊢
  by_cases h64 : 64 < p.length
  · rw [if_pos h64]
  rw [if_neg h64] at h ⊢
  by_cases ho : p.all stepOK = true
  · rw [if_pos ho] at h; exact absurd rfl h
  · rw [if_neg ho]
end
end Go.Proofs.YtlblddeemkefkaaGreatDoor
