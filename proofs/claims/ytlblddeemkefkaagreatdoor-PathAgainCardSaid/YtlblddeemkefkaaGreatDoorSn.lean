/- The walk of accordionlaw08.PathAgain. -/
import Derived.Test.YtlblddeemkefkaaGreatDoorSm
import Derived.Test.YtlblddeemkefkaaGreatDoorYd
import Derived.Test.YtlblddeemkefkaaGreatDoorShelf
namespace Go.Proofs.YtlblddeemkefkaaGreatDoor
set_option linter.unusedVariables false
set_option linter.unusedSimpArgs false
section
open Go.RowKit Go.Shelf
theorem quoR_ge (r : Nat) : (Lib.encodeRune (r : Int)).length ≤ (quoR r).length := by
  unfold quoR
  split
  · rename_i h
    have h1 : r < 128 := by
      rcases Nat.lt_or_ge r 128 with h2 | h2
      · exact h2
      · have := h.1
        unfold qIdx at this
        rw [if_neg (by omega)] at this
        omega
    rw [enc_one h1]
    simp
  · split
    · rename_i h
      rw [enc_one (by omega)]
      simp
    · exact Nat.le_refl _
theorem quoD_ge : ∀ (g : Nat) (l : List UInt8), Lib.validD l = true → l.length ≤ g → l.length ≤ (quoD g l).length
  | 0, l, _, h => by omega
  | g + 1, l, hv, hl => by
    by_cases hne : l = []
    · subst hne; simp
    · rw [Lib.validD_step l hne] at hv
      by_cases hb : (Lib.decodeL l).1 = 65533 ∧ (Lib.decodeL l).2 = 1
      · rw [if_pos hb] at hv; cases hv
      rw [if_neg hb] at hv
      have henc := Lib.encode_decode l hne hb
      have hw := Lib.decodeL_width l
      have hd := Lib.decodeL_le l hne
      have hpos : 0 < l.length := List.length_pos_iff.2 hne
      have h1 := quoD_ge g (l.drop (Lib.decodeL l).2) hv (by rw [List.length_drop]; omega)
      have h2 := quoR_ge (Lib.decodeL l).1
      rw [henc, List.length_take] at h2
      rw [List.length_drop] at h1
      rw [quoD, if_neg hne, List.length_append]
      omega
theorem key_le {k : List UInt8} (h : Lib.validD k = true) : k.length ≤ (quoL' k).length := by
  rw [quoL_eq, List.length_cons, List.length_append]
  have := quoD_ge k.length k h (Nat.le_refl _)
  omega
theorem flat_mem : ∀ {p : List PS} {s : PS}, s ∈ p → (stepT s).length ≤ (p.flatMap stepT).length
  | x :: p, s, h => by
    rw [List.flatMap_cons, List.length_append]
    rcases List.mem_cons.1 h with rfl | h
    · omega
    · have := flat_mem h
      omega
/-- What a path that shows within 600 bytes is made of. -/
theorem show_small {p : List PS} (h : (showM p).2 = 0) (hl : (showM p).1.length ≤ 600) : ∀ s ∈ p, s.1.length ≤ 600 ∧ -9223372036854775808 ≤ s.2.1 ∧ s.2.1 ≤ 9223372036854775807 := by
  unfold showM at h hl
  by_cases h64 : 64 < p.length
  · rw [if_pos h64] at h; cases h
  rw [if_neg h64] at h hl
  by_cases ho : p.all stepOK = true
  · rw [if_pos ho] at hl
    intro s hs
    have hok := List.all_eq_true.1 ho s hs
    have hm := flat_mem hs
    dsimp only at hl
    obtain ⟨key, at_, by_⟩ := s
    cases by_
    · simp only [stepOK, Bool.false_eq_true, if_false, Bool.and_eq_true, decide_eq_true_eq, List.isEmpty_iff] at hok
      obtain ⟨rfl, h0, h9⟩ := hok
      exact ⟨by simp, by dsimp only; omega, by dsimp only; omega⟩
    · simp only [stepOK, if_true, Bool.and_eq_true, decide_eq_true_eq, beq_iff_eq] at hok
      obtain ⟨⟨hv, -⟩, rfl⟩ := hok
      have hk := key_le hv
      have hT : stepT (key, 0, true) = 91 :: (quoL' key ++ [93]) := by simp [stepT]
      rw [hT, List.length_cons, List.length_append] at hm
      exact ⟨by dsimp only; omega, by dsimp only; omega, by dsimp only; omega⟩
  · rw [if_neg ho] at h; cases h
theorem ib_mem : ∀ (l : List UInt8) (c : UInt8), c ∈ l → 0 ≤ Lib.indexByte l c
  | b :: l, c, h => by
    rw [Lib.indexByte]
    by_cases hb : (b == c) = true
    · rw [if_pos hb]; exact Int.le_refl _
    · rw [if_neg hb]
      have hm : c ∈ l := by
        rcases List.mem_cons.1 h with rfl | h
        · simp at hb
        · exact h
      have := ib_mem l c hm
      rw [if_neg (by simp; omega)]
      omega
theorem no_back {l : List UInt8} (h : ¬ 0 ≤ Lib.indexByte l 92) : 92 ∉ l := fun hm => h (ib_mem l 92 hm)
set_option maxRecDepth 100000 in
set_option maxHeartbeats 8000000 in
theorem pathAgain_any (s : List UInt8) (w : World) (hs : s.length ≤ 9223372036854775807) (hT : ShowTabs w) :
    Calls Tryz.prog 11 #[strV s] w fun e w' => e = .returned (.bool true) ∧ Below w.heap.size w w' := by
  have HSH := Lib.hid (short_any s 600 hs (by omega) w)
  have hl : (s.take 600).length ≤ 600 := by rw [List.length_take]; omega
  generalize s.take 600 = l at *
  clear hs
  have HPA := Lib.hid (parse_any l w (by omega) ⟨hT.1, hT.2.1, hT.2.2.1⟩)
  have HW := Lib.hid (fun (V : World) (hV : LW w V) => works_any w V hV)
  have HLT := Lib.hid hT
  obtain ⟨⟨p, n, e⟩, hm⟩ : ∃ x, parseM l = x := ⟨_, rfl⟩
  have HAG := Lib.hid (parse_again l hm)
  rw [hm] at HPA
  unfold ParsePost at HPA
  dsimp only at HPA
  unfold strV at HSH HPA ⊢
  clear hm hT
  by_cases he : e = 0
  · subst he
    obtain ⟨-, hn, hsh, hle, hbk⟩ := HAG.out.resolve_right (fun h => h.1 rfl)
    subst hn
    have HSM := Lib.hid (show_small hsh (by omega))
    have HPS := Lib.hid (parse_show p hsh)
    obtain ⟨⟨t, er⟩, hst⟩ : ∃ x, showM p = x := ⟨_, rfl⟩
    rw [hst] at hsh hle hbk HPS
    dsimp only at hsh hle hbk HPS
    subst hsh
    have HST := Lib.hid hst
    have HBK := Lib.hid hbk
    have HLE := Lib.hid hle
    have hlt : (t.length : Int) ≤ (l.length : Int) := by omega
    clear HAG hst hbk hle
    go_enter Tryz.func11, Tryz.ntmps11
    go_wp2_with (go_at_call 18; refine HSH.out.mono ?_; rintro e w1 ⟨rfl, rfl⟩)
    refine HPA.out.mono ?_
    rintro e w1 ⟨⟨A1, c1, rfl, hS⟩, h1⟩
    have H1 := Lib.hid ((show LW w w from ⟨Below.refl _ _, HLT.out⟩).next h1)
    have HQ := Lib.hid hS
    have HSW := Lib.hid (show_any p w1 A1 c1 hS.rd HSM.out H1.out.t)
    rw [HST.out] at HSW
    unfold strV at HSW
    dsimp only at HSW
    clear h1 hS HPA HSM
    go_wp2_with fail
    refine HSW.out.mono ?_
    rintro e w2 ⟨rfl, h2⟩
    have H2 := Lib.hid (H1.out.next h2)
    have HQ2 := Lib.hid (HQ.out.below h2)
    have HPP := Lib.hid (parse_any t w2 (by have := HLE.out; omega) H2.out.nam)
    rw [HPS.out] at HPP
    unfold ParsePost at HPP
    unfold strV at HPP
    dsimp only at HPP
    clear h2 H1 HQ HSW
    go_wp2_with fail
    refine HPP.out.mono ?_
    rintro e w3 ⟨⟨A3, c3, rfl, hS3⟩, h3⟩
    have H3 := Lib.hid (H2.out.next h3)
    have HE := Lib.hid (eqsteps_any p p A1 A3 c1 c3 w3 (HQ2.out.below h3).rd hS3.rd)
    rw [decide_eq_true (rfl : p = p)] at HE
    clear h3 H2 HPP hS3 HQ2
    generalize p.length = m at *
    go_wp2_with fail
    refine HE.out.mono ?_
    rintro e w4 ⟨rfl, h4⟩
    have H4 := Lib.hid (H3.out.next h4)
    have HCT := Lib.hid (Tryz.strings_Contains_one ⟨l.toArray⟩ 92 w4)
    have HW4 := Lib.hid (HW.out w4 H4.out)
    clear h4 H3 HE
    have hsz : (⟨t.toArray⟩ : ByteArray).size = t.length := by simp [ByteArray.size]
    have hsl : (⟨l.toArray⟩ : ByteArray).size = l.length := by simp [ByteArray.size]
    by_cases hb : 0 ≤ Lib.indexByte l 92
    · have HC1 := Lib.hid (show Calls Tryz.prog 33 #[.string ⟨l.toArray⟩, .string ⟨#[92]⟩] w4 fun e w' => e = .returned (.bool true) ∧ w' = w4 by
        have := HCT.out
        rwa [decide_eq_true hb] at this)
      clear HCT hb
      go_wp2_with (go_at_call 33; refine HC1.out.mono ?_; rintro e w5 ⟨rfl, rfl⟩)
      refine HW4.out.mono ?_
      rintro e w5 ⟨rfl, h5⟩
      have H5 := Lib.hid h5
      clear h5
      go_wp2_with fail
      go_ret
      exact ⟨rfl, H5.out.b⟩
    · have HC1 := Lib.hid (show Calls Tryz.prog 33 #[.string ⟨l.toArray⟩, .string ⟨#[92]⟩] w4 fun e w' => e = .returned (.bool false) ∧ w' = w4 by
        have := HCT.out
        rwa [decide_eq_false hb] at this)
      have htl := HBK.out (no_back hb)
      subst htl
      clear HCT hb
      go_wp2_with (go_at_call 33; refine HC1.out.mono ?_; rintro e w5 ⟨rfl, rfl⟩)
      refine HW4.out.mono ?_
      rintro e w5 ⟨rfl, h5⟩
      have H5 := Lib.hid h5
      clear h5
      go_wp2_with fail
      go_ret
      exact ⟨rfl, H5.out.b⟩
  · obtain ⟨-, hp, hn0, hnl⟩ := HAG.out.resolve_left (fun h => he h.1)
    subst hp
    have he2 : (e == 0) = false := by simpa using he
    have hsl : (⟨l.toArray⟩ : ByteArray).size = l.length := by simp [ByteArray.size]
    clear HAG he
    go_enter Tryz.func11, Tryz.ntmps11
    go_wp2_with (go_at_call 18; refine HSH.out.mono ?_; rintro e w1 ⟨rfl, rfl⟩)
    refine HPA.out.mono ?_
    rintro e w1 ⟨⟨A1, c1, rfl, hS⟩, h1⟩
    have H1 := Lib.hid ((show LW w w from ⟨Below.refl _ _, HLT.out⟩).next h1)
    have HW1 := Lib.hid (HW.out w1 H1.out)
    clear h1 hS HPA
    go_wp2_with fail
    refine HW1.out.mono ?_
    rintro e w5 ⟨rfl, h5⟩
    have H5 := Lib.hid h5
    clear h5
    go_wp2_with fail
    go_ret
    exact ⟨rfl, H5.out.b⟩
end
end Go.Proofs.YtlblddeemkefkaaGreatDoor
