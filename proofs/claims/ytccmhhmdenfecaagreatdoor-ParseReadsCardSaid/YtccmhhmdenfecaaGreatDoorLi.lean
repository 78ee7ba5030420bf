/- Plain laws of the reader of a literal: what it keeps from byte to byte. No program here. The walks of utf.reader's take and of utf.Unquote. -/
import Derived.Test.YtccmhhmdenfecaaGreatDoorLu
import Derived.Test.YtccmhhmdenfecaaGreatDoorLh
import Derived.Test.YtccmhhmdenfecaaGreatDoorLb
import Derived.Deep.LoopGhost
namespace Go.Proofs.YtccmhhmdenfecaaGreatDoor
set_option linter.unusedVariables false
set_option linter.unusedSimpArgs false
set_option linter.unusedSectionVars false
section
/-- What the reader keeps while it reads. -/
structure QInv (Q : UQ) : Prop where
  st : Q.st = 0 ∨ Q.st = 1 ∨ Q.st = 2 ∨ Q.st = 3 ∨ Q.st = 4 ∨ Q.st = 5 ∨ Q.st = 6
  ru : Q.ru.length ≤ 3
  mn : Q.st = 3 ∨ Q.st = 6 → (Q.many = 0 ∧ Q.n = 0) ∨ (Q.many = 1 ∧ 0 ≤ Q.n ∧ Q.n ≤ 15) ∨ (Q.many = 2 ∧ 0 ≤ Q.n ∧ Q.n ≤ 255) ∨ (Q.many = 3 ∧ 0 ≤ Q.n ∧ Q.n ≤ 4095)
  first : Q.st = 4 ∨ Q.st = 5 ∨ Q.st = 6 → 55296 ≤ Q.first ∧ Q.first ≤ 56319
theorem qinv0 : QInv uq0 := ⟨.inl rfl, by decide, (fun h => by simp [uq0] at h), (fun h => by simp [uq0] at h)⟩
theorem enc_le (x : Int) : (Lib.encodeRune x).length ≤ 4 := by
  have := (Lib.runeCells_le x).2
  rwa [Lib.runeCells_length] at this
theorem hexV_bd2 (c : UInt8) : -1 ≤ hexV c ∧ hexV c ≤ 15 := by
  have := c.toNat_lt
  unfold hexV
  (repeat' split) <;> omega
/-- An incomplete encoding that is not full has three bytes at most. -/
theorem part_short {l : List UInt8} (h : l ≠ []) (hU : isU l = false) (hF : fullU l = false) : l.length ≤ 3 := by
  have hd : ¬ DoneU l.length (bat l 0) (bat l 1) (bat l 2) (bat l 3) := fun hd => by rw [(isU_iff h).2 hd] at hU; cases hU
  have hp := (full_iff h hd).1 hF
  have h4 : longB (bat l 0) ≤ 4 := by unfold longB; (repeat' split) <;> omega
  have := hp.1
  omega
theorem plain_inv {Q Q' : UQ} {c : UInt8} (hI : QInv Q) (hs : Q.st = 1) (h : plainQ Q c = .ok Q') : QInv Q' ∧ Q'.st = 1 ∧ Q'.out.length ≤ Q.out.length + 4 := by
  unfold plainQ at h
  have hl : (Q.ru ++ [c]).length ≤ 4 := by have := hI.ru; simp; omega
  by_cases hU : isU (Q.ru ++ [c]) = true
  · rw [if_pos hU] at h
    cases h
    refine ⟨⟨by simp [hs], by simp, fun h => by simp [hs] at h, fun h => by simp [hs] at h⟩, hs, ?_⟩
    have : ((Q.ru ++ [c]).take (decL (Q.ru ++ [c])).2).length ≤ (Q.ru ++ [c]).length := List.length_take_le' _ _
    simp only [List.length_append] at this ⊢
    simp only [List.length_append] at hl
    omega
  · rw [if_neg hU] at h
    by_cases hF : fullU (Q.ru ++ [c]) = true
    · rw [if_pos hF] at h; cases h
    · rw [if_neg hF] at h
      cases h
      refine ⟨⟨by simp [hs], ?_, fun h => by simp [hs] at h, fun h => by simp [hs] at h⟩, hs, by simp⟩
      exact part_short (by simp) (by simpa using hU) (by simpa using hF)
theorem take_inv {Q Q' : UQ} {c : UInt8} (hI : QInv Q) (h : takeQ Q c = .ok Q') (h7 : Q'.st ≠ 7) : QInv Q' ∧ Q'.out.length ≤ Q.out.length + 4 := by
  have hk := hexV_bd2 c
  have hru := hI.ru
  unfold takeQ at h
  by_cases s0 : Q.st = 0
  · rw [if_pos s0] at h
    unfold wantQ at h
    split at h
    · cases h; exact ⟨⟨by simp, hru, fun h => by simp at h, fun h => by simp at h⟩, by simp⟩
    · cases h
  rw [if_neg s0] at h
  by_cases s1 : Q.st = 1
  · rw [if_pos s1] at h
    unfold beginQ at h
    split at h
    · obtain ⟨a, b, d⟩ := plain_inv hI s1 h; exact ⟨a, d⟩
    · split at h
      · cases h; exact absurd rfl h7
      · split at h
        · cases h; exact ⟨⟨by simp, hru, fun h => by simp at h, fun h => by simp at h⟩, by simp⟩
        · split at h
          · cases h
          · obtain ⟨a, b, d⟩ := plain_inv hI s1 h; exact ⟨a, d⟩
  rw [if_neg s1] at h
  by_cases s2 : Q.st = 2
  · rw [if_pos s2] at h
    unfold escapeQ at h
    split at h
    · cases h
      have := enc_le (escV c)
      exact ⟨⟨by simp [putQ], hru, fun h => by simp [putQ] at h, fun h => by simp [putQ] at h⟩, by simp [putQ]; omega⟩
    · split at h
      · cases h; exact ⟨⟨by simp, hru, fun _ => .inl ⟨rfl, rfl⟩, fun h => by simp at h⟩, by simp⟩
      · cases h
  rw [if_neg s2] at h
  by_cases s4 : Q.st = 4
  · rw [if_pos s4] at h
    unfold wantQ at h
    split at h
    · cases h; exact ⟨⟨by simp, hru, fun h => by simp at h, fun _ => hI.first (.inl s4)⟩, by simp⟩
    · cases h
  rw [if_neg s4] at h
  by_cases s5 : Q.st = 5
  · rw [if_pos s5] at h
    unfold wantQ at h
    split at h
    · cases h; exact ⟨⟨by simp, hru, fun _ => .inl ⟨rfl, rfl⟩, fun _ => hI.first (.inr (.inl s5))⟩, by simp⟩
    · cases h
  rw [if_neg s5] at h
  have s36 : Q.st = 3 ∨ Q.st = 6 := by have := hI.st; omega
  have hmn := hI.mn s36
  unfold digitQ at h
  split at h
  · cases h
  · split at h
    · cases h
    · split at h
      · cases h
        refine ⟨⟨by simp; omega, hru, fun _ => ?_, fun h => hI.first h⟩, by simp⟩
        dsimp only
        omega
      · split at h
        · cases h
          have := enc_le (65536 + (Q.first - 55296) * 1024 + (16 * Q.n + hexV c) - 56320)
          exact ⟨⟨by simp [putQ], hru, fun h => by simp [putQ] at h, fun h => by simp [putQ] at h⟩, by simp [putQ]; omega⟩
        · split at h
          · cases h; exact ⟨⟨by simp, hru, fun h => by simp at h, fun _ => by dsimp only; omega⟩, by simp⟩
          · cases h
            have := enc_le (16 * Q.n + hexV c)
            exact ⟨⟨by simp [putQ], hru, fun h => by simp [putQ] at h, fun h => by simp [putQ] at h⟩, by simp [putQ]; omega⟩
end
section
open Go.RowKit Go.Shelf
section
variable {B R : Nat} {w : World} {Q : UQ} {addr buf : Value}
set_option maxHeartbeats 4000000 in
set_option maxRecDepth 100000 in
theorem take_any (c : UInt8) (hI : QInv Q) (hl : Q.out.length ≤ 1099511627776) (h : UOk B w R Q addr buf) (hT : Tabs w) (h1B : 1 < B) (h2B : 2 < B) :
    Calls Tryz.prog 123 #[.pointer (some ⟨R, 0, none⟩), .int .u8 c.toNat] w (UPost B R w (takeQ Q c)) := by
  obtain ⟨c0, c1, c2, c3, c4, c5, c6, cf⟩ := cellR h.row
  clear c1 c2 c3 c4 c5 c6 cf
  rcases hI.st with hs | hs | hs | hs | hs | hs | hs
  · have HC : Calls Tryz.prog 140 #[.pointer (some ⟨R, 0, none⟩), .int .u8 c.toNat, .int .u8 34, .int .i64 1] w (UPost B R w (takeQ Q c)) := want_any c 34 1 h _ (by unfold takeQ; rw [if_pos hs])
    have HC2 := Lib.hid HC
    rw [hs] at c0
    clear HC hs hI h hT
    go_enter Tryz.func123, Tryz.ntmps123
    go_wp2_with fail
    refine HC2.out.mono ?_
    intro e w1 he
    obtain rfl := he.val
    have he2 := Lib.hid he
    clear he
    generalize qrE (takeQ Q c) = v at *
    go_wp2_with fail
    go_returns
    exact he2.out
  · have HC : Calls Tryz.prog 141 #[.pointer (some ⟨R, 0, none⟩), .int .u8 c.toNat] w (UPost B R w (takeQ Q c)) := by
      have := begin_any c hI.ru hl h hT h1B h2B
      rwa [show beginQ Q c = takeQ Q c by unfold takeQ; rw [if_neg (by omega), if_pos hs]] at this
    have HC2 := Lib.hid HC
    rw [hs] at c0
    clear HC hs hI h hT
    go_enter Tryz.func123, Tryz.ntmps123
    go_wp2_with fail
    refine HC2.out.mono ?_
    intro e w1 he
    obtain rfl := he.val
    have he2 := Lib.hid he
    clear he
    generalize qrE (takeQ Q c) = v at *
    go_wp2_with fail
    go_returns
    exact he2.out
  · have HC : Calls Tryz.prog 142 #[.pointer (some ⟨R, 0, none⟩), .int .u8 c.toNat] w (UPost B R w (takeQ Q c)) := by
      have := escape_any c hl h
      rwa [show escapeQ Q c = takeQ Q c by unfold takeQ; rw [if_neg (by omega), if_neg (by omega), if_pos hs]] at this
    have HC2 := Lib.hid HC
    rw [hs] at c0
    clear HC hs hI h hT
    go_enter Tryz.func123, Tryz.ntmps123
    go_wp2_with fail
    refine HC2.out.mono ?_
    intro e w1 he
    obtain rfl := he.val
    have he2 := Lib.hid he
    clear he
    generalize qrE (takeQ Q c) = v at *
    go_wp2_with fail
    go_returns
    exact he2.out
  · have HC : Calls Tryz.prog 143 #[.pointer (some ⟨R, 0, none⟩), .int .u8 c.toNat] w (UPost B R w (takeQ Q c)) := by
      have := digit_3 c hl hs (hI.mn (.inl hs)) (fun h => by omega) h
      rwa [show digitQ Q c = takeQ Q c by unfold takeQ; rw [if_neg (by omega), if_neg (by omega), if_neg (by omega), if_neg (by omega), if_neg (by omega)]] at this
    have HC2 := Lib.hid HC
    rw [hs] at c0
    clear HC hs hI h hT
    go_enter Tryz.func123, Tryz.ntmps123
    go_wp2_with fail
    refine HC2.out.mono ?_
    intro e w1 he
    obtain rfl := he.val
    have he2 := Lib.hid he
    clear he
    generalize qrE (takeQ Q c) = v at *
    go_wp2_with fail
    go_returns
    exact he2.out
  · have HC : Calls Tryz.prog 140 #[.pointer (some ⟨R, 0, none⟩), .int .u8 c.toNat, .int .u8 92, .int .i64 5] w (UPost B R w (takeQ Q c)) := want_any c 92 5 h _ (by unfold takeQ; rw [if_neg (by omega), if_neg (by omega), if_neg (by omega), if_pos hs])
    have HC2 := Lib.hid HC
    rw [hs] at c0
    clear HC hs hI h hT
    go_enter Tryz.func123, Tryz.ntmps123
    go_wp2_with fail
    refine HC2.out.mono ?_
    intro e w1 he
    obtain rfl := he.val
    have he2 := Lib.hid he
    clear he
    generalize qrE (takeQ Q c) = v at *
    go_wp2_with fail
    go_returns
    exact he2.out
  · have HC : Calls Tryz.prog 140 #[.pointer (some ⟨R, 0, none⟩), .int .u8 c.toNat, .int .u8 117, .int .i64 6] w (UPost B R w (takeQ Q c)) := want_any c 117 6 h _ (by unfold takeQ; rw [if_neg (by omega), if_neg (by omega), if_neg (by omega), if_neg (by omega), if_pos hs])
    have HC2 := Lib.hid HC
    rw [hs] at c0
    clear HC hs hI h hT
    go_enter Tryz.func123, Tryz.ntmps123
    go_wp2_with fail
    refine HC2.out.mono ?_
    intro e w1 he
    obtain rfl := he.val
    have he2 := Lib.hid he
    clear he
    generalize qrE (takeQ Q c) = v at *
    go_wp2_with fail
    go_returns
    exact he2.out
  · have HC : Calls Tryz.prog 143 #[.pointer (some ⟨R, 0, none⟩), .int .u8 c.toNat] w (UPost B R w (takeQ Q c)) := by
      have := digit_6 c hl hs (hI.mn (.inr hs)) (fun h => hI.first (.inr (.inr hs))) h
      rwa [show digitQ Q c = takeQ Q c by unfold takeQ; rw [if_neg (by omega), if_neg (by omega), if_neg (by omega), if_neg (by omega), if_neg (by omega)]] at this
    have HC2 := Lib.hid HC
    rw [hs] at c0
    clear HC hs hI h hT
    go_enter Tryz.func123, Tryz.ntmps123
    go_wp2_with fail
    refine HC2.out.mono ?_
    intro e w1 he
    obtain rfl := he.val
    have he2 := Lib.hid he
    clear he
    generalize qrE (takeQ Q c) = v at *
    go_wp2_with fail
    go_returns
    exact he2.out
end
theorem take_ne2 {Q : UQ} {c : UInt8} {e : Int} (h : takeQ Q c = .error e) : e ≠ 0 := by
  unfold takeQ wantQ beginQ escapeQ digitQ plainQ at h
  (repeat' split at h) <;> first | (cases h; omega) | cases h
theorem drop_cons {l : List UInt8} {k : Nat} (h : k < l.length) : l.drop k = l.getD k 0 :: l.drop (k + 1) := by
  rw [List.drop_eq_getElem_cons h, List.getD_eq_getElem?_getD, List.getElem?_eq_getElem h]; rfl
set_option maxHeartbeats 4000000 in
set_option maxRecDepth 100000 in
theorem unq_any (l : List UInt8) (hl : l.length ≤ 1073741824) (w : World) (hT : Tabs w) (h1B : 1 < w.heap.size) (h2B : 2 < w.heap.size) :
    Calls Tryz.prog 105 #[strV l] w fun e w' => e = .returned (.tuple #[strV (unqM l).1, .int .i64 (unqM l).2.1, .int .i64 (unqM l).2.2.1, .int .i64 (unqM l).2.2.2]) ∧ Below w.heap.size w w' := by
  have hs : (⟨l.toArray⟩ : ByteArray).size = l.length := by simp [ByteArray.size]
  unfold unqM strV
  generalize hr : uqRun uq0 0 l = r
  have hq0 : r = uqRun uq0 ((0 : Nat) : Int) (l.drop 0) := hr.symm
  clear hr
  have HQ0 := Lib.hid hq0
  clear hq0
  go_enter Tryz.func105, Tryz.ntmps105
  go_upto_region 2 with fail
  refine wp_named (fun wn => UOk w.heap.size wn w.heap.size uq0 (.pointer none) (.slice none 0 0) ∧ Below w.heap.size w wn) ⟨⟨Nat.le_refl _, heap_alloc_new _ _, .inl rfl, ⟨rfl, .inl ⟨rfl, rfl⟩⟩, by simp [Value.ownBlock]⟩, (Below.refl _ _).alloc (Nat.le_refl _) _⟩ ?_
  rintro wn ⟨hn, hbn⟩
  have HT := Lib.hid hT
  clear hT
  go_wp2_with fail
  go_loopw [11] (fun i wr => ∃ k : Nat, k ≤ l.length ∧ i = .int .i64 k ∧ ∃ Q addr buf, UOk w.heap.size wr w.heap.size Q addr buf ∧ QInv Q ∧ Q.out.length ≤ 4 * k ∧ Below w.heap.size w wr ∧ r = uqRun Q k (l.drop k)) (fun i _ => l.length - (intOf i).toNat)
  case atStart => exact ⟨0, Nat.zero_le _, rfl, uq0, _, _, hn, qinv0, Nat.zero_le _, hbn, HQ0.out⟩
  case round =>
    clear hn hbn HQ0
    obtain ⟨k, hk, rfl, Q, addr, buf, hn, hI, ho, hbn, hq⟩ := hrel
    have hTn := HT.out.below hbn h1B h2B
    by_cases hlt : k < l.length
    · have hltz : (k : Int) < (l.length : Int) := by omega
      rw [drop_cons hlt] at hq
      have hidx : (⟨l.toArray⟩ : ByteArray)[k]'(by omega) = l.getD k 0 := by
        show l.toArray[k] = _
        simp [List.getD_eq_getElem?_getD, hlt]
      generalize l.getD k 0 = c at *
      have HC := Lib.hid (take_any c hI (by omega) hn hTn h1B h2B)
      have hRn := hn.lt
      rw [uqRun] at hq
      cases ht : takeQ Q c with
      | error er =>
        rw [ht] at hq HC
        have her := take_ne2 ht
        have her' : (er != 0) = true := by simpa using her
        clear hn hTn ht hI her
        go_wp2_with fail
        refine HC.out.mono ?_
        rintro e w1 ⟨e1, -, hb1⟩
        obtain rfl := e1 er rfl
        clear e1
        have hbb := hbn.trans hb1
        go_wp2_with fail
        go_returns
        rw [hq]
        exact ⟨rfl, hbb⟩
      | ok Q' =>
        rw [ht] at hq HC
        dsimp only at hq
        have hinv := take_inv hI ht
        clear hn hTn ht hI
        go_wp2_with fail
        refine HC.out.mono ?_
        rintro e w1 ⟨-, e2, hb1⟩
        obtain ⟨rfl, addr', buf', h1⟩ := e2 Q' rfl
        clear e2
        have hbb := hbn.trans hb1
        obtain ⟨c0, c1, c2, c3, c4, c5, c6, cf⟩ := cellR h1.row
        clear c1 c2 c3 c4 c5 c6 cf
        by_cases h7 : Q'.st = 7
        · have HS := Lib.hid (string_any h1)
          rw [if_pos h7] at hq
          rw [h7] at c0
          have q1 : IntKind.i64.wrap ((k : Int) + 1) = k + 1 := IntWalk.i64_in _ (by omega)
          clear hinv h1
          go_wp2_with fail
          refine HS.out.mono ?_
          rintro e w2 ⟨rfl, hb2⟩
          go_wp2_with fail
          go_returns
          rw [hq]
          exact ⟨rfl, hbb.trans hb2⟩
        · rw [if_neg h7] at hq
          have h7' : (Q'.st == 7) = false := by simpa using h7
          obtain ⟨hI', ho'⟩ := hinv h7
          have H1 := Lib.hid h1
          have HI' := Lib.hid hI'
          have HQ := Lib.hid hq
          have HBB := Lib.hid hbb
          clear hinv h1 hI' hq h7 hbb hb1 hbn HC
          go_wp2_with fail
          go_roundw
          case rel => exact ⟨k + 1, by omega, by go_num, Q', _, _, H1.out, HI'.out, by omega, HBB.out, HQ.out⟩
          case measure => simp only [intOf]; omega
    · have hltz : ¬ (k : Int) < (l.length : Int) := by omega
      have hkl : k = l.length := by omega
      have hnil : l.drop k = [] := List.drop_of_length_le (by omega)
      rw [hnil, uqRun] at hq
      clear hn hTn hI
      go_wp2_with fail
      go_returns
      exact ⟨by first | rfl | (rw [hq, hkl]) | (simp [hkl]), hbn⟩
end
end Go.Proofs.YtccmhhmdenfecaaGreatDoor
