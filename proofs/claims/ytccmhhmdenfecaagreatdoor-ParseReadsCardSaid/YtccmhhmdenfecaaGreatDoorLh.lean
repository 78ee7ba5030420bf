/- The walk of utf.reader's digit. -/
import Derived.Test.YtccmhhmdenfecaaGreatDoorLg
import Derived.IntWalk
namespace Go.Proofs.YtccmhhmdenfecaaGreatDoor
set_option linter.unusedVariables false
set_option linter.unusedSimpArgs false
set_option linter.unusedSectionVars false
open Go.RowKit Go.Shelf
section
variable {B R : Nat} {w : World} {Q : UQ} {addr buf : Value}
set_option maxHeartbeats 16000000 in
set_option maxRecDepth 100000 in
theorem digit_6 (c : UInt8) (hl : Q.out.length ≤ 1099511627776) (hs : Q.st = 6) (hmn : (Q.many = 0 ∧ Q.n = 0) ∨ (Q.many = 1 ∧ 0 ≤ Q.n ∧ Q.n ≤ 15) ∨ (Q.many = 2 ∧ 0 ≤ Q.n ∧ Q.n ≤ 255) ∨ (Q.many = 3 ∧ 0 ≤ Q.n ∧ Q.n ≤ 4095)) (hf : Q.st = 6 → 55296 ≤ Q.first ∧ Q.first ≤ 56319) (h : UOk B w R Q addr buf) :
    Calls Tryz.prog 143 #[.pointer (some ⟨R, 0, none⟩), .int .u8 c.toNat] w (UPost B R w (digitQ Q c)) := by
  have hcl := c.toNat_lt
  have hx := hex_idx c
  obtain ⟨c', hc'⟩ : ∃ c', (if 65 ≤ c.toNat ∧ c.toNat ≤ 70 then c + 32 else c) = c' := ⟨_, rfl⟩
  rw [hc'] at hx
  obtain ⟨x', hx'⟩ : ∃ x' : Int, (c'.toNat : Int) = x' := ⟨_, rfl⟩
  have hcv : (¬ (65 : Int) ≤ (c.toNat : Int) ∧ x' = c.toNat) ∨ ((65 : Int) ≤ (c.toNat : Int) ∧ ¬ (c.toNat : Int) ≤ 70 ∧ x' = c.toNat) ∨ ((65 : Int) ≤ (c.toNat : Int) ∧ (c.toNat : Int) ≤ 70 ∧ x' = (c.toNat : Int) + 32) := by
    by_cases hu : 65 ≤ c.toNat ∧ c.toNat ≤ 70
    · rw [if_pos hu] at hc'
      subst hc'
      refine .inr (.inr ⟨by omega, by omega, ?_⟩)
      rw [← hx', UInt8.toNat_add]
      show (((c.toNat + 32) % 256 : Nat) : Int) = _
      omega
    · rw [if_neg hu] at hc'
      subst hc'
      by_cases h65 : (65 : Int) ≤ (c.toNat : Int)
      · exact .inr (.inl ⟨h65, by omega, hx'.symm⟩)
      · exact .inl ⟨h65, hx'.symm⟩
  obtain ⟨up, hup⟩ : ∃ up, (up = false ∧ ¬ (65 : Int) ≤ (c.toNat : Int) ∧ x' = c.toNat) ∨ (up = false ∧ (65 : Int) ≤ (c.toNat : Int) ∧ ¬ (c.toNat : Int) ≤ 70 ∧ x' = c.toNat) ∨ (up = true ∧ (65 : Int) ≤ (c.toNat : Int) ∧ (c.toNat : Int) ≤ 70 ∧ x' = (c.toNat : Int) + 32) := by
    rcases hcv with h | h | h
    · exact ⟨false, .inl ⟨rfl, h⟩⟩
    · exact ⟨false, .inr (.inl ⟨rfl, h⟩)⟩
    · exact ⟨true, .inr (.inr ⟨rfl, h⟩)⟩
  have hcn : (x'.toNat).toUInt8 = c' := by rw [← hx']; simp
  obtain ⟨k, hk⟩ : ∃ k, hexV c = k := ⟨_, rfl⟩
  have hkb := hexV_bd c
  rw [hk] at hx hkb
  have HI := fun W => (Tryz.strings_IndexByte ⟨#[48, 49, 50, 51, 52, 53, 54, 55, 56, 57, 97, 98, 99, 100, 101, 102]⟩ x' W).mono fun e w' h => And.intro (h.1.trans (by rw [hcn, hx])) h.2.symm
  have HI2 := Lib.hid HI
  have hBR := h.hB
  have hRw := h.lt
  obtain ⟨c0, c1, c2, c3, c4, c5, c6, cf⟩ := cellR h.row
  have f0 := cf 0
  have f4 := cf 4
  have f5 := cf 5
  have f6 := cf 6
  clear cf c1 c2 c3
  have Hh := Lib.hid h
  have HK := Lib.hid hk
  clear h hcn hx HI hk hc' hx'
  by_cases hk0 : k < 0
  · have hq := Lib.hid (show digitQ Q c = .error 41 from dq_none (by rw [HK.out]; exact hk0))
    clear hmn hf hs
    rcases hcv with ⟨a1, rfl⟩ | ⟨a1, a2, rfl⟩ | ⟨a1, a2, rfl⟩
    all_goals
      go_enter Tryz.func143, Tryz.ntmps143
      go_wp2_with fail
      refine (HI2.out _).mono ?_
      rintro e w9 ⟨rfl, rfl⟩
      go_wp2_with fail
      go_returns
      rw [hq.out]
      exact UPost.err (er := 41) (Below.refl _ _)
  have hk1 : 0 ≤ k := by omega
  have hor := or_nib Q.n k (by omega) (by omega) hk1 hkb.2
  have hnb : 0 ≤ Q.n ∧ Q.n ≤ 4095 := by omega
  have hmb : 0 ≤ Q.many ∧ Q.many ≤ 3 := by omega
  obtain ⟨hn0, hn1⟩ := hnb
  obtain ⟨hm0, hm1⟩ := hmb
  have HM := Lib.hid hmn
  have HS := Lib.hid hs
  clear hmn hs
  have HC := Lib.hid hup
  clear hup hcv
  go_enter Tryz.func143, Tryz.ntmps143
  go_upto_region 1 with fail
  go_cut [13] (fun s13 wx => s13 = .bool up ∧ w = wx)
  case first =>
    rcases HC.out with ⟨rfl, a1, -⟩ | ⟨rfl, a1, a2, -⟩ | ⟨rfl, a1, a2, -⟩
    all_goals (go_wp2_with fail; go_meet; exact ⟨rfl, rfl⟩)
  case rest =>
  obtain ⟨rfl, rfl⟩ := hcut
  go_upto_if 13 with fail
  go_cut [1] (fun s1 wx => s1 = .int .u8 x' ∧ w = wx)
  case first =>
    rcases HC.out with ⟨rfl, a1, rfl⟩ | ⟨rfl, a1, a2, rfl⟩ | ⟨rfl, a1, a2, rfl⟩
    all_goals (go_wp2_with fail; go_meet; exact ⟨rfl, rfl⟩)
  case rest =>
    obtain ⟨rfl, rfl⟩ := hcut
    clear HC
    go_wp2_with fail
    refine (HI2.out _).mono ?_
    rintro e w9 ⟨rfl, rfl⟩
    go_wp2_with fail
    go_region
    go_upto_region 7 with fail
    refine wp_named (fun wn => UOk B wn R { Q with n := 16 * Q.n + k, many := Q.many + 1 } addr buf ∧ Below B w wn) ⟨?_, ?_⟩ ?_
    · refine (Hh.out.to (Q' := { Q with n := 16 * Q.n + k, many := Q.many + 1 }) (row_set 4 _ (row_set 5 _ Hh.out.row)) rfl (fun k _ hk => ?_) (by simp)).drew
      rw [Below.heap_setCell _ _ _ _ (by simpa using fun e => hk e), Below.heap_setCell _ _ _ _ (by simpa using fun e => hk e)]
    · exact (((Below.refl B w).setCell (p := ⟨R, 5, none⟩) hBR _).setCell (p := ⟨R, 4, none⟩) hBR _).drew
    clear c0 c4 c5 c6 f0 f4 f5 f6 hor HI2
    rintro wn ⟨hn, hbn⟩
    clear Hh
    have hRn := hn.lt
    obtain ⟨c0, c1, c2, c3, c4, c5, c6, cf⟩ := cellR hn.row
    dsimp only at c0 c4 c5 c6
    have f0 := cf 0
    have f6 := cf 6
    clear c1 c2 c3 cf
    have Hn := Lib.hid hn
    have HB := Lib.hid hbn
    clear hn hbn
    have hs := HS.out
    rcases HM.out with ⟨hm, hb⟩ | ⟨hm, hb⟩ | ⟨hm, hb⟩ | ⟨hm, hb⟩
    all_goals
      have hNb : 0 ≤ 16 * Q.n + k ∧ 16 * Q.n + k ≤ 65535 := by omega
      obtain ⟨N0, N1⟩ := hNb
      rw [hm] at c4
      have HB2 := Lib.hid hb
      clear hb
      (try simp only [Int.reduceAdd] at c4)
    · have hb : 16 * Q.n + k ≤ 15 := by have := HB2.out; omega
      generalize hN : 16 * Q.n + k = N at *
      clear HB2
      rw [hs] at c0
      go_region
      replace Hn := Lib.hid Hn.out.drew
      replace HB := Lib.hid HB.out.drew
      by_cases p3 : N * 4096 = 53248
      · have p3b : (N * 4096 != 53248) = false := by simpa using p3
        have hbd : badD Q.st (16 * Q.n + k) (Q.many + 1) = false := by
          rw [hN, hs, hm]
          show badD 6 N 1 = false
          have hp : padV N 1 = (N * 4096) := by
            show N * 16 ^ 3 = _
            rw [show (16 : Int) ^ 3 = 4096 by decide]
          unfold badD
          rw [hp, decide_eq_true p3]; rfl
        have hq := dq_go HK.out hk1 hbd (by omega)
        rw [hN] at hq
        replace hq := Lib.hid hq
        clear hbd hN
        go_wp2_with fail
        go_returns
        rw [hq.out]
        exact UPost.ok (Q := { Q with n := N, many := Q.many + 1 }) Hn.out HB.out
      · have p3b : (N * 4096 != 53248) = true := by simpa using p3
        have hbd : badD Q.st (16 * Q.n + k) (Q.many + 1) = true := by
          rw [hN, hs, hm]
          show badD 6 N 1 = true
          have hp : padV N 1 = (N * 4096) := by
            show N * 16 ^ 3 = _
            rw [show (16 : Int) ^ 3 = 4096 by decide]
          unfold badD
          rw [hp, decide_eq_false p3]; rfl
        have hq := Lib.hid (dq_bad HK.out hk1 hbd)
        clear hbd hN
        go_wp2_with fail
        go_returns
        rw [hq.out]
        exact UPost.err (er := 41) HB.out
    · have hb : 16 * Q.n + k ≤ 255 := by have := HB2.out; omega
      generalize hN : 16 * Q.n + k = N at *
      clear HB2
      rw [hs] at c0
      go_region
      replace Hn := Lib.hid Hn.out.drew
      replace HB := Lib.hid HB.out.drew
      by_cases p1 : 56320 ≤ (N * 256)
      · by_cases p2 : (N * 256) < 57344
        · have hbd : badD Q.st (16 * Q.n + k) (Q.many + 1) = false := by
            rw [hN, hs, hm]
            show badD 6 N 2 = false
            have hp : padV N 2 = (N * 256) := by
              show N * 16 ^ 2 = _
              rw [show (16 : Int) ^ 2 = 256 by decide]
            have hlow : lowB N 2 = true := by
              unfold lowB
              rw [hp, decide_eq_true p1, decide_eq_true p2]; rfl
            unfold badD
            rw [hlow]; rfl
          have hq := dq_go HK.out hk1 hbd (by omega)
          rw [hN] at hq
          replace hq := Lib.hid hq
          clear hbd hN
          go_wp2_with fail
          go_returns
          rw [hq.out]
          exact UPost.ok (Q := { Q with n := N, many := Q.many + 1 }) Hn.out HB.out
        · have hbd : badD Q.st (16 * Q.n + k) (Q.many + 1) = true := by
            rw [hN, hs, hm]
            show badD 6 N 2 = true
            have hp : padV N 2 = (N * 256) := by
              show N * 16 ^ 2 = _
              rw [show (16 : Int) ^ 2 = 256 by decide]
            have hlow : lowB N 2 = false := by
              unfold lowB
              rw [hp, decide_eq_true p1, decide_eq_false p2]; rfl
            unfold badD
            rw [hlow]; rfl
          have hq := Lib.hid (dq_bad HK.out hk1 hbd)
          clear hbd hN
          go_wp2_with fail
          go_returns
          rw [hq.out]
          exact UPost.err (er := 41) HB.out
      · have hbd : badD Q.st (16 * Q.n + k) (Q.many + 1) = true := by
          rw [hN, hs, hm]
          show badD 6 N 2 = true
          have hp : padV N 2 = (N * 256) := by
            show N * 16 ^ 2 = _
            rw [show (16 : Int) ^ 2 = 256 by decide]
          have hlow : lowB N 2 = false := by
            unfold lowB
            rw [hp, decide_eq_false p1]; rfl
          unfold badD
          rw [hlow]; rfl
        have hq := Lib.hid (dq_bad HK.out hk1 hbd)
        clear hbd hN
        go_wp2_with fail
        go_returns
        rw [hq.out]
        exact UPost.err (er := 41) HB.out
    · have hb : 16 * Q.n + k ≤ 4095 := by have := HB2.out; omega
      generalize hN : 16 * Q.n + k = N at *
      clear HB2
      rw [hs] at c0
      go_region
      replace Hn := Lib.hid Hn.out.drew
      replace HB := Lib.hid HB.out.drew
      by_cases p1 : 56320 ≤ (N * 16)
      · by_cases p2 : (N * 16) < 57344
        · have hbd : badD Q.st (16 * Q.n + k) (Q.many + 1) = false := by
            rw [hN, hs, hm]
            show badD 6 N 3 = false
            have hp : padV N 3 = (N * 16) := by
              show N * 16 ^ 1 = _
              rw [show (16 : Int) ^ 1 = 16 by decide]
            have hlow : lowB N 3 = true := by
              unfold lowB
              rw [hp, decide_eq_true p1, decide_eq_true p2]; rfl
            unfold badD
            rw [hlow]; rfl
          have hq := dq_go HK.out hk1 hbd (by omega)
          rw [hN] at hq
          replace hq := Lib.hid hq
          clear hbd hN
          go_wp2_with fail
          go_returns
          rw [hq.out]
          exact UPost.ok (Q := { Q with n := N, many := Q.many + 1 }) Hn.out HB.out
        · have hbd : badD Q.st (16 * Q.n + k) (Q.many + 1) = true := by
            rw [hN, hs, hm]
            show badD 6 N 3 = true
            have hp : padV N 3 = (N * 16) := by
              show N * 16 ^ 1 = _
              rw [show (16 : Int) ^ 1 = 16 by decide]
            have hlow : lowB N 3 = false := by
              unfold lowB
              rw [hp, decide_eq_true p1, decide_eq_false p2]; rfl
            unfold badD
            rw [hlow]; rfl
          have hq := Lib.hid (dq_bad HK.out hk1 hbd)
          clear hbd hN
          go_wp2_with fail
          go_returns
          rw [hq.out]
          exact UPost.err (er := 41) HB.out
      · have hbd : badD Q.st (16 * Q.n + k) (Q.many + 1) = true := by
          rw [hN, hs, hm]
          show badD 6 N 3 = true
          have hp : padV N 3 = (N * 16) := by
            show N * 16 ^ 1 = _
            rw [show (16 : Int) ^ 1 = 16 by decide]
          have hlow : lowB N 3 = false := by
            unfold lowB
            rw [hp, decide_eq_false p1]; rfl
          unfold badD
          rw [hlow]; rfl
        have hq := Lib.hid (dq_bad HK.out hk1 hbd)
        clear hbd hN
        go_wp2_with fail
        go_returns
        rw [hq.out]
        exact UPost.err (er := 41) HB.out
    · have hb : 16 * Q.n + k ≤ 65535 := by have := HB2.out; omega
      generalize hN : 16 * Q.n + k = N at *
      clear HB2
      rw [hs] at c0
      go_region
      replace Hn := Lib.hid Hn.out.drew
      replace HB := Lib.hid HB.out.drew
      by_cases p1 : 56320 ≤ N
      · by_cases p2 : N < 57344
        · have hbd : badD Q.st (16 * Q.n + k) (Q.many + 1) = false := by
            rw [hN, hs, hm]
            show badD 6 N 4 = false
            have hp : padV N 4 = N := by
              show N * 16 ^ 0 = _
              rw [show (16 : Int) ^ 0 = 1 by decide]; omega
            have hlow : lowB N 4 = true := by
              unfold lowB
              rw [hp, decide_eq_true p1, decide_eq_true p2]; rfl
            unfold badD
            rw [hlow]; rfl
          have hf2 := hf hs
          have hq := dq_pair HK.out hk1 hbd (by omega) hs
          rw [hN] at hq
          replace hq := Lib.hid hq
          have HP := Lib.hid (put_any (Q := { Q with n := N, many := Q.many + 1 }) (65536 + (Q.first - 55296) * 1024 + N - 56320) (by omega) (by omega) hl Hn.out.drew)
          clear hbd hN
          have q1 : IntKind.i32.wrap (Q.first - 55296) = Q.first - 55296 := IntWalk.i32_in _ (by omega)
          have q2 : IntKind.i32.wrap ((Q.first - 55296) * 1024) = (Q.first - 55296) * 1024 := IntWalk.i32_in _ (by omega)
          have q3 : IntKind.i32.wrap (65536 + (Q.first - 55296) * 1024) = 65536 + (Q.first - 55296) * 1024 := IntWalk.i32_in _ (by omega)
          have q4 : IntKind.i32.wrap (65536 + (Q.first - 55296) * 1024 + N) = 65536 + (Q.first - 55296) * 1024 + N := IntWalk.i32_in _ (by omega)
          have q5 : IntKind.i32.wrap (65536 + (Q.first - 55296) * 1024 + N - 56320) = 65536 + (Q.first - 55296) * 1024 + N - 56320 := IntWalk.i32_in _ (by omega)
          go_upto_region 14 with fail
          go_region_with (go_at_call 163; refine HP.out.mono ?_; rintro e w1 ⟨rfl, h1, hb1⟩)
          all_goals
            have H1 := Lib.hid h1
            have HB1 := Lib.hid hb1
            clear h1 hb1
            go_wp2_with fail
            go_returns
            rw [hq.out]
            obtain ⟨addr', buf', h1⟩ := H1.out
            exact UPost.ok (Q := putQ { Q with n := N, many := Q.many + 1 } (65536 + (Q.first - 55296) * 1024 + N - 56320)) h1 (HB.out.drew.trans HB1.out)
        · have hbd : badD Q.st (16 * Q.n + k) (Q.many + 1) = true := by
            rw [hN, hs, hm]
            show badD 6 N 4 = true
            have hp : padV N 4 = N := by
              show N * 16 ^ 0 = _
              rw [show (16 : Int) ^ 0 = 1 by decide]; omega
            have hlow : lowB N 4 = false := by
              unfold lowB
              rw [hp, decide_eq_true p1, decide_eq_false p2]; rfl
            unfold badD
            rw [hlow]; rfl
          have hq := Lib.hid (dq_bad HK.out hk1 hbd)
          clear hbd hN
          go_wp2_with fail
          go_returns
          rw [hq.out]
          exact UPost.err (er := 41) HB.out
      · have hbd : badD Q.st (16 * Q.n + k) (Q.many + 1) = true := by
          rw [hN, hs, hm]
          show badD 6 N 4 = true
          have hp : padV N 4 = N := by
            show N * 16 ^ 0 = _
            rw [show (16 : Int) ^ 0 = 1 by decide]; omega
          have hlow : lowB N 4 = false := by
            unfold lowB
            rw [hp, decide_eq_false p1]; rfl
          unfold badD
          rw [hlow]; rfl
        have hq := Lib.hid (dq_bad HK.out hk1 hbd)
        clear hbd hN
        go_wp2_with fail
        go_returns
        rw [hq.out]
        exact UPost.err (er := 41) HB.out
end
end Go.Proofs.YtccmhhmdenfecaaGreatDoor
