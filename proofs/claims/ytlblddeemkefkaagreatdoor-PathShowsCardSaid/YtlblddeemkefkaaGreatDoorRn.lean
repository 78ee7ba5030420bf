/- The walk of the reference's Quote. -/
import Derived.Test.YtlblddeemkefkaaGreatDoorRl
import Derived.Test.YtlblddeemkefkaaGreatDoorRm
import Derived.BigQuiet
namespace Go.Proofs.YtlblddeemkefkaaGreatDoor
set_option linter.unusedVariables false
set_option linter.unusedSimpArgs false
open Go.RowKit Go.Shelf
theorem short_bd (c : UInt8) : ∀ k, -1 ≤ shortK c k ∧ shortK c k < k
  | 0 => by unfold shortK; omega
  | k + 1 => by
    have := short_bd c k
    unfold shortK
    split <;> omega
theorem qB_len (c : UInt8) : (qB c).length ≤ 6 := by
  unfold qB
  split
  · simp
  split
  · simp
  · simp
theorem flat_len : ∀ l : List UInt8, (l.flatMap qB).length ≤ 6 * l.length
  | [] => by simp
  | c :: l => by
    have := flat_len l
    have := qB_len c
    rw [List.flatMap_cons, List.length_append, List.length_cons]
    omega
theorem flat_take (l : List UInt8) (k : Nat) (h : k < l.length) : (l.take (k + 1)).flatMap qB = (l.take k).flatMap qB ++ qB (l.getD k 0) := by
  rw [List.take_succ_eq_append_getElem h, List.flatMap_append, List.getD_eq_getElem?_getD, List.getElem?_eq_getElem h]
  simp
/-- A slice of one byte, its bounds bytes. -/
theorem slice1b {x : List UInt8} {m : Nat} (hm : m < x.length) (W : World) : (Instr.slice 9 (.string ⟨x.toArray⟩) (some (.int .u8 (m : Int))) (some (.int .u8 ((m : Int) + 1))) none).run Tryz.prog W = .ok (.string ⟨#[x.getD m 0]⟩) W := by
  have h := run_slice_string W 9 ⟨x.toArray⟩ .u8 .u8 m (m + 1 : Nat) Tryz.underlying9 (by omega) (by omega) (by simp [ByteArray.size]; omega)
  refine h.trans ?_
  have e : (⟨x.toArray⟩ : ByteArray).extract m (m + 1) = ⟨((x.drop m).take (m + 1 - m)).toArray⟩ := by
    apply ByteArray.ext
    rw [ByteArray.data_extract]
    apply Array.toList_inj.1
    simp
  have e2 : (x.drop m).take (m + 1 - m) = [x.getD m 0] := by
    rw [Nat.add_sub_cancel_left, List.drop_eq_getElem_cons hm, List.take_succ_cons, List.take_zero, List.getD_eq_getElem?_getD, List.getElem?_eq_getElem hm]
    rfl
  simp only [Int.toNat_natCast, e, e2]
set_option maxHeartbeats 16000000 in
set_option maxRecDepth 100000 in
theorem rquote_ok (l : List UInt8) (hv : Lib.validD l = true) (hl : l.length ≤ 1048576) (w : World) : Calls Tryz.prog 45 #[strV l] w fun e w' => e = .returned (.tuple #[strV (quoL' l), .int .i64 0]) ∧ Below w.heap.size w w' := by
  have hs : (⟨l.toArray⟩ : ByteArray).size = l.length := by simp [ByteArray.size]
  have HV := Lib.hid (rvalid_any l w (by omega))
  rw [hv] at HV
  have HX := Lib.hid (str_idx l)
  have HQX := Lib.hid (str_idx qL)
  have HMX := Lib.hid (str_idx mkL)
  obtain ⟨n, hn⟩ : ∃ n, n = l.length := ⟨_, rfl⟩
  have HN := Lib.hid hn
  have HRES := Lib.hid (quoL_bytes hv)
  rw [← hn] at hl hs
  clear hn hv
  unfold strV at HV ⊢
  go_enter Tryz.func45, Tryz.ntmps45
  go_wp2_with fail
  refine HV.out.mono ?_
  rintro e w1 ⟨rfl, hb1⟩
  have HB1 := Lib.hid hb1
  clear hb1 HV
  go_wp2_with fail
  go_loopw [4, 5] (fun s4 s5 wr => ∃ (k : Nat) (o : List UInt8), k ≤ n ∧ s5 = .int .i64 k ∧ s4 = .string ⟨o.toArray⟩ ∧ Hid (o = 34 :: (l.take k).flatMap qB) ∧ Below w.heap.size w wr) (fun _ s5 _ => n - (intOf s5).toNat)
  case atStart => exact ⟨0, [34], by omega, rfl, rfl, Lib.hid (by simp), HB1.out⟩
  case round =>
    rename_i wr
    obtain ⟨k, o, hk, rfl, rfl, hO, hb⟩ := hrel
    have HB := Lib.hid hb
    have hol : o.length ≤ 1 + 6 * k := by
      rw [hO.out, List.length_cons]
      have := flat_len (l.take k)
      rw [List.length_take] at this
      omega
    clear hb
    by_cases h1 : k < n
    · have h1' : (k : Int) < (n : Int) := by omega
      have hkl : k < l.length := by have := HN.out; omega
      have hx := HX.out k hkl
      have hsl := slice1 hkl
      have HT := Lib.hid (flat_take l k hkl)
      generalize l.getD k 0 = c at *
      go_wp2_with fail
      go_loopw [6, 7] (fun s6 s7 wr2 => ∃ j : Nat, j ≤ 8 ∧ s7 = .int .i64 j ∧ s6 = .int .i64 (shortK c j) ∧ Below wr.heap.size wr wr2) (fun _ s7 _ => 8 - (intOf s7).toNat)
      case atStart => exact ⟨0, by omega, rfl, rfl, Below.refl _ _⟩
      case round =>
        rename_i wr2
        obtain ⟨j, hj, rfl, rfl, hb2⟩ := hrel
        have HB2 := Lib.hid hb2
        clear hb2
        by_cases h2 : j < 8
        · have h2' : (j : Int) < 8 := by omega
          have hq := HQX.out j h2
          have hm := HMX.out j h2
          have HSJ := Lib.hid (show shortK c (j + 1) = if qL.getD j 0 = c ∧ mkL.getD j 0 ≠ 47 then (j : Int) else shortK c j from rfl)
          generalize qL.getD j 0 = a at *
          generalize mkL.getD j 0 = b at *
          generalize shortK c j = sj at *
          have q1 : IntKind.i64.wrap ((j : Int) + 1) = (j : Int) + 1 := IntWalk.i64_in _ (by omega)
          unfold qL at hq
          unfold mkL at hm
          by_cases e1 : a = c
          · subst e1
            have m1 : (((a.toNat : Nat) : Int) == ((a.toNat : Nat) : Int)) = true := beq_self_eq_true _
            by_cases e2 : b = 47
            · subst e2
              have m2 : ((((47 : UInt8).toNat : Nat) : Int) != 47) = false := by decide
              have HF := Lib.hid (show shortK a (j + 1) = sj by rw [HSJ.out, if_neg (fun h => h.2 rfl)])
              go_wp2_with fail
              go_quiet (fail)
              go_wp2_with fail
              go_roundw
              case rel => exact ⟨j + 1, by omega, by go_num, by rw [HF.out], below_drewN HB2.out _⟩
              case measure => simp only [intOf]; omega
            · have m2 : (((b.toNat : Nat) : Int) != 47) = true := by
                simp only [bne_iff_ne, ne_eq]
                intro h
                refine e2 (UInt8.toNat_inj.1 ?_)
                show b.toNat = 47
                omega
              have HF := Lib.hid (show shortK a (j + 1) = j by rw [HSJ.out, if_pos ⟨rfl, e2⟩])
              clear e2
              go_wp2_with fail
              go_quiet (fail)
              go_wp2_with fail
              go_roundw
              case rel => exact ⟨j + 1, by omega, by go_num, by rw [HF.out], below_drewN HB2.out _⟩
              case measure => simp only [intOf]; omega
          · have m1 : (((a.toNat : Nat) : Int) == ((c.toNat : Nat) : Int)) = false := by
              rw [beq_eq_false_iff_ne]
              intro h
              exact e1 (UInt8.toNat_inj.1 (by omega))
            have HF := Lib.hid (show shortK c (j + 1) = sj by rw [HSJ.out, if_neg (fun h => e1 h.1)])
            clear e1
            go_wp2_with fail
            go_quiet (fail)
            go_wp2_with fail
            go_roundw
            case rel => exact ⟨j + 1, by omega, by go_num, by rw [HF.out], below_drewN HB2.out _⟩
            case measure => simp only [intOf]; omega
        · have h2' : ¬ (j : Int) < 8 := by omega
          obtain rfl : j = 8 := by omega
          have hbd := short_bd c 8
          have HBK := Lib.hid (HB.out.trans (HB2.out.mono HB.out.size))
          have q2 : IntKind.i64.wrap ((k : Int) + 1) = (k : Int) + 1 := IntWalk.i64_in _ (by omega)
          by_cases h0 : 0 ≤ shortK c 8
          · obtain ⟨m, hm⟩ : ∃ m : Nat, shortK c 8 = (m : Int) := ⟨(shortK c 8).toNat, by omega⟩
            have hm8 : m < 8 := by omega
            have hmk : ∀ W, (Instr.slice 9 (.string ⟨#[34, 92, 47, 98, 102, 110, 114, 116]⟩) (some (.int .i64 (m : Int))) (some (.int .i64 ((m : Int) + 1))) none).run Tryz.prog W = .ok (.string ⟨#[mkL.getD m 0]⟩) W := fun W => slice1 (x := mkL) hm8 W
            have HQ := Lib.hid (show qB c = [92, mkL.getD m 0] by unfold qB; rw [if_pos h0, hm]; rfl)
            rw [hm]
            generalize mkL.getD m 0 = mb at *
            have q3 : IntKind.i64.wrap ((m : Int) + 1) = (m : Int) + 1 := IntWalk.i64_in _ (by omega)
            have hm0 : (0 : Int) ≤ (m : Int) := by omega
            have hap1 := str_app o [92]
            have hap2 := str_app (o ++ [92]) [mb]
            have hl1 : o.length + 1 ≤ 9223372036854775807 := by omega
            have hl2 : o.length + 1 + 1 ≤ 9223372036854775807 := by omega
            have HO2 := Lib.hid (show (o ++ [92]) ++ [mb] = 34 :: (l.take (k + 1)).flatMap qB by rw [HT.out, hO.out, HQ.out]; simp)
            clear hbd h0 hm hol
            go_wp2_with fail
            go_roundw
            case rel => exact ⟨k + 1, (o ++ [92]) ++ [mb], by omega, by go_num, by simp, HO2, HBK.out⟩
            case measure => simp only [intOf]; omega
          · have hm1 : shortK c 8 = -1 := by omega
            rw [hm1]
            by_cases h3 : c.toNat < 32
            · have h3' : ((c.toNat : Nat) : Int) < 32 := by omega
              obtain ⟨p, hp⟩ : ∃ p, p = c.toNat / 16 := ⟨_, rfl⟩
              obtain ⟨r, hr⟩ : ∃ r, r = c.toNat % 16 := ⟨_, rfl⟩
              have HQ := Lib.hid (show qB c = [92, 117, 48, 48, hxL.getD p 0, hxL.getD r 0] by unfold qB; rw [if_neg h0, if_pos h3, hp, hr])
              have m1 : ((c.toNat : Nat) : Int).tdiv 16 = (p : Int) := by rw [Int.tdiv_eq_ediv_of_nonneg (by omega)]; omega
              have m2 : ((c.toNat : Nat) : Int).tmod 16 = (r : Int) := by rw [Int.tmod_eq_emod_of_nonneg (by omega)]; omega
              have hp16 : p < 16 := by omega
              have hr16 : r < 16 := by omega
              have u1 : IntKind.u8.wrap (p : Int) = (p : Int) := IntWalk.u8_in _ (by omega)
              have u2 : IntKind.u8.wrap ((p : Int) + 1) = (p : Int) + 1 := IntWalk.u8_in _ (by omega)
              have u3 : IntKind.u8.wrap (r : Int) = (r : Int) := IntWalk.u8_in _ (by omega)
              have u4 : IntKind.u8.wrap ((r : Int) + 1) = (r : Int) + 1 := IntWalk.u8_in _ (by omega)
              have s1 : ∀ W, (Instr.slice 9 (.string ⟨#[48, 49, 50, 51, 52, 53, 54, 55, 56, 57, 97, 98, 99, 100, 101, 102]⟩) (some (.int .u8 (p : Int))) (some (.int .u8 ((p : Int) + 1))) none).run Tryz.prog W = .ok (.string ⟨#[hxL.getD p 0]⟩) W := fun W => slice1b (x := hxL) hp16 W
              have s2 : ∀ W, (Instr.slice 9 (.string ⟨#[48, 49, 50, 51, 52, 53, 54, 55, 56, 57, 97, 98, 99, 100, 101, 102]⟩) (some (.int .u8 (r : Int))) (some (.int .u8 ((r : Int) + 1))) none).run Tryz.prog W = .ok (.string ⟨#[hxL.getD r 0]⟩) W := fun W => slice1b (x := hxL) hr16 W
              generalize hxL.getD p 0 = c1 at *
              generalize hxL.getD r 0 = c2 at *
              have hap1 := str_app o [92, 117, 48, 48]
              have hap2 := str_app (o ++ [92, 117, 48, 48]) [c1]
              have hap3 := str_app (o ++ [92, 117, 48, 48] ++ [c1]) [c2]
              have hl1 : o.length + 4 ≤ 9223372036854775807 := by omega
              have hl2 : o.length + 4 + 1 ≤ 9223372036854775807 := by omega
              have hl3 : o.length + 4 + 1 + 1 ≤ 9223372036854775807 := by omega
              have HO2 := Lib.hid (show (o ++ [92, 117, 48, 48] ++ [c1]) ++ [c2] = 34 :: (l.take (k + 1)).flatMap qB by rw [HT.out, hO.out, HQ.out]; simp)
              clear hbd h0 hm1 hol hp hr h3
              go_wp2_with fail
              go_quiet (fail)
              go_wp2_with fail
              go_roundw
              case rel => exact ⟨k + 1, (o ++ [92, 117, 48, 48] ++ [c1]) ++ [c2], by omega, by go_num, by have h := str_app (o ++ [92, 117, 48, 48, c1]) [c2]; rw [show (o ++ [92, 117, 48, 48] ++ [c1]) ++ [c2] = (o ++ [92, 117, 48, 48, c1]) ++ [c2] by simp]; exact congrArg Value.string h, HO2, below_drewN HBK.out _⟩
              case measure => simp only [intOf]; omega
            · have h3' : ¬ ((c.toNat : Nat) : Int) < 32 := by omega
              have HQ := Lib.hid (show qB c = [c] by unfold qB; rw [if_neg h0, if_neg h3])
              have hap1 := str_app o [c]
              have hl1 : o.length + 1 ≤ 9223372036854775807 := by omega
              have HO2 := Lib.hid (show o ++ [c] = 34 :: (l.take (k + 1)).flatMap qB by rw [HT.out, hO.out, HQ.out]; simp)
              clear hbd h0 hm1 hol h3
              go_wp2_with fail
              go_roundw
              case rel => exact ⟨k + 1, o ++ [c], by omega, by go_num, rfl, HO2, HBK.out⟩
              case measure => simp only [intOf]; omega
    · have h1' : ¬ (k : Int) < (n : Int) := by omega
      have hkn : k = n := by omega
      have happ := str_app o [34]
      have hlx : o.length + 1 ≤ 9223372036854775807 := by omega
      have HFIN := Lib.hid (show quoL' l = o ++ [34] by
        rw [HRES.out, hO.out, List.take_of_length_le (by have := HN.out; omega)]
        rfl)
      clear hkn hol
      go_wp2_with fail
      go_ret2
      exact ⟨by rw [HFIN.out]; rfl, HB.out⟩
end Go.Proofs.YtlblddeemkefkaaGreatDoor
