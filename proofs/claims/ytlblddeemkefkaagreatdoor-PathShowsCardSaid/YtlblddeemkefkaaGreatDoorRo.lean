/- The walk of the reference's Quote at texts that are not valid, and of its Show. -/
import Derived.Test.YtlblddeemkefkaaGreatDoorRn
import Derived.Test.YtlblddeemkefkaaGreatDoorRe
import Derived.Test.YtlblddeemkefkaaGreatDoorRg
namespace Go.Proofs.YtlblddeemkefkaaGreatDoor
set_option linter.unusedVariables false
set_option linter.unusedSimpArgs false
open Go.RowKit Go.Shelf
theorem itoa_dec (m : Nat) : Lib.itoa (m : Int) = Lib.decDigits m := by
  unfold Lib.itoa
  rw [if_neg (by omega), Int.toNat_natCast]
set_option maxHeartbeats 8000000 in
set_option maxRecDepth 100000 in
theorem rquote_bad (l : List UInt8) (hv : Lib.validD l = false) (hl : l.length ≤ 1048576) (w : World) : Calls Tryz.prog 45 #[strV l] w fun e w' => e = .returned (.tuple #[.string ⟨#[]⟩, .int .i64 40]) ∧ Below w.heap.size w w' := by
  have HV := Lib.hid (rvalid_any l w (by omega))
  rw [hv] at HV
  clear hv
  unfold strV at HV ⊢
  go_enter Tryz.func45, Tryz.ntmps45
  go_wp2_with fail
  refine HV.out.mono ?_
  rintro e w1 ⟨rfl, hb1⟩
  have HB1 := Lib.hid hb1
  clear hb1 HV
  go_wp2_with fail
  go_ret2
  exact ⟨rfl, HB1.out⟩
set_option maxHeartbeats 16000000 in
set_option maxRecDepth 100000 in
theorem rshow_any (p : List PS) (w : World) (A : Option Addr) (c : Nat) (hp : StepRd w (.slice A p.length c) p) (hk : ∀ s ∈ p, s.1.length ≤ 600 ∧ -9223372036854775808 ≤ s.2.1 ∧ s.2.1 ≤ 9223372036854775807) :
    Calls Tryz.prog 15 #[.slice A p.length c] w fun e w' => e = .returned (.tuple #[strV (showM p).1, .int .i64 (showM p).2]) ∧ Below w.heap.size w w' := by
  have hbd := Rd.bound hp
  have HP := Lib.hid hp
  have HK := Lib.hid hk
  obtain ⟨n, hn⟩ : ∃ n, n = p.length := ⟨_, rfl⟩
  rw [← hn] at hbd ⊢
  have HN := Lib.hid hn
  clear hp hk hn
  unfold strV
  go_enter Tryz.func15, Tryz.ntmps15
  by_cases h64 : (64 : Int) < (n : Int)
  · have HE := Lib.hid (show showM p = ([], 5) by unfold showM; rw [if_pos (by have := HN.out; omega)])
    go_wp2_with fail
    go_ret2
    exact ⟨by rw [HE.out]; rfl, Below.refl _ _⟩
  · have hn64 : n ≤ 64 := by omega
    go_wp2_with fail
    go_loopw [4, 5] (fun s4 s5 wr => ∃ (k : Nat) (o : List UInt8), k ≤ n ∧ s5 = .int .i64 k ∧ s4 = .string ⟨o.toArray⟩ ∧ Hid (ShowPre p k o) ∧ o.length ≤ k * 4000 ∧ Below w.heap.size w wr) (fun _ s5 _ => n - (intOf s5).toNat)
    case atStart => exact ⟨0, [], by omega, rfl, rfl, Lib.hid ⟨rfl, rfl⟩, by simp, Below.refl _ _⟩
    case round =>
      rename_i wr
      obtain ⟨k, o, hkn, rfl, rfl, HG, hol, hb⟩ := hrel
      have HB := Lib.hid hb
      by_cases h1 : k < n
      · have h1' : (k : Int) < (n : Int) := by omega
        have hkl : k < p.length := by rw [← HN.out]; exact h1
        have hl64 : p.length ≤ 64 := by rw [← HN.out]; exact hn64
        have hSt : StepRd w (.slice A n c) p := by
          have := HP.out
          have e := HN.out
          rw [← e] at this
          exact this
        obtain ⟨b, ob, rfl, hblt, hblr, s0, s1, s2⟩ := hSt.at_ hb k hkl
        have hKk := HK.out _ (List.getElem_mem hkl)
        obtain ⟨st, hst⟩ : ∃ st, p[k] = st := ⟨_, rfl⟩
        rw [hst] at s0 s1 s2 hKk
        obtain ⟨key, at_, by_⟩ := st
        dsimp only at s0 s1 s2 hKk
        have HBAD := Lib.hid (fun h => HG.out.bad hl64 hkl hst h)
        have HNEXT := Lib.hid (fun x => HG.out.next (x := x) hkl hst)
        clear hst hSt hb
        go_upto_region 8 with fail
        refine wp_named (fun wx => Below wr.heap.size wr wx ∧ wx.heap[wr.heap.size]? = some (.cells #[.string ⟨key.toArray⟩, .int .i64 at_, .bool by_] 50 (0, 0))) ⟨(Below.refl _ wr).alloc (Nat.le_refl _) _, heap_alloc_new _ _⟩ ?_
        rintro wx ⟨hbx, h6⟩
        have HBX := Lib.hid (HB.out.trans (hbx.mono HB.out.size))
        have HR6 := Lib.hid h6
        obtain ⟨z0, z1, z2⟩ := at3 h6
        generalize wr.heap.size = P6 at HR6 z0 z1 z2 ⊢
        clear hbx h6 s0 s1 s2 hblt hblr
        cases by_ with
        | false =>
          by_cases hkey : key = []
          · subst hkey
            by_cases ha0 : at_ < 0
            · have HE := Lib.hid (HBAD.out (by unfold stepOK; rw [if_neg (by simp)]; simp; omega))
              go_wp2_with fail
              go_ret2
              exact ⟨by rw [HE.out]; rfl, HBX.out⟩
            · by_cases ha1 : (999999999 : Int) < at_
              · have HE := Lib.hid (HBAD.out (by unfold stepOK; rw [if_neg (by simp)]; simp; omega))
                go_wp2_with fail
                go_ret2
                exact ⟨by rw [HE.out]; rfl, HBX.out⟩
              · obtain ⟨m, rfl⟩ : ∃ m : Nat, at_ = (m : Int) := ⟨at_.toNat, by omega⟩
                have HC := Lib.hid (rdigits_any m m (Nat.le_refl _) (by omega) wx)
                have HO2 := Lib.hid (HNEXT.out (o ++ [91] ++ Lib.decDigits m ++ [93]) (by unfold stepOK; rw [if_neg (by simp)]; simp; omega) (by unfold stepT; rw [if_neg (by simp)]; rw [show Lib.itoa (([], (m : Int), false) : PS).2.1 = Lib.decDigits m from itoa_dec m]; simp))
                have hdl : (Lib.decDigits m).length ≤ 100 := by have := Lib.itoa_length_le (m : Int) (by omega) (by omega); rw [itoa_dec] at this; omega
                unfold strV at HC
                generalize Lib.decDigits m = ds at *
                have hap1 := str_app o [91]
                have hap2 := str_app (o ++ [91]) ds
                have hap3 := str_app (o ++ [91] ++ ds) [93]
                have hl1 : o.length + 1 ≤ 9223372036854775807 := by omega
                have hl2 : o.length + 1 + ds.length ≤ 9223372036854775807 := by omega
                have hl3 : o.length + 1 + ds.length + 1 ≤ 9223372036854775807 := by omega
                have HOL := Lib.hid (show (o ++ [91] ++ ds ++ [93]).length ≤ (k + 1) * 4000 by simp only [List.length_append, List.length_cons, List.length_nil]; omega)
                have q2 : IntKind.i64.wrap ((k : Int) + 1) = (k : Int) + 1 := IntWalk.i64_in _ (by omega)
                clear hol hdl hKk HBAD HNEXT
                go_wp2_with fail
                refine HC.out.mono ?_
                rintro e w1 ⟨rfl, rfl⟩
                go_wp2_with fail
                go_roundw
                case rel => exact ⟨k + 1, o ++ [91] ++ ds ++ [93], by omega, by go_num, by have h := str_app (o ++ 91 :: ds) [93]; rw [show (o ++ [91] ++ ds) ++ [93] = (o ++ 91 :: ds) ++ [93] by simp]; exact congrArg Value.string h, HO2, HOL.out, HBX.out⟩
                case measure => simp only [intOf]; omega
          · have HE := Lib.hid (HBAD.out (by unfold stepOK; rw [if_neg (by simp)]; simp [hkey]))
            go_wp2_with fail
            go_ret2
            exact ⟨by rw [HE.out]; rfl, HBX.out⟩
        | true =>
          have hkl6 : key.length ≤ 1048576 := by omega
          cases hv : Lib.validD key with
          | false =>
            have HE := Lib.hid (HBAD.out (by unfold stepOK; rw [if_pos rfl]; simp [hv]))
            have HC := Lib.hid (rquote_bad key hv hkl6 wx)
            unfold strV at HC
            clear HBAD HNEXT hv
            go_wp2_with fail
            refine HC.out.mono ?_
            rintro e w1 ⟨rfl, hb1⟩
            have HB1 := Lib.hid (HBX.out.trans (hb1.mono HBX.out.size))
            have h6 := below_row HR6.out hb1
            obtain ⟨y0, y1, y2⟩ := at3 h6
            clear hb1 HC h6 z0 z1 z2
            go_wp2_with fail
            go_ret2
            exact ⟨by rw [HE.out]; rfl, HB1.out⟩
          | true =>
            have HC := Lib.hid (rquote_ok key hv hkl6 wx)
            have hql := quoL_len key
            unfold strV at HC
            by_cases ha : at_ = 0
            · subst ha
              have HZ := Lib.hid (fun V => rzero_any key V (by omega))
              unfold strV at HZ
              by_cases hz : keyE key = 0
              · rw [show decide (keyE key ≠ 0) = false from decide_eq_false (fun h => h hz)] at HZ
                have hidx : Lib.indexByte key 0 < 0 := by
                  unfold keyE at hz
                  by_cases h : 0 ≤ Lib.indexByte key 0
                  · rw [if_pos h] at hz; cases hz
                  · omega
                have HO2 := Lib.hid (HNEXT.out (o ++ [91] ++ quoL' key ++ [93]) (by unfold stepOK; rw [if_pos rfl]; simp [hv, hidx]) (by unfold stepT; rw [if_pos rfl]; simp))
                generalize quoL' key = qs at *
                have hap1 := str_app o [91]
                have hap2 := str_app (o ++ [91]) qs
                have hap3 := str_app (o ++ [91] ++ qs) [93]
                have hl1 : o.length + 1 ≤ 9223372036854775807 := by omega
                have hl2 : o.length + 1 + qs.length ≤ 9223372036854775807 := by omega
                have hl3 : o.length + 1 + qs.length + 1 ≤ 9223372036854775807 := by omega
                have HOL := Lib.hid (show (o ++ [91] ++ qs ++ [93]).length ≤ (k + 1) * 4000 by simp only [List.length_append, List.length_cons, List.length_nil]; omega)
                have q2 : IntKind.i64.wrap ((k : Int) + 1) = (k : Int) + 1 := IntWalk.i64_in _ (by omega)
                clear hol hql hKk HBAD HNEXT hidx hz hv
                go_wp2_with fail
                refine HC.out.mono ?_
                rintro e w1 ⟨rfl, hb1⟩
                have HB1 := Lib.hid (HBX.out.trans (hb1.mono HBX.out.size))
                have h6 := below_row HR6.out hb1
                obtain ⟨y0, y1, y2⟩ := at3 h6
                clear hb1 HC h6 z0 z1 z2
                go_wp2_with fail
                refine (HZ.out w1).mono ?_
                rintro e w2 ⟨rfl, rfl⟩
                go_wp2_with fail
                go_roundw
                case rel => exact ⟨k + 1, o ++ [91] ++ qs ++ [93], by omega, by go_num, by have h := str_app (o ++ 91 :: qs) [93]; rw [show (o ++ [91] ++ qs) ++ [93] = (o ++ 91 :: qs) ++ [93] by simp]; exact congrArg Value.string h, HO2, HOL.out, HB1.out⟩
                case measure => simp only [intOf]; omega
              · rw [show decide (keyE key ≠ 0) = true from decide_eq_true hz] at HZ
                have HE := Lib.hid (HBAD.out (by
                  unfold stepOK
                  rw [if_pos rfl]
                  have hidx : ¬ Lib.indexByte key 0 < 0 := by
                    unfold keyE at hz
                    by_cases h : 0 ≤ Lib.indexByte key 0
                    · omega
                    · rw [if_neg h] at hz; exact absurd rfl hz
                  simp [hv, hidx]))
                clear HBAD HNEXT hz hv hql
                go_wp2_with fail
                refine HC.out.mono ?_
                rintro e w1 ⟨rfl, hb1⟩
                have HB1 := Lib.hid (HBX.out.trans (hb1.mono HBX.out.size))
                have h6 := below_row HR6.out hb1
                obtain ⟨y0, y1, y2⟩ := at3 h6
                clear hb1 HC h6 z0 z1 z2
                go_wp2_with fail
                refine (HZ.out w1).mono ?_
                rintro e w2 ⟨rfl, rfl⟩
                go_wp2_with fail
                go_ret2
                exact ⟨by rw [HE.out]; rfl, HB1.out⟩
            · have HE := Lib.hid (HBAD.out (by unfold stepOK; rw [if_pos rfl]; simp [hv, ha]))
              have ha' : (at_ != 0) = true := by simpa using ha
              clear HBAD HNEXT hv hql ha
              go_wp2_with fail
              refine HC.out.mono ?_
              rintro e w1 ⟨rfl, hb1⟩
              have HB1 := Lib.hid (HBX.out.trans (hb1.mono HBX.out.size))
              have h6 := below_row HR6.out hb1
              obtain ⟨y0, y1, y2⟩ := at3 h6
              clear hb1 HC h6 z0 z1 z2
              go_wp2_with fail
              go_ret2
              exact ⟨by rw [HE.out]; rfl, HB1.out⟩
      · have h1' : ¬ (k : Int) < (n : Int) := by omega
        obtain rfl : k = n := by omega
        have HE := Lib.hid (show showM p = (o, 0) by
          have h := HG.out
          rw [HN.out] at h
          exact h.fin (by rw [← HN.out]; exact hn64))
        go_wp2_with fail
        go_ret2
        exact ⟨by rw [HE.out]; rfl, HB.out⟩
end Go.Proofs.YtlblddeemkefkaaGreatDoor
