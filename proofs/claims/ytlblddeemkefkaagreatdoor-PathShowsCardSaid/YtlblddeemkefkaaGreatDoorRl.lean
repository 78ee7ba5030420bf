/- The walks of the reference's digits and Valid. -/
import Derived.Test.YtlblddeemkefkaaGreatDoorNs
import Derived.Test.YtlblddeemkefkaaGreatDoorYa
namespace Go.Proofs.YtlblddeemkefkaaGreatDoor
set_option linter.unusedVariables false
set_option linter.unusedSimpArgs false
open Go.RowKit Go.Shelf
def digL : List UInt8 := [48, 49, 50, 51, 52, 53, 54, 55, 56, 57]
theorem dig_at {d : Nat} (h : d < 10) : digL.getD d 0 = UInt8.ofNat (48 + d) := by
  have : ∀ d : Fin 10, digL.getD d.1 0 = UInt8.ofNat (48 + d.1) := by decide
  exact this ⟨d, h⟩
theorem dig_run {d : Nat} (h : d < 10) (W : World) : (Instr.slice 9 (.string ⟨#[48, 49, 50, 51, 52, 53, 54, 55, 56, 57]⟩) (some (.int .i64 d)) (some (.int .i64 ((d : Int) + 1))) none).run Tryz.prog W = .ok (.string ⟨#[UInt8.ofNat (48 + d)]⟩) W := by
  have := slice1 (x := digL) (m := d) (by exact h) W
  rw [dig_at h] at this
  exact this
theorem dec_one {n : Nat} (h : n < 10) : Lib.decDigits n = [UInt8.ofNat (48 + n)] := by rw [Lib.decDigits, dif_pos h]
theorem dec_more {n : Nat} (h : ¬ n < 10) : Lib.decDigits n = Lib.decDigits (n / 10) ++ [UInt8.ofNat (48 + n % 10)] := by rw [Lib.decDigits, dif_neg h]
theorem dec_len : ∀ (k n : Nat), n ≤ k → (Lib.decDigits n).length ≤ n + 1
  | 0, n, h => by
    obtain rfl : n = 0 := by omega
    rw [dec_one (by omega)]
    simp
  | k + 1, n, h => by
    by_cases h10 : n < 10
    · rw [dec_one h10]; simp
    · have := dec_len k (n / 10) (by omega)
      rw [dec_more h10, List.length_append, List.length_cons, List.length_nil]
      omega
set_option maxHeartbeats 4000000 in
set_option maxRecDepth 100000 in
theorem rdigits_any : ∀ (k n : Nat), n ≤ k → n ≤ 1000000000 → ∀ w : World, Calls Tryz.prog 44 #[.int .i64 n] w fun e w' => e = .returned (strV (Lib.decDigits n)) ∧ w' = w := by
  intro k
  induction k with
  | zero =>
    intro n hn _ w
    obtain rfl : n = 0 := by omega
    have HD := Lib.hid (dec_one (n := 0) (by omega))
    have hr := dig_run (d := 0) (by omega)
    rw [show UInt8.ofNat (48 + 0) = 48 from rfl] at hr HD
    go_enter Tryz.func44, Tryz.ntmps44
    go_wp2_with fail
    go_ret
    exact ⟨by rw [HD.out]; rfl, rfl⟩
  | succ k ih =>
    intro n hn hz w
    obtain ⟨d, hd⟩ : ∃ d, d = n % 10 := ⟨_, rfl⟩
    have hd10 : d < 10 := by omega
    have hr := dig_run hd10
    obtain ⟨b, hbb⟩ : ∃ b, b = UInt8.ofNat (48 + d) := ⟨_, rfl⟩
    rw [← hbb] at hr
    have m1 : ((n : Int)).tmod 10 = (d : Int) := by rw [Int.tmod_eq_emod_of_nonneg (by omega)]; omega
    have q1 : IntKind.i64.wrap (d : Int) = (d : Int) := IntWalk.i64_in _ (by omega)
    have q2 : IntKind.i64.wrap ((d : Int) + 1) = (d : Int) + 1 := IntWalk.i64_in _ (by omega)
    by_cases h10 : n < 10
    · have h10' : (n : Int) < 10 := by omega
      have hdn : d = n := by omega
      have HD := Lib.hid (show Lib.decDigits n = [b] by rw [dec_one h10, hbb, hdn])
      clear hd ih hbb hdn
      go_enter Tryz.func44, Tryz.ntmps44
      go_wp2_with fail
      go_ret
      exact ⟨by rw [HD.out]; rfl, rfl⟩
    · have h10' : ¬ (n : Int) < 10 := by omega
      obtain ⟨m, hm⟩ : ∃ m, m = n / 10 := ⟨_, rfl⟩
      have m2 : ((n : Int)).tdiv 10 = (m : Int) := by rw [Int.tdiv_eq_ediv_of_nonneg (by omega)]; omega
      have q3 : IntKind.i64.wrap (m : Int) = (m : Int) := IntWalk.i64_in _ (by omega)
      have HC := Lib.hid (ih m (by omega) (by omega) w)
      have hlen := dec_len m m (Nat.le_refl _)
      have hsum := str_app (Lib.decDigits m) [b]
      have hlx : (Lib.decDigits m).length + 1 ≤ 9223372036854775807 := by omega
      have HD := Lib.hid (show Lib.decDigits n = Lib.decDigits m ++ [b] by rw [dec_more h10, ← hm, ← hd, ← hbb])
      unfold strV at HC ⊢
      generalize Lib.decDigits m = x at *
      generalize Lib.decDigits n = y at *
      clear hm hd ih hlen hbb
      go_enter Tryz.func44, Tryz.ntmps44
      go_wp2_with fail
      refine HC.out.mono ?_
      rintro e w1 ⟨rfl, rfl⟩
      go_wp2_with fail
      go_ret
      exact ⟨by rw [HD.out]; rfl, rfl⟩
theorem valid_done {l : List UInt8} (hne : l ≠ []) (hd : DoneU l.length (bat l 0) (bat l 1) (bat l 2) (bat l 3)) : Lib.validD l = Lib.validD (l.drop (longB (bat l 0))) := by
  have hb : ∀ i, bat l i < 256 := fun i => by unfold bat; exact (l.getD i 0).toNat_lt
  have e : Lib.decodeL l = (runeN (bat l 0) (bat l 1) (bat l 2) (bat l 3), longB (bat l 0)) := by
    rw [Lib.decodeL_N]
    exact dec_done (hb 0) (hb 1) (hb 2) (hb 3) hd
  rw [Lib.validD_step l hne, e]
  dsimp only
  rw [if_neg]
  rintro ⟨a, b⟩
  exact rune_ne (hb 0) hd ⟨a, by omega⟩
theorem valid_not {l : List UInt8} (hne : l ≠ []) (hd : ¬ DoneU l.length (bat l 0) (bat l 1) (bat l 2) (bat l 3)) : Lib.validD l = false := by
  have hb : ∀ i, bat l i < 256 := fun i => by unfold bat; exact (l.getD i 0).toNat_lt
  have hpos : 1 ≤ l.length := List.length_pos_iff.2 hne
  have e : Lib.decodeL l = (65533, 1) := by
    rw [Lib.decodeL_N]
    exact dec_not (hb 0) (hb 1) (hb 2) (hb 3) hpos hd
  rw [Lib.validD_step l hne, e]
  rfl
def strL : Value → Nat
  | .string b => b.size
  | _ => 0
set_option maxHeartbeats 8000000 in
set_option maxRecDepth 100000 in
theorem rvalid_any (l : List UInt8) (w : World) (hl : l.length ≤ 1073741824) : Calls Tryz.prog 79 #[strV l] w fun e w' => e = .returned (.bool (Lib.validD l)) ∧ Below w.heap.size w w' := by
  obtain ⟨r, hr⟩ : ∃ r, r = Lib.validD l := ⟨_, rfl⟩
  rw [← hr]
  unfold strV
  go_enter Tryz.func79, Tryz.ntmps79
  go_wp2_with fail
  go_loopw [0] (fun s0 wr => ∃ x : List UInt8, x.length ≤ 1073741824 ∧ s0 = .string ⟨x.toArray⟩ ∧ Hid (r = Lib.validD x) ∧ Below w.heap.size w wr) (fun s0 _ => strL s0)
  case atStart => exact ⟨l, hl, rfl, Lib.hid hr, Below.refl _ _⟩
  case round =>
    rename_i wr
    obtain ⟨x, hx, rfl, hF, hb⟩ := hrel
    have HB := Lib.hid hb
    clear hb hr hl
    have hs : (⟨x.toArray⟩ : ByteArray).size = x.length := by simp [ByteArray.size]
    by_cases hne : x = []
    · subst hne
      have HFIN := Lib.hid (show r = true from hF.out)
      go_wp2_with fail
      go_ret
      exact ⟨by rw [HFIN.out]; rfl, HB.out⟩
    · have hpos : 0 < x.length := List.length_pos_iff.2 hne
      have hpos' : (0 : Int) < (x.length : Int) := by omega
      have HC := Lib.hid (rnext4_any x hx wr)
      by_cases hd : DoneU x.length (bat x 0) (bat x 1) (bat x 2) (bat x 3)
      · have hn1 := hd.1
        have hn2 := hd.2.1
        have hV := valid_done hne hd
        have HV : Calls Tryz.prog 111 #[.string ⟨x.toArray⟩] wr fun o w' => o = .returned (.tuple #[.int .i32 (vUp (headZ (longB (bat x 0))) x (longB (bat x 0) - 1)), .int .i64 (longB (bat x 0)), .bool true]) ∧ Below wr.heap.size wr w' := by
          have h := HC.out
          unfold nextV at h
          rw [if_pos hd] at h
          exact h
        replace HV := Lib.hid HV
        have hsl := sub_from x (longB (bat x 0)) hn2
        have HG := Lib.hid (hF.out.trans hV)
        generalize vUp (headZ (longB (bat x 0))) x (longB (bat x 0) - 1) = vv at *
        generalize longB (bat x 0) = n at *
        clear hd hV HC hF
        go_wp2_with fail
        refine HV.out.mono ?_
        rintro e w1 ⟨rfl, hb1⟩
        have HB1 := Lib.hid (HB.out.trans (hb1.mono HB.out.size))
        clear hb1 HV
        go_wp2_with fail
        go_roundw
        case rel => exact ⟨x.drop n, by rw [List.length_drop]; omega, rfl, HG, HB1.out⟩
        case measure =>
          show (⟨(x.drop n).toArray⟩ : ByteArray).size < (⟨x.toArray⟩ : ByteArray).size
          simp only [ByteArray.size, List.size_toArray, List.length_drop]
          omega
      · have HFIN := Lib.hid (hF.out.trans (valid_not hne hd))
        have HV : Calls Tryz.prog 111 #[.string ⟨x.toArray⟩] wr fun o w' => o = .returned (.tuple #[.int .i32 0, .int .i64 0, .bool false]) ∧ Below wr.heap.size wr w' := by
          have h := HC.out
          unfold nextV at h
          rw [if_neg hd] at h
          exact h
        replace HV := Lib.hid HV
        clear hd HC hF
        go_wp2_with fail
        refine HV.out.mono ?_
        rintro e w1 ⟨rfl, hb1⟩
        have HB1 := Lib.hid (HB.out.trans (hb1.mono HB.out.size))
        clear hb1 HV
        go_wp2_with fail
        go_ret
        exact ⟨by rw [HFIN.out]; rfl, HB1.out⟩
end Go.Proofs.YtlblddeemkefkaaGreatDoor
