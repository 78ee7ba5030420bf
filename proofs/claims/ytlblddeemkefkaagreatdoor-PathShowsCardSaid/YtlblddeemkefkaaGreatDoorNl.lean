/- The walk of accordionref04.Next. -/
import Derived.Test.YtlblddeemkefkaaGreatDoorNk
namespace Go.Proofs.YtlblddeemkefkaaGreatDoor
set_option linter.unusedVariables false
set_option linter.unusedSimpArgs false
open Go.RowKit Go.Shelf
/-- What the reference's Next hands back. -/
def nextV (l : List UInt8) : Value := if DoneU l.length (bat l 0) (bat l 1) (bat l 2) (bat l 3) then .tuple #[.int .i32 (vUp (headZ (longB (bat l 0))) l (longB (bat l 0) - 1)), .int .i64 (longB (bat l 0)), .bool true] else .tuple #[.int .i32 0, .int .i64 0, .bool false]
theorem str_neq_run (a b : List UInt8) (W : World) : (binOp .neq 9 (.string ⟨a.toArray⟩) (.string ⟨b.toArray⟩)).run Tryz.prog W = .ok (.bool (!decide (a = b))) W := by
  have e := str_eq a b
  by_cases h : a = b
  · subst h
    simp [go_sem]
  · simp [go_sem, e, h]
theorem bat_idx {l : List UInt8} {i : Nat} (h : i < l.length) (h' : i < (⟨l.toArray⟩ : ByteArray).size) : (⟨l.toArray⟩ : ByteArray)[i]'h' = l.getD i 0 := by
  show l.toArray[i] = _
  simp [List.getD_eq_getElem?_getD, h]
set_option maxHeartbeats 4000000 in
set_option maxRecDepth 100000 in
theorem next4_bad (l : List UInt8) (hl : l.length ≤ 1073741824) (h : ¬ (1 ≤ longB (bat l 0) ∧ longB (bat l 0) ≤ l.length)) (w : World) : Calls Tryz.prog 111 #[strV l] w fun o w' => o = .returned (nextV l) ∧ Below w.heap.size w w' := by
  have hs : (⟨l.toArray⟩ : ByteArray).size = l.length := by simp [ByteArray.size]
  have hr : nextV l = .tuple #[.int .i32 0, .int .i64 0, .bool false] := by
    unfold nextV
    rw [if_neg (fun g => h ⟨g.1, g.2.1⟩)]
  rw [hr]
  clear hr
  unfold strV
  by_cases h0 : l.length = 0
  · have hz : ((l.length : Int) == 0) = true := by simp [h0]
    clear h
    go_enter Tryz.func111, Tryz.ntmps111
    go_wp2_with fail
    go_ret3
    exact ⟨rfl, Below.refl _ _⟩
  have hz : ((l.length : Int) == 0) = false := by simp [h0]
  have hidx := bat_idx (l := l) (i := 0) (by omega) (by omega)
  have hb : (l.getD 0 0).toNat = bat l 0 := rfl
  have HL : Hid (∀ W, Calls Tryz.prog 136 #[.int .u8 (l.getD 0 0).toNat] W fun o w' => o = .returned (.int .i64 (longB (bat l 0))) ∧ w' = W) := Lib.hid (fun W => long_any (l.getD 0 0) W)
  clear hb
  generalize l.getD 0 0 = c at *
  generalize longB (bat l 0) = n at *
  by_cases hn : n = 0
  · have hnz : ((n : Int) == 0) = true := by simp [hn]
    clear h hn
    go_enter Tryz.func111, Tryz.ntmps111
    go_wp2_with fail
    refine (HL.out _).mono ?_
    rintro e w1 ⟨rfl, rfl⟩
    clear HL
    go_wp2_with fail
    go_ret3
    exact ⟨rfl, Below.refl _ _⟩
  · have hnz : ((n : Int) == 0) = false := by simp [hn]
    have hdn : l.length < n := by omega
    have hdz : (l.length : Int) < (n : Int) := by omega
    clear h hn
    go_enter Tryz.func111, Tryz.ntmps111
    go_wp2_with fail
    refine (HL.out _).mono ?_
    rintro e w1 ⟨rfl, rfl⟩
    clear HL
    go_wp2_with fail
    go_ret3
    exact ⟨rfl, Below.refl _ _⟩
set_option maxHeartbeats 4000000 in
set_option maxRecDepth 100000 in
theorem next4_ok (l : List UInt8) (hl : l.length ≤ 1073741824) (h1 : 1 ≤ longB (bat l 0)) (h2 : longB (bat l 0) ≤ l.length) (w : World) : Calls Tryz.prog 111 #[strV l] w fun o w' => o = .returned (nextV l) ∧ Below w.heap.size w w' := by
  have hs : (⟨l.toArray⟩ : ByteArray).size = l.length := by simp [ByteArray.size]
  have hvb := vUp_bd (l := l) (head_nn (longB (bat l 0))) head_le
  have hiff := next_iff h1 h2
  obtain ⟨res, hr⟩ : ∃ r, r = nextV l := ⟨_, rfl⟩
  rw [← hr]
  unfold nextV at hr
  have hz : ((l.length : Int) == 0) = false := by simp only [beq_eq_false_iff_ne, ne_eq]; omega
  have hpl : 0 < l.length := by omega
  have hps : 0 < (⟨l.toArray⟩ : ByteArray).size := by omega
  have hidx := bat_idx (l := l) (i := 0) hpl hps
  have hb : (l.getD 0 0).toNat = bat l 0 := rfl
  have HL : Hid (∀ W, Calls Tryz.prog 136 #[.int .u8 (l.getD 0 0).toNat] W fun o w' => o = .returned (.int .i64 (longB (bat l 0))) ∧ w' = W) := Lib.hid (fun W => long_any (l.getD 0 0) W)
  have h4 := long_le (bat l 0)
  have hv0' : vUp (headZ (longB (bat l 0))) l 0 = ((l.getD 0 0).toNat : Int) - headZ (longB (bat l 0)) := rfl
  have hv0 := hv0'
  clear hv0' hb
  generalize l.getD 0 0 = c at *
  have hstep : ∀ k, k + 1 < l.length → vUp (headZ (longB (bat l 0))) l (k + 1) = 64 * vUp (headZ (longB (bat l 0))) l k + ((l.getD (k + 1) 0).toNat : Int) % 64 := fun k _ => rfl
  have hRR : res = if scalB (vUp (headZ (longB (bat l 0))) l (longB (bat l 0) - 1)) = true ∧ Lib.encodeRune (vUp (headZ (longB (bat l 0))) l (longB (bat l 0) - 1)) = l.take (longB (bat l 0)) then .tuple #[.int .i32 (vUp (headZ (longB (bat l 0))) l (longB (bat l 0) - 1)), .int .i64 (longB (bat l 0)), .bool true] else .tuple #[.int .i32 0, .int .i64 0, .bool false] := by
    rw [hr]
    by_cases hd : DoneU l.length (bat l 0) (bat l 1) (bat l 2) (bat l 3)
    · rw [if_pos hd, if_pos (hiff.2 hd)]
    · rw [if_neg hd, if_neg (fun g => hd (hiff.1 g))]
  have HR := Lib.hid hRR
  clear hRR hr hiff
  obtain ⟨hd, hhd⟩ : ∃ z, z = headZ (longB (bat l 0)) := ⟨_, rfl⟩
  rw [← hhd] at hvb hv0 hstep HR
  generalize longB (bat l 0) = n at *
  have HVB := Lib.hid hvb
  have HST := Lib.hid hstep
  have HV0 := Lib.hid hv0
  clear hvb hstep hv0
  have hn4 : n = 1 ∨ n = 2 ∨ n = 3 ∨ n = 4 := by omega
  have hd240 : 0 ≤ hd ∧ hd ≤ 240 := by
    rw [hhd]
    rcases hn4 with rfl | rfl | rfl | rfl <;> decide
  have hwr : IntKind.i64.wrap ((c.toNat : Int) - hd) = vUp hd l 0 := by
    have := HV0.out
    have := (HVB.out 0).1
    rw [HV0.out]
    have hc := c.toNat_lt
    exact IntWalk.i64_in _ (by omega)
  unfold strV
  have hw0 : wrap64 (c.toNat : Int) = (c.toNat : Int) := by
    have hc := c.toNat_lt
    exact IntWalk.wrap64_in _ (by omega)
  have hwr2 : wrap64 ((c.toNat : Int) - hd) = vUp hd l 0 := by rw [← IntWalk.i64_left]; exact hwr
  rcases hn4 with rfl | rfl | rfl | rfl
  · have e : hd = 0 := hhd
    subst e
    clear hhd h1 h4 hd240
    go_enter Tryz.func111, Tryz.ntmps111
    go_wp2_with fail
    refine (HL.out _).mono ?_
    rintro e w1 ⟨rfl, rfl⟩
    clear HL
    go_upto_region 6 with fail
    go_region
    go_wp2_with fail
    go_loopw [6, 7] (fun v i wr => ∃ k : Nat, i = .int .i64 (((k + 1 : Nat) : Int)) ∧ v = .int .i64 (vUp 0 l k) ∧ k + 1 ≤ 1 ∧ Below w1.heap.size w1 wr) (fun _ i _ => 1 - (intOf i).toNat)
    case atStart =>
      refine ⟨0, rfl, ?_, by omega, below_drew1 ((Below.refl _ _).alloc (Nat.le_refl _) _)⟩
      first
        | with_reducible rfl
        | (rw [Int.sub_zero] at hwr2; with_reducible exact congrArg (Value.int .i64) hwr2)
    case round =>
      clear hwr hwr2 hw0
      obtain ⟨k, rfl, rfl, hk, hb⟩ := hrel
      have HB := Lib.hid hb
      clear hb
      by_cases hlt : k + 1 < 1
      · exact absurd hlt (by omega)
      · have hkn : k = 0 := by omega
        subst hkn
        have hb1 := HVB.out 0
        have hsub : ∀ W : World, (Instr.slice 9 (.string ⟨l.toArray⟩) none (some (.int .i64 1)) none).run Tryz.prog W = .ok (.string ⟨(l.take 1).toArray⟩) W := fun W => sub_to l 1 (by omega) W
        have HRR : res = if scalB (vUp 0 l 0) = true ∧ Lib.encodeRune (vUp 0 l 0) = l.take 1 then .tuple #[.int .i32 (vUp 0 l 0), .int .i64 1, .bool true] else .tuple #[.int .i32 0, .int .i64 0, .bool false] := HR.out
        clear HR HVB HST HV0 hk hlt
        generalize vUp 0 l 0 = v at *
        have q32 : IntKind.i32.wrap v = v := IntWalk.i32_in _ (by omega)
        have hpp := fun W => rput_any v (by omega) (by omega) W
        unfold strV at hpp
        cases hsc : scalB v
        case false =>
          rw [if_neg (by rw [hsc]; simp)] at HRR
          rw [hsc] at hpp
          have HP := Lib.hid hpp
          have HR := Lib.hid HRR
          clear hpp HRR hsc hb1
          go_wp2_with fail
          refine (HP.out _).mono ?_
          rintro e w2 ⟨rfl, hb2⟩
          have HB2 := Lib.hid hb2
          clear hb2 HP
          go_wp2_with fail
          go_ret3
          exact ⟨by rw [HR.out]; first | done | rfl, HB.out.trans (HB2.out.mono HB.out.size)⟩
        case true =>
          have hpe : putL v = Lib.encodeRune v := by unfold putL; rw [if_pos hsc]
          rw [hsc, hpe] at hpp
          generalize Lib.encodeRune v = x at *
          have HP := Lib.hid hpp
          by_cases he : x = l.take 1
          · have heq : (x == l.take 1) = true := by simpa using he
            rw [if_pos ⟨hsc, he⟩] at HRR
            have HR := Lib.hid HRR
            clear hpp HRR hsc hb1 hpe he
            go_wp2_with fail
            refine (HP.out _).mono ?_
            rintro e w2 ⟨rfl, hb2⟩
            have HB2 := Lib.hid hb2
            clear hb2 HP
            go_wp2_with fail
            refine bodyPost_ret (v := .tuple #[.int .i32 v, .int .i64 1, .bool true]) (by simp [results, Tryz.results111, go_sem]) rfl ?_
            exact ⟨by rw [HR.out]; first | done | rfl, HB.out.trans (HB2.out.mono HB.out.size)⟩
          · have heq : (x == l.take 1) = false := by simpa using he
            rw [if_neg (fun h => he h.2)] at HRR
            have HR := Lib.hid HRR
            clear hpp HRR hsc hb1 hpe he
            go_wp2_with fail
            refine (HP.out _).mono ?_
            rintro e w2 ⟨rfl, hb2⟩
            have HB2 := Lib.hid hb2
            clear hb2 HP
            go_wp2_with fail
            go_ret3
            exact ⟨by rw [HR.out]; first | done | rfl, HB.out.trans (HB2.out.mono HB.out.size)⟩
  · have e : hd = 192 := hhd
    subst e
    clear hhd h1 h4 hd240
    go_enter Tryz.func111, Tryz.ntmps111
    go_wp2_with fail
    refine (HL.out _).mono ?_
    rintro e w1 ⟨rfl, rfl⟩
    clear HL
    go_upto_region 6 with fail
    go_region
    go_wp2_with fail
    go_loopw [6, 7] (fun v i wr => ∃ k : Nat, i = .int .i64 (((k + 1 : Nat) : Int)) ∧ v = .int .i64 (vUp 192 l k) ∧ k + 1 ≤ 2 ∧ Below w1.heap.size w1 wr) (fun _ i _ => 2 - (intOf i).toNat)
    case atStart =>
      refine ⟨0, rfl, ?_, by omega, below_drew1 ((Below.refl _ _).alloc (Nat.le_refl _) _)⟩
      first
        | with_reducible rfl
        | with_reducible exact congrArg (Value.int .i64) hwr2
    case round =>
      clear hwr hwr2 hw0
      obtain ⟨k, rfl, rfl, hk, hb⟩ := hrel
      have HB := Lib.hid hb
      clear hb
      by_cases hlt : k + 1 < 2
      · have hltz : ((k : Int) + 1) < 2 := by omega
        have hkl : k + 1 < l.length := by omega
        have hks : k + 1 < (⟨l.toArray⟩ : ByteArray).size := by omega
        have hix := bat_idx (l := l) (i := k + 1) hkl hks
        have hst := HST.out k hkl
        have hb1 := HVB.out k
        have hb2 := HVB.out (k + 1)
        have hp : (64 : Int) ^ k ≤ 4096 := by
          have : k = 0 ∨ k = 1 ∨ k = 2 := by omega
          rcases this with rfl | rfl | rfl <;> decide
        have hc2 := (l.getD (k + 1) 0).toNat_lt
        generalize l.getD (k + 1) 0 = d at *
        obtain ⟨v2, hv2⟩ : ∃ z, z = vUp 192 l (k + 1) := ⟨_, rfl⟩
        rw [← hv2] at hst hb2
        have HV2 := Lib.hid hv2
        clear hv2
        generalize vUp 192 l k = v at *
        obtain ⟨y, hy⟩ : ∃ z : Int, z = (d.toNat : Int) % 64 := ⟨_, rfl⟩
        obtain ⟨x, hx⟩ : ∃ z : Int, z = 64 * v := ⟨_, rfl⟩
        have q1 : IntKind.i64.wrap (64 * v) = x := by rw [← hx]; exact IntWalk.i64_in _ (by omega)
        have q2 : (d.toNat : Int).tmod 64 = y := by rw [Int.tmod_eq_emod_of_nonneg (by omega), hy]
        have q3 : (d.toNat : Int) % 64 = y := hy.symm
        have HQ := Lib.hid (show wrap64 (x + (wrap64 (d.toNat : Int)).tmod 64) = v2 by
          rw [IntWalk.wrap64_in (d.toNat : Int) (by omega), q2, show x + y = v2 by omega]
          exact IntWalk.wrap64_in _ (by omega))
        have q6 : IntKind.i64.wrap ((k : Int) + 1 + 1) = (k : Int) + 1 + 1 := IntWalk.i64_in _ (by omega)
        have HK := Lib.hid (show ((((k + 1 : Nat) : Int)) + 1 = (((k + 1 + 1 : Nat) : Int))) ∧ k + 1 + 1 ≤ 2 by omega)
        clear hy hx hst hb1 hb2 hp hc2 hk hlt hkl q2 q3
        go_wp2_with fail
        go_roundw
        case rel => exact ⟨k + 1, by first | (congr 1; push_cast; omega) | go_num, by rw [HQ.out, HV2.out], HK.out.2, HB.out⟩
        case measure => have := HK.out; simp only [intOf]; omega
      · have hkn : k = 1 := by omega
        subst hkn
        have hb1 := HVB.out 1
        have hsub : ∀ W : World, (Instr.slice 9 (.string ⟨l.toArray⟩) none (some (.int .i64 2)) none).run Tryz.prog W = .ok (.string ⟨(l.take 2).toArray⟩) W := fun W => sub_to l 2 (by omega) W
        have HRR : res = if scalB (vUp 192 l 1) = true ∧ Lib.encodeRune (vUp 192 l 1) = l.take 2 then .tuple #[.int .i32 (vUp 192 l 1), .int .i64 2, .bool true] else .tuple #[.int .i32 0, .int .i64 0, .bool false] := HR.out
        clear HR HVB HST HV0 hk hlt
        generalize vUp 192 l 1 = v at *
        have q32 : IntKind.i32.wrap v = v := IntWalk.i32_in _ (by omega)
        have hpp := fun W => rput_any v (by omega) (by omega) W
        unfold strV at hpp
        cases hsc : scalB v
        case false =>
          rw [if_neg (by rw [hsc]; simp)] at HRR
          rw [hsc] at hpp
          have HP := Lib.hid hpp
          have HR := Lib.hid HRR
          clear hpp HRR hsc hb1
          go_wp2_with fail
          refine (HP.out _).mono ?_
          rintro e w2 ⟨rfl, hb2⟩
          have HB2 := Lib.hid hb2
          clear hb2 HP
          go_wp2_with fail
          go_ret3
          exact ⟨by rw [HR.out]; first | done | rfl, HB.out.trans (HB2.out.mono HB.out.size)⟩
        case true =>
          have hpe : putL v = Lib.encodeRune v := by unfold putL; rw [if_pos hsc]
          rw [hsc, hpe] at hpp
          generalize Lib.encodeRune v = x at *
          have HP := Lib.hid hpp
          by_cases he : x = l.take 2
          · have heq : (x == l.take 2) = true := by simpa using he
            rw [if_pos ⟨hsc, he⟩] at HRR
            have HR := Lib.hid HRR
            clear hpp HRR hsc hb1 hpe he
            go_wp2_with fail
            refine (HP.out _).mono ?_
            rintro e w2 ⟨rfl, hb2⟩
            have HB2 := Lib.hid hb2
            clear hb2 HP
            go_wp2_with fail
            refine bodyPost_ret (v := .tuple #[.int .i32 v, .int .i64 2, .bool true]) (by simp [results, Tryz.results111, go_sem]) rfl ?_
            exact ⟨by rw [HR.out]; first | done | rfl, HB.out.trans (HB2.out.mono HB.out.size)⟩
          · have heq : (x == l.take 2) = false := by simpa using he
            rw [if_neg (fun h => he h.2)] at HRR
            have HR := Lib.hid HRR
            clear hpp HRR hsc hb1 hpe he
            go_wp2_with fail
            refine (HP.out _).mono ?_
            rintro e w2 ⟨rfl, hb2⟩
            have HB2 := Lib.hid hb2
            clear hb2 HP
            go_wp2_with fail
            go_ret3
            exact ⟨by rw [HR.out]; first | done | rfl, HB.out.trans (HB2.out.mono HB.out.size)⟩
  · have e : hd = 224 := hhd
    subst e
    clear hhd h1 h4 hd240
    go_enter Tryz.func111, Tryz.ntmps111
    go_wp2_with fail
    refine (HL.out _).mono ?_
    rintro e w1 ⟨rfl, rfl⟩
    clear HL
    go_upto_region 6 with fail
    go_region
    go_wp2_with fail
    go_loopw [6, 7] (fun v i wr => ∃ k : Nat, i = .int .i64 (((k + 1 : Nat) : Int)) ∧ v = .int .i64 (vUp 224 l k) ∧ k + 1 ≤ 3 ∧ Below w1.heap.size w1 wr) (fun _ i _ => 3 - (intOf i).toNat)
    case atStart =>
      refine ⟨0, rfl, ?_, by omega, below_drew1 ((Below.refl _ _).alloc (Nat.le_refl _) _)⟩
      first
        | with_reducible rfl
        | with_reducible exact congrArg (Value.int .i64) hwr2
    case round =>
      clear hwr hwr2 hw0
      obtain ⟨k, rfl, rfl, hk, hb⟩ := hrel
      have HB := Lib.hid hb
      clear hb
      by_cases hlt : k + 1 < 3
      · have hltz : ((k : Int) + 1) < 3 := by omega
        have hkl : k + 1 < l.length := by omega
        have hks : k + 1 < (⟨l.toArray⟩ : ByteArray).size := by omega
        have hix := bat_idx (l := l) (i := k + 1) hkl hks
        have hst := HST.out k hkl
        have hb1 := HVB.out k
        have hb2 := HVB.out (k + 1)
        have hp : (64 : Int) ^ k ≤ 4096 := by
          have : k = 0 ∨ k = 1 ∨ k = 2 := by omega
          rcases this with rfl | rfl | rfl <;> decide
        have hc2 := (l.getD (k + 1) 0).toNat_lt
        generalize l.getD (k + 1) 0 = d at *
        obtain ⟨v2, hv2⟩ : ∃ z, z = vUp 224 l (k + 1) := ⟨_, rfl⟩
        rw [← hv2] at hst hb2
        have HV2 := Lib.hid hv2
        clear hv2
        generalize vUp 224 l k = v at *
        obtain ⟨y, hy⟩ : ∃ z : Int, z = (d.toNat : Int) % 64 := ⟨_, rfl⟩
        obtain ⟨x, hx⟩ : ∃ z : Int, z = 64 * v := ⟨_, rfl⟩
        have q1 : IntKind.i64.wrap (64 * v) = x := by rw [← hx]; exact IntWalk.i64_in _ (by omega)
        have q2 : (d.toNat : Int).tmod 64 = y := by rw [Int.tmod_eq_emod_of_nonneg (by omega), hy]
        have q3 : (d.toNat : Int) % 64 = y := hy.symm
        have HQ := Lib.hid (show wrap64 (x + (wrap64 (d.toNat : Int)).tmod 64) = v2 by
          rw [IntWalk.wrap64_in (d.toNat : Int) (by omega), q2, show x + y = v2 by omega]
          exact IntWalk.wrap64_in _ (by omega))
        have q6 : IntKind.i64.wrap ((k : Int) + 1 + 1) = (k : Int) + 1 + 1 := IntWalk.i64_in _ (by omega)
        have HK := Lib.hid (show ((((k + 1 : Nat) : Int)) + 1 = (((k + 1 + 1 : Nat) : Int))) ∧ k + 1 + 1 ≤ 3 by omega)
        clear hy hx hst hb1 hb2 hp hc2 hk hlt hkl q2 q3
        go_wp2_with fail
        go_roundw
        case rel => exact ⟨k + 1, by first | (congr 1; push_cast; omega) | go_num, by rw [HQ.out, HV2.out], HK.out.2, HB.out⟩
        case measure => have := HK.out; simp only [intOf]; omega
      · have hkn : k = 2 := by omega
        subst hkn
        have hb1 := HVB.out 2
        have hsub : ∀ W : World, (Instr.slice 9 (.string ⟨l.toArray⟩) none (some (.int .i64 3)) none).run Tryz.prog W = .ok (.string ⟨(l.take 3).toArray⟩) W := fun W => sub_to l 3 (by omega) W
        have HRR : res = if scalB (vUp 224 l 2) = true ∧ Lib.encodeRune (vUp 224 l 2) = l.take 3 then .tuple #[.int .i32 (vUp 224 l 2), .int .i64 3, .bool true] else .tuple #[.int .i32 0, .int .i64 0, .bool false] := HR.out
        clear HR HVB HST HV0 hk hlt
        generalize vUp 224 l 2 = v at *
        have q32 : IntKind.i32.wrap v = v := IntWalk.i32_in _ (by omega)
        have hpp := fun W => rput_any v (by omega) (by omega) W
        unfold strV at hpp
        cases hsc : scalB v
        case false =>
          rw [if_neg (by rw [hsc]; simp)] at HRR
          rw [hsc] at hpp
          have HP := Lib.hid hpp
          have HR := Lib.hid HRR
          clear hpp HRR hsc hb1
          go_wp2_with fail
          refine (HP.out _).mono ?_
          rintro e w2 ⟨rfl, hb2⟩
          have HB2 := Lib.hid hb2
          clear hb2 HP
          go_wp2_with fail
          go_ret3
          exact ⟨by rw [HR.out]; first | done | rfl, HB.out.trans (HB2.out.mono HB.out.size)⟩
        case true =>
          have hpe : putL v = Lib.encodeRune v := by unfold putL; rw [if_pos hsc]
          rw [hsc, hpe] at hpp
          generalize Lib.encodeRune v = x at *
          have HP := Lib.hid hpp
          by_cases he : x = l.take 3
          · have heq : (x == l.take 3) = true := by simpa using he
            rw [if_pos ⟨hsc, he⟩] at HRR
            have HR := Lib.hid HRR
            clear hpp HRR hsc hb1 hpe he
            go_wp2_with fail
            refine (HP.out _).mono ?_
            rintro e w2 ⟨rfl, hb2⟩
            have HB2 := Lib.hid hb2
            clear hb2 HP
            go_wp2_with fail
            refine bodyPost_ret (v := .tuple #[.int .i32 v, .int .i64 3, .bool true]) (by simp [results, Tryz.results111, go_sem]) rfl ?_
            exact ⟨by rw [HR.out]; first | done | rfl, HB.out.trans (HB2.out.mono HB.out.size)⟩
          · have heq : (x == l.take 3) = false := by simpa using he
            rw [if_neg (fun h => he h.2)] at HRR
            have HR := Lib.hid HRR
            clear hpp HRR hsc hb1 hpe he
            go_wp2_with fail
            refine (HP.out _).mono ?_
            rintro e w2 ⟨rfl, hb2⟩
            have HB2 := Lib.hid hb2
            clear hb2 HP
            go_wp2_with fail
            go_ret3
            exact ⟨by rw [HR.out]; first | done | rfl, HB.out.trans (HB2.out.mono HB.out.size)⟩
  · have e : hd = 240 := hhd
    subst e
    clear hhd h1 h4 hd240
    go_enter Tryz.func111, Tryz.ntmps111
    go_wp2_with fail
    refine (HL.out _).mono ?_
    rintro e w1 ⟨rfl, rfl⟩
    clear HL
    go_upto_region 6 with fail
    go_region
    go_wp2_with fail
    go_loopw [6, 7] (fun v i wr => ∃ k : Nat, i = .int .i64 (((k + 1 : Nat) : Int)) ∧ v = .int .i64 (vUp 240 l k) ∧ k + 1 ≤ 4 ∧ Below w1.heap.size w1 wr) (fun _ i _ => 4 - (intOf i).toNat)
    case atStart =>
      refine ⟨0, rfl, ?_, by omega, below_drew1 ((Below.refl _ _).alloc (Nat.le_refl _) _)⟩
      first
        | with_reducible rfl
        | with_reducible exact congrArg (Value.int .i64) hwr2
    case round =>
      clear hwr hwr2 hw0
      obtain ⟨k, rfl, rfl, hk, hb⟩ := hrel
      have HB := Lib.hid hb
      clear hb
      by_cases hlt : k + 1 < 4
      · have hltz : ((k : Int) + 1) < 4 := by omega
        have hkl : k + 1 < l.length := by omega
        have hks : k + 1 < (⟨l.toArray⟩ : ByteArray).size := by omega
        have hix := bat_idx (l := l) (i := k + 1) hkl hks
        have hst := HST.out k hkl
        have hb1 := HVB.out k
        have hb2 := HVB.out (k + 1)
        have hp : (64 : Int) ^ k ≤ 4096 := by
          have : k = 0 ∨ k = 1 ∨ k = 2 := by omega
          rcases this with rfl | rfl | rfl <;> decide
        have hc2 := (l.getD (k + 1) 0).toNat_lt
        generalize l.getD (k + 1) 0 = d at *
        obtain ⟨v2, hv2⟩ : ∃ z, z = vUp 240 l (k + 1) := ⟨_, rfl⟩
        rw [← hv2] at hst hb2
        have HV2 := Lib.hid hv2
        clear hv2
        generalize vUp 240 l k = v at *
        obtain ⟨y, hy⟩ : ∃ z : Int, z = (d.toNat : Int) % 64 := ⟨_, rfl⟩
        obtain ⟨x, hx⟩ : ∃ z : Int, z = 64 * v := ⟨_, rfl⟩
        have q1 : IntKind.i64.wrap (64 * v) = x := by rw [← hx]; exact IntWalk.i64_in _ (by omega)
        have q2 : (d.toNat : Int).tmod 64 = y := by rw [Int.tmod_eq_emod_of_nonneg (by omega), hy]
        have q3 : (d.toNat : Int) % 64 = y := hy.symm
        have HQ := Lib.hid (show wrap64 (x + (wrap64 (d.toNat : Int)).tmod 64) = v2 by
          rw [IntWalk.wrap64_in (d.toNat : Int) (by omega), q2, show x + y = v2 by omega]
          exact IntWalk.wrap64_in _ (by omega))
        have q6 : IntKind.i64.wrap ((k : Int) + 1 + 1) = (k : Int) + 1 + 1 := IntWalk.i64_in _ (by omega)
        have HK := Lib.hid (show ((((k + 1 : Nat) : Int)) + 1 = (((k + 1 + 1 : Nat) : Int))) ∧ k + 1 + 1 ≤ 4 by omega)
        clear hy hx hst hb1 hb2 hp hc2 hk hlt hkl q2 q3
        go_wp2_with fail
        go_roundw
        case rel => exact ⟨k + 1, by first | (congr 1; push_cast; omega) | go_num, by rw [HQ.out, HV2.out], HK.out.2, HB.out⟩
        case measure => have := HK.out; simp only [intOf]; omega
      · have hkn : k = 3 := by omega
        subst hkn
        have hb1 := HVB.out 3
        have hsub : ∀ W : World, (Instr.slice 9 (.string ⟨l.toArray⟩) none (some (.int .i64 4)) none).run Tryz.prog W = .ok (.string ⟨(l.take 4).toArray⟩) W := fun W => sub_to l 4 (by omega) W
        have HRR : res = if scalB (vUp 240 l 3) = true ∧ Lib.encodeRune (vUp 240 l 3) = l.take 4 then .tuple #[.int .i32 (vUp 240 l 3), .int .i64 4, .bool true] else .tuple #[.int .i32 0, .int .i64 0, .bool false] := HR.out
        clear HR HVB HST HV0 hk hlt
        generalize vUp 240 l 3 = v at *
        have q32 : IntKind.i32.wrap v = v := IntWalk.i32_in _ (by omega)
        have hpp := fun W => rput_any v (by omega) (by omega) W
        unfold strV at hpp
        cases hsc : scalB v
        case false =>
          rw [if_neg (by rw [hsc]; simp)] at HRR
          rw [hsc] at hpp
          have HP := Lib.hid hpp
          have HR := Lib.hid HRR
          clear hpp HRR hsc hb1
          go_wp2_with fail
          refine (HP.out _).mono ?_
          rintro e w2 ⟨rfl, hb2⟩
          have HB2 := Lib.hid hb2
          clear hb2 HP
          go_wp2_with fail
          go_ret3
          exact ⟨by rw [HR.out]; first | done | rfl, HB.out.trans (HB2.out.mono HB.out.size)⟩
        case true =>
          have hpe : putL v = Lib.encodeRune v := by unfold putL; rw [if_pos hsc]
          rw [hsc, hpe] at hpp
          generalize Lib.encodeRune v = x at *
          have HP := Lib.hid hpp
          by_cases he : x = l.take 4
          · have heq : (x == l.take 4) = true := by simpa using he
            rw [if_pos ⟨hsc, he⟩] at HRR
            have HR := Lib.hid HRR
            clear hpp HRR hsc hb1 hpe he
            go_wp2_with fail
            refine (HP.out _).mono ?_
            rintro e w2 ⟨rfl, hb2⟩
            have HB2 := Lib.hid hb2
            clear hb2 HP
            go_wp2_with fail
            refine bodyPost_ret (v := .tuple #[.int .i32 v, .int .i64 4, .bool true]) (by simp [results, Tryz.results111, go_sem]) rfl ?_
            exact ⟨by rw [HR.out]; first | done | rfl, HB.out.trans (HB2.out.mono HB.out.size)⟩
          · have heq : (x == l.take 4) = false := by simpa using he
            rw [if_neg (fun h => he h.2)] at HRR
            have HR := Lib.hid HRR
            clear hpp HRR hsc hb1 hpe he
            go_wp2_with fail
            refine (HP.out _).mono ?_
            rintro e w2 ⟨rfl, hb2⟩
            have HB2 := Lib.hid hb2
            clear hb2 HP
            go_wp2_with fail
            go_ret3
            exact ⟨by rw [HR.out]; first | done | rfl, HB.out.trans (HB2.out.mono HB.out.size)⟩
theorem rnext4_any (l : List UInt8) (hl : l.length ≤ 1073741824) (w : World) : Calls Tryz.prog 111 #[strV l] w fun o w' => o = .returned (nextV l) ∧ Below w.heap.size w w' := by
  by_cases h : 1 ≤ longB (bat l 0) ∧ longB (bat l 0) ≤ l.length
  · exact next4_ok l hl h.1 h.2 w
  · exact next4_bad l hl h w
end Go.Proofs.YtlblddeemkefkaaGreatDoor
