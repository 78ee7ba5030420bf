/- The walk of accordionref04.Begins: written by wip/gen/no.py. -/
import Derived.Test.YtlblddeemkefkaaGreatDoorNl
namespace Go.Proofs.YtlblddeemkefkaaGreatDoor
set_option linter.unusedVariables false
set_option linter.unusedSimpArgs false
open Go.RowKit Go.Shelf
/-- Whether the bytes are a proper prefix of an encoding. -/
def begB (l : List UInt8) : Bool := decide (PartU l.length (bat l 0) (bat l 1) (bat l 2))
theorem lohi_bd2 {l : List UInt8} {h : Int} {m : Nat} (h0 : 0 ≤ h) (hh : 0 ≤ (bat l 0 : Int) - h) : ∀ k, (∀ i, 1 ≤ i → i < m → i ≤ k → 128 ≤ bat l i ∧ bat l i ≤ 191) → (0 ≤ (lohi h l m k).1 ∧ (lohi h l m k).1 < 256 * 64 ^ k) ∧ (0 ≤ (lohi h l m k).2 ∧ (lohi h l m k).2 < 256 * 64 ^ k)
  | 0, _ => by have := bat_lt l 0; unfold lohi; dsimp only; omega
  | k + 1, hb => by
    obtain ⟨⟨a, b⟩, c, d⟩ := lohi_bd2 (l := l) (m := m) h0 hh k (fun i h1 h2 h3 => hb i h1 h2 (by omega))
    unfold lohi
    rw [Int.pow_succ]
    generalize (64 : Int) ^ k = p at *
    generalize lohi h l m k = v at *
    obtain ⟨v1, v2⟩ := v
    dsimp only at *
    split
    · rename_i hk
      have := hb (k + 1) (by omega) hk (Nat.le_refl _)
      dsimp only
      omega
    · dsimp only
      omega
set_option maxHeartbeats 4000000 in
set_option maxRecDepth 100000 in
theorem beg_long (l : List UInt8) (h0 : 0 < l.length) (hl : l.length ≤ 1073741824) (h : longB (bat l 0) ≤ l.length) (w : World) : Calls Tryz.prog 123 #[strV l] w fun o w' => o = .returned (.bool (begB l)) ∧ Below w.heap.size w w' := by
  have hs : (⟨l.toArray⟩ : ByteArray).size = l.length := by simp [ByteArray.size]
  have hr : begB l = false := by
    unfold begB PartU
    exact decide_eq_false (fun g => by have := g.1; omega)
  rw [hr]
  clear hr
  have hps : 0 < (⟨l.toArray⟩ : ByteArray).size := by omega
  have hidx := bat_idx (l := l) (i := 0) h0 hps
  have hb : (l.getD 0 0).toNat = bat l 0 := rfl
  have HL : Hid (∀ W, Calls Tryz.prog 136 #[.int .u8 (l.getD 0 0).toNat] W fun o w' => o = .returned (.int .i64 (longB (bat l 0))) ∧ w' = W) := Lib.hid (fun W => long_any (l.getD 0 0) W)
  clear hb
  generalize l.getD 0 0 = c at *
  generalize longB (bat l 0) = n at *
  have hnz : (n : Int) ≤ (l.length : Int) := by omega
  unfold strV
  go_enter Tryz.func123, Tryz.ntmps123
  go_wp2_with fail
  refine (HL.out _).mono ?_
  rintro e w1 ⟨rfl, rfl⟩
  clear HL
  go_wp2_with fail
  go_ret
  exact ⟨rfl, Below.refl _ _⟩
set_option maxHeartbeats 8000000 in
set_option maxRecDepth 100000 in
theorem beg_2 (l : List UInt8) (h0 : 0 < l.length) (hl : l.length < 2) (hn : longB (bat l 0) = 2) (w : World) : Calls Tryz.prog 123 #[strV l] w fun o w' => o = .returned (.bool (begB l)) ∧ Below w.heap.size w w' := by
  have hs : (⟨l.toArray⟩ : ByteArray).size = l.length := by simp [ByteArray.size]
  have hps : 0 < (⟨l.toArray⟩ : ByteArray).size := by omega
  have hidx := bat_idx (l := l) (i := 0) h0 hps
  have hb : (l.getD 0 0).toNat = bat l 0 := rfl
  have HL : Hid (∀ W, Calls Tryz.prog 136 #[.int .u8 (l.getD 0 0).toNat] W fun o w' => o = .returned (.int .i64 2) ∧ w' = W) := Lib.hid (fun W => by have := long_any (l.getD 0 0) W; rw [hb, hn] at this; exact this)
  have hle : 0 ≤ (bat l 0 : Int) - 192 := by have := @head_le l; rw [hn] at this; exact this
  have HBD := Lib.hid (fun k => @lohi_bd2 l 192 l.length (by omega) hle k)
  have HV0 := Lib.hid (show (lohi 192 l l.length 0).1 = ((l.getD 0 0).toNat : Int) - 192 ∧ (lohi 192 l l.length 0).2 = ((l.getD 0 0).toNat : Int) - 192 from ⟨rfl, rfl⟩)
  obtain ⟨res, hres⟩ : ∃ r, r = begB l := ⟨_, rfl⟩
  rw [← hres]
  have HOUT := Lib.hid (fun i (h1 : 1 ≤ i) (h2 : i < l.length) (h3 : ¬ (128 ≤ bat l i ∧ bat l i ≤ 191)) => show res = false by rw [hres]; unfold begB; exact decide_eq_false (part_out h1 h2 h3))
  have HEND := Lib.hid (fun (hbb : ∀ i, 1 ≤ i → i < l.length → 128 ≤ bat l i ∧ bat l i ≤ 191) => show res = decide (max (lohi 192 l l.length 1).1 128 ≤ min (lohi 192 l l.length 1).2 1114111 ∧ (max (lohi 192 l l.length 1).1 128 < 55296 ∨ 57343 < min (lohi 192 l l.length 1).2 1114111)) by
    have := part_iff (l := l) (m := l.length) (by omega) (by omega) hbb (lo := max (lohi 192 l l.length 1).1 128) (hi := min (lohi 192 l l.length 1).2 1114111) (by rw [hn]; rfl) (by rw [hn]; rfl)
    rw [hres]
    unfold begB
    exact decide_eq_decide.2 this.symm)
  have hc := (l.getD 0 0).toNat_lt
  have hcb : 192 ≤ ((l.getD 0 0).toNat : Int) := by rw [hb]; omega
  have hlz : ¬ (2 : Int) ≤ (l.length : Int) := by omega
  clear hn hb hle hres
  generalize l.getD 0 0 = c at *
  have hw0 : wrap64 (c.toNat : Int) = (c.toNat : Int) := IntWalk.wrap64_in _ (by omega)
  have hw1 : wrap64 ((c.toNat : Int) - 192) = (c.toNat : Int) - 192 := IntWalk.wrap64_in _ (by omega)
  unfold strV
  go_enter Tryz.func123, Tryz.ntmps123
  go_wp2_with fail
  refine (HL.out _).mono ?_
  rintro e w1 ⟨rfl, rfl⟩
  clear HL
  go_wp2_with fail
  go_region
  go_wp2_with fail
  go_quiet (fail)
  go_wp2_with fail
  go_loopw [4, 5, 7] (fun a b i wr => ∃ k : Nat, i = .int .i64 (((k + 1 : Nat) : Int)) ∧ a = .int .i64 (lohi 192 l l.length k).1 ∧ b = .int .i64 (lohi 192 l l.length k).2 ∧ k + 1 ≤ 2 ∧ Below w1.heap.size w1 wr ∧ Hid (∀ i, 1 ≤ i → i < l.length → i ≤ k → 128 ≤ bat l i ∧ bat l i ≤ 191)) (fun _ _ i _ => 2 - (intOf i).toNat)
  case atStart =>
    refine ⟨0, rfl, ?_, ?_, by omega, ?_, Lib.hid (fun i h1 _ h3 => by omega)⟩
    · first
        | (rw [HV0.out.1]; done)
        | (rw [HV0.out.1, hw0, hw1]; done)
        | (rw [HV0.out.1, hw1]; done)
    · first
        | (rw [HV0.out.2]; done)
        | (rw [HV0.out.2, hw0, hw1]; done)
        | (rw [HV0.out.2, hw1]; done)
    · first
        | exact below_drewN ((below_drew1 (Below.refl _ _)).alloc (by simp) _) _
        | exact below_drewN ((below_drewN (Below.refl _ _) _).alloc (by simp) _) _
        | exact below_drew1 ((below_drew1 (Below.refl _ _)).alloc (by simp) _)
  case round =>
    clear hw0 hw1 HV0 hcb hc
    obtain ⟨k, rfl, rfl, rfl, hk, hb, hbs⟩ := hrel
    have HB := Lib.hid hb
    clear hb
    have hb1 := HBD.out k hbs.out
    have hp : (64 : Int) ^ k ≤ 262144 := by
      have : k = 0 ∨ k = 1 ∨ k = 2 ∨ k = 3 := by omega
      rcases this with rfl | rfl | rfl | rfl <;> decide
    by_cases hlt : k + 1 < 2
    · have hltz : ((k : Int) + 1) < 2 := by omega
      have q6 : IntKind.i64.wrap ((k : Int) + 1 + 1) = (k : Int) + 1 + 1 := IntWalk.i64_in _ (by omega)
      have HK := Lib.hid (show ((((k + 1 : Nat) : Int)) + 1 = (((k + 1 + 1 : Nat) : Int))) ∧ k + 1 + 1 ≤ 2 by omega)
      by_cases hkm : k + 1 < l.length
      · exact absurd hkm (by omega)
      · have hkmz : ¬ ((k : Int) + 1) < (l.length : Int) := by omega
        have hsn : (lohi 192 l l.length (k + 1)).1 = 64 * (lohi 192 l l.length k).1 ∧ (lohi 192 l l.length (k + 1)).2 = 64 * (lohi 192 l l.length k).2 + 63 := by rw [lohi, if_neg hkm]; exact ⟨rfl, rfl⟩
        have HS2 := Lib.hid (show ∀ i, 1 ≤ i → i < l.length → i ≤ k + 1 → 128 ≤ bat l i ∧ bat l i ≤ 191 from fun i h1 h2 h3 => hbs.out i h1 h2 (by omega))
        have HSN := Lib.hid hsn
        clear hsn hbs
        generalize (lohi 192 l l.length k).1 = lo at *
        generalize (lohi 192 l l.length k).2 = hi at *
        obtain ⟨x, hx⟩ : ∃ z : Int, z = 64 * lo := ⟨_, rfl⟩
        obtain ⟨y, hy⟩ : ∃ z : Int, z = 64 * hi := ⟨_, rfl⟩
        obtain ⟨y2, hy2⟩ : ∃ z : Int, z = y + 63 := ⟨_, rfl⟩
        have q1 : IntKind.i64.wrap (64 * lo) = x := by rw [← hx]; exact IntWalk.i64_in _ (by omega)
        have q2 : IntKind.i64.wrap (64 * hi) = y := by rw [← hy]; exact IntWalk.i64_in _ (by omega)
        have q3 : IntKind.i64.wrap (y + 63) = y2 := by rw [← hy2]; exact IntWalk.i64_in _ (by omega)
        have HQ := Lib.hid (show x = (lohi 192 l l.length (k + 1)).1 ∧ y2 = (lohi 192 l l.length (k + 1)).2 by
          rw [HSN.out.1, HSN.out.2, hy2, hx, hy]
          exact ⟨rfl, rfl⟩)
        clear hk hb1 hp hx hy hy2 HSN hlt hkm
        go_wp2_with fail
        go_roundw
        case rel => exact ⟨k + 1, by first | (congr 1; push_cast; omega) | go_num, by rw [HQ.out.1], by rw [HQ.out.2], HK.out.2, HB.out, HS2⟩
        case measure => have := HK.out; simp only [intOf]; omega
    · have hkn : k = 1 := by omega
      subst hkn
      have HE := HEND.out (fun i h1 h2 => hbs.out i h1 h2 (by omega))
      have hb1 := HBD.out 1 (fun i h1 h2 h3 => hbs.out i h1 h2 h3)
      clear hbs HBD HOUT HEND hk hlt hp
      generalize (lohi 192 l l.length 1).1 = lo at *
      generalize (lohi 192 l l.length 1).2 = hi at *
      obtain ⟨a, ha⟩ : ∃ z : Int, z = max lo 128 := ⟨_, rfl⟩
      obtain ⟨b, hb⟩ : ∃ z : Int, z = min hi 1114111 := ⟨_, rfl⟩
      rw [← ha, ← hb] at HE
      have hmax : ∀ W : World, (Builtin.max_ #[3, 3] 3 #[.int .i64 lo, .int .i64 128]).run Tryz.prog W = .ok (.int .i64 a) W := fun W => by rw [run_max_int2]; congr 2; omega
      have hmin : ∀ W : World, (Builtin.min_ #[3, 3] 3 #[.int .i64 hi, .int .i64 1114111]).run Tryz.prog W = .ok (.int .i64 b) W := fun W => by rw [run_min_int2]; congr 2; omega
      have HE2 := Lib.hid HE
      clear HE ha hb hb1
      by_cases h0 : a ≤ b
      · have d0 : decide (a ≤ b) = true := decide_eq_true h0
        by_cases h1 : a < 55296
        · have d1 : decide (a < 55296) = true := decide_eq_true h1
          have HR := Lib.hid (show res = true by rw [HE2.out]; simp; omega)
          clear HE2
          go_wp2_with fail
          go_ret
          exact ⟨by rw [HR.out]; first | done | rfl, HB.out.alloc (by have := HB.out.size; omega) _⟩
        · have d1 : decide (a < 55296) = false := decide_eq_false h1
          by_cases h2 : 57343 < b
          · have d2 : decide (57343 < b) = true := decide_eq_true h2
            have HR := Lib.hid (show res = true by rw [HE2.out]; simp; omega)
            clear HE2
            go_wp2_with fail
            go_ret
            exact ⟨by rw [HR.out]; first | done | rfl, HB.out.alloc (by have := HB.out.size; omega) _⟩
          · have d2 : decide (57343 < b) = false := decide_eq_false h2
            have HR := Lib.hid (show res = false by rw [HE2.out]; simp; omega)
            clear HE2
            go_wp2_with fail
            go_ret
            exact ⟨by rw [HR.out]; first | done | rfl, HB.out.alloc (by have := HB.out.size; omega) _⟩
      · have d0 : decide (a ≤ b) = false := decide_eq_false h0
        have HR := Lib.hid (show res = false by rw [HE2.out]; simp; omega)
        clear HE2
        go_wp2_with fail
        go_ret
        exact ⟨by rw [HR.out]; first | done | rfl, HB.out.alloc (by have := HB.out.size; omega) _⟩
set_option maxHeartbeats 8000000 in
set_option maxRecDepth 100000 in
theorem beg_3 (l : List UInt8) (h0 : 0 < l.length) (hl : l.length < 3) (hn : longB (bat l 0) = 3) (w : World) : Calls Tryz.prog 123 #[strV l] w fun o w' => o = .returned (.bool (begB l)) ∧ Below w.heap.size w w' := by
  have hs : (⟨l.toArray⟩ : ByteArray).size = l.length := by simp [ByteArray.size]
  have hps : 0 < (⟨l.toArray⟩ : ByteArray).size := by omega
  have hidx := bat_idx (l := l) (i := 0) h0 hps
  have hb : (l.getD 0 0).toNat = bat l 0 := rfl
  have HL : Hid (∀ W, Calls Tryz.prog 136 #[.int .u8 (l.getD 0 0).toNat] W fun o w' => o = .returned (.int .i64 3) ∧ w' = W) := Lib.hid (fun W => by have := long_any (l.getD 0 0) W; rw [hb, hn] at this; exact this)
  have hle : 0 ≤ (bat l 0 : Int) - 224 := by have := @head_le l; rw [hn] at this; exact this
  have HBD := Lib.hid (fun k => @lohi_bd2 l 224 l.length (by omega) hle k)
  have HV0 := Lib.hid (show (lohi 224 l l.length 0).1 = ((l.getD 0 0).toNat : Int) - 224 ∧ (lohi 224 l l.length 0).2 = ((l.getD 0 0).toNat : Int) - 224 from ⟨rfl, rfl⟩)
  obtain ⟨res, hres⟩ : ∃ r, r = begB l := ⟨_, rfl⟩
  rw [← hres]
  have HOUT := Lib.hid (fun i (h1 : 1 ≤ i) (h2 : i < l.length) (h3 : ¬ (128 ≤ bat l i ∧ bat l i ≤ 191)) => show res = false by rw [hres]; unfold begB; exact decide_eq_false (part_out h1 h2 h3))
  have HEND := Lib.hid (fun (hbb : ∀ i, 1 ≤ i → i < l.length → 128 ≤ bat l i ∧ bat l i ≤ 191) => show res = decide (max (lohi 224 l l.length 2).1 2048 ≤ min (lohi 224 l l.length 2).2 1114111 ∧ (max (lohi 224 l l.length 2).1 2048 < 55296 ∨ 57343 < min (lohi 224 l l.length 2).2 1114111)) by
    have := part_iff (l := l) (m := l.length) (by omega) (by omega) hbb (lo := max (lohi 224 l l.length 2).1 2048) (hi := min (lohi 224 l l.length 2).2 1114111) (by rw [hn]; rfl) (by rw [hn]; rfl)
    rw [hres]
    unfold begB
    exact decide_eq_decide.2 this.symm)
  have hc := (l.getD 0 0).toNat_lt
  have hcb : 224 ≤ ((l.getD 0 0).toNat : Int) := by rw [hb]; omega
  have hlz : ¬ (3 : Int) ≤ (l.length : Int) := by omega
  clear hn hb hle hres
  generalize l.getD 0 0 = c at *
  have hw0 : wrap64 (c.toNat : Int) = (c.toNat : Int) := IntWalk.wrap64_in _ (by omega)
  have hw1 : wrap64 ((c.toNat : Int) - 224) = (c.toNat : Int) - 224 := IntWalk.wrap64_in _ (by omega)
  unfold strV
  go_enter Tryz.func123, Tryz.ntmps123
  go_wp2_with fail
  refine (HL.out _).mono ?_
  rintro e w1 ⟨rfl, rfl⟩
  clear HL
  go_wp2_with fail
  go_region
  go_wp2_with fail
  go_quiet (fail)
  go_wp2_with fail
  go_loopw [4, 5, 7] (fun a b i wr => ∃ k : Nat, i = .int .i64 (((k + 1 : Nat) : Int)) ∧ a = .int .i64 (lohi 224 l l.length k).1 ∧ b = .int .i64 (lohi 224 l l.length k).2 ∧ k + 1 ≤ 3 ∧ Below w1.heap.size w1 wr ∧ Hid (∀ i, 1 ≤ i → i < l.length → i ≤ k → 128 ≤ bat l i ∧ bat l i ≤ 191)) (fun _ _ i _ => 3 - (intOf i).toNat)
  case atStart =>
    refine ⟨0, rfl, ?_, ?_, by omega, ?_, Lib.hid (fun i h1 _ h3 => by omega)⟩
    · first
        | (rw [HV0.out.1]; done)
        | (rw [HV0.out.1, hw0, hw1]; done)
        | (rw [HV0.out.1, hw1]; done)
    · first
        | (rw [HV0.out.2]; done)
        | (rw [HV0.out.2, hw0, hw1]; done)
        | (rw [HV0.out.2, hw1]; done)
    · first
        | exact below_drewN ((below_drew1 (Below.refl _ _)).alloc (by simp) _) _
        | exact below_drewN ((below_drewN (Below.refl _ _) _).alloc (by simp) _) _
        | exact below_drew1 ((below_drew1 (Below.refl _ _)).alloc (by simp) _)
  case round =>
    clear hw0 hw1 HV0 hcb hc
    obtain ⟨k, rfl, rfl, rfl, hk, hb, hbs⟩ := hrel
    have HB := Lib.hid hb
    clear hb
    have hb1 := HBD.out k hbs.out
    have hp : (64 : Int) ^ k ≤ 262144 := by
      have : k = 0 ∨ k = 1 ∨ k = 2 ∨ k = 3 := by omega
      rcases this with rfl | rfl | rfl | rfl <;> decide
    by_cases hlt : k + 1 < 3
    · have hltz : ((k : Int) + 1) < 3 := by omega
      have q6 : IntKind.i64.wrap ((k : Int) + 1 + 1) = (k : Int) + 1 + 1 := IntWalk.i64_in _ (by omega)
      have HK := Lib.hid (show ((((k + 1 : Nat) : Int)) + 1 = (((k + 1 + 1 : Nat) : Int))) ∧ k + 1 + 1 ≤ 3 by omega)
      by_cases hkm : k + 1 < l.length
      · have hkmz : ((k : Int) + 1) < (l.length : Int) := by omega
        have hks : k + 1 < (⟨l.toArray⟩ : ByteArray).size := by omega
        have hix := bat_idx (l := l) (i := k + 1) hkm hks
        have HO := HOUT.out (k + 1) (by omega) hkm
        have hsn : (lohi 224 l l.length (k + 1)).1 = 64 * (lohi 224 l l.length k).1 + ((l.getD (k + 1) 0).toNat : Int) - 128 ∧ (lohi 224 l l.length (k + 1)).2 = 64 * (lohi 224 l l.length k).2 + ((l.getD (k + 1) 0).toNat : Int) - 128 := by rw [lohi, if_pos hkm]; exact ⟨rfl, rfl⟩
        have hbt : bat l (k + 1) = (l.getD (k + 1) 0).toNat := rfl
        have hstep : (128 ≤ (l.getD (k + 1) 0).toNat ∧ (l.getD (k + 1) 0).toNat ≤ 191) → ∀ i, 1 ≤ i → i < l.length → i ≤ k + 1 → 128 ≤ bat l i ∧ bat l i ≤ 191 := fun hd i h1 h2 h3 => by
          by_cases he : i = k + 1
          · rw [he, hbt]; exact hd
          · exact hbs.out i h1 h2 (by omega)
        rw [hbt] at HO
        have hc2 := (l.getD (k + 1) 0).toNat_lt
        have HSN := Lib.hid hsn
        have HST := Lib.hid hstep
        clear hbt hsn hbs hstep
        generalize l.getD (k + 1) 0 = d at *
        generalize (lohi 224 l l.length k).1 = lo at *
        generalize (lohi 224 l l.length k).2 = hi at *
        by_cases h128 : d.toNat < 128
        · have z1 : (d.toNat : Int) < 128 := by omega
          have HR := Lib.hid (HO (by omega))
          clear HO hk hb1 hp hc2 h128
          go_wp2_with fail
          go_ret
          exact ⟨by rw [HR.out]; first | done | rfl, HB.out⟩
        have z1 : ¬ (d.toNat : Int) < 128 := by omega
        by_cases h191 : 191 < d.toNat
        · have z2 : 191 < (d.toNat : Int) := by omega
          have HR := Lib.hid (HO (by omega))
          clear HO hk hb1 hp hc2 h128 h191
          go_wp2_with fail
          go_ret
          exact ⟨by rw [HR.out]; first | done | rfl, HB.out⟩
        have z2 : ¬ 191 < (d.toNat : Int) := by omega
        have HS2 := Lib.hid (HST.out (by omega))
        obtain ⟨x, hx⟩ : ∃ z : Int, z = 64 * lo := ⟨_, rfl⟩
        obtain ⟨y, hy⟩ : ∃ z : Int, z = 64 * hi := ⟨_, rfl⟩
        have q1 : IntKind.i64.wrap (64 * lo) = x := by rw [← hx]; exact IntWalk.i64_in _ (by omega)
        have q2 : IntKind.i64.wrap (64 * hi) = y := by rw [← hy]; exact IntWalk.i64_in _ (by omega)
        have HQ := Lib.hid (show wrap64 (wrap64 (x + (d.toNat : Int)) - 128) = (lohi 224 l l.length (k + 1)).1 ∧ wrap64 (wrap64 (y + (d.toNat : Int)) - 128) = (lohi 224 l l.length (k + 1)).2 by
          rw [IntWalk.wrap64_in (x + _) (by omega), IntWalk.wrap64_in (y + _) (by omega), IntWalk.wrap64_in _ (by omega), IntWalk.wrap64_in _ (by omega), HSN.out.1, HSN.out.2, hx, hy]
          exact ⟨rfl, rfl⟩)
        clear HO hk hb1 hp hc2 h128 h191 hx hy HST HSN hlt
        go_wp2_with fail
        go_quiet (fail)
        go_wp2_with fail
        go_roundw
        case rel => exact ⟨k + 1, by first | (congr 1; push_cast; omega) | go_num, by rw [HQ.out.1], by rw [HQ.out.2], HK.out.2, below_drewN HB.out _, HS2⟩
        case measure => have := HK.out; simp only [intOf]; omega
      · have hkmz : ¬ ((k : Int) + 1) < (l.length : Int) := by omega
        have hsn : (lohi 224 l l.length (k + 1)).1 = 64 * (lohi 224 l l.length k).1 ∧ (lohi 224 l l.length (k + 1)).2 = 64 * (lohi 224 l l.length k).2 + 63 := by rw [lohi, if_neg hkm]; exact ⟨rfl, rfl⟩
        have HS2 := Lib.hid (show ∀ i, 1 ≤ i → i < l.length → i ≤ k + 1 → 128 ≤ bat l i ∧ bat l i ≤ 191 from fun i h1 h2 h3 => hbs.out i h1 h2 (by omega))
        have HSN := Lib.hid hsn
        clear hsn hbs
        generalize (lohi 224 l l.length k).1 = lo at *
        generalize (lohi 224 l l.length k).2 = hi at *
        obtain ⟨x, hx⟩ : ∃ z : Int, z = 64 * lo := ⟨_, rfl⟩
        obtain ⟨y, hy⟩ : ∃ z : Int, z = 64 * hi := ⟨_, rfl⟩
        obtain ⟨y2, hy2⟩ : ∃ z : Int, z = y + 63 := ⟨_, rfl⟩
        have q1 : IntKind.i64.wrap (64 * lo) = x := by rw [← hx]; exact IntWalk.i64_in _ (by omega)
        have q2 : IntKind.i64.wrap (64 * hi) = y := by rw [← hy]; exact IntWalk.i64_in _ (by omega)
        have q3 : IntKind.i64.wrap (y + 63) = y2 := by rw [← hy2]; exact IntWalk.i64_in _ (by omega)
        have HQ := Lib.hid (show x = (lohi 224 l l.length (k + 1)).1 ∧ y2 = (lohi 224 l l.length (k + 1)).2 by
          rw [HSN.out.1, HSN.out.2, hy2, hx, hy]
          exact ⟨rfl, rfl⟩)
        clear hk hb1 hp hx hy hy2 HSN hlt hkm
        go_wp2_with fail
        go_roundw
        case rel => exact ⟨k + 1, by first | (congr 1; push_cast; omega) | go_num, by rw [HQ.out.1], by rw [HQ.out.2], HK.out.2, HB.out, HS2⟩
        case measure => have := HK.out; simp only [intOf]; omega
    · have hkn : k = 2 := by omega
      subst hkn
      have HE := HEND.out (fun i h1 h2 => hbs.out i h1 h2 (by omega))
      have hb1 := HBD.out 2 (fun i h1 h2 h3 => hbs.out i h1 h2 h3)
      clear hbs HBD HOUT HEND hk hlt hp
      generalize (lohi 224 l l.length 2).1 = lo at *
      generalize (lohi 224 l l.length 2).2 = hi at *
      obtain ⟨a, ha⟩ : ∃ z : Int, z = max lo 2048 := ⟨_, rfl⟩
      obtain ⟨b, hb⟩ : ∃ z : Int, z = min hi 1114111 := ⟨_, rfl⟩
      rw [← ha, ← hb] at HE
      have hmax : ∀ W : World, (Builtin.max_ #[3, 3] 3 #[.int .i64 lo, .int .i64 2048]).run Tryz.prog W = .ok (.int .i64 a) W := fun W => by rw [run_max_int2]; congr 2; omega
      have hmin : ∀ W : World, (Builtin.min_ #[3, 3] 3 #[.int .i64 hi, .int .i64 1114111]).run Tryz.prog W = .ok (.int .i64 b) W := fun W => by rw [run_min_int2]; congr 2; omega
      have HE2 := Lib.hid HE
      clear HE ha hb hb1
      by_cases h0 : a ≤ b
      · have d0 : decide (a ≤ b) = true := decide_eq_true h0
        by_cases h1 : a < 55296
        · have d1 : decide (a < 55296) = true := decide_eq_true h1
          have HR := Lib.hid (show res = true by rw [HE2.out]; simp; omega)
          clear HE2
          go_wp2_with fail
          go_ret
          exact ⟨by rw [HR.out]; first | done | rfl, HB.out.alloc (by have := HB.out.size; omega) _⟩
        · have d1 : decide (a < 55296) = false := decide_eq_false h1
          by_cases h2 : 57343 < b
          · have d2 : decide (57343 < b) = true := decide_eq_true h2
            have HR := Lib.hid (show res = true by rw [HE2.out]; simp; omega)
            clear HE2
            go_wp2_with fail
            go_ret
            exact ⟨by rw [HR.out]; first | done | rfl, HB.out.alloc (by have := HB.out.size; omega) _⟩
          · have d2 : decide (57343 < b) = false := decide_eq_false h2
            have HR := Lib.hid (show res = false by rw [HE2.out]; simp; omega)
            clear HE2
            go_wp2_with fail
            go_ret
            exact ⟨by rw [HR.out]; first | done | rfl, HB.out.alloc (by have := HB.out.size; omega) _⟩
      · have d0 : decide (a ≤ b) = false := decide_eq_false h0
        have HR := Lib.hid (show res = false by rw [HE2.out]; simp; omega)
        clear HE2
        go_wp2_with fail
        go_ret
        exact ⟨by rw [HR.out]; first | done | rfl, HB.out.alloc (by have := HB.out.size; omega) _⟩
set_option maxHeartbeats 8000000 in
set_option maxRecDepth 100000 in
theorem beg_4 (l : List UInt8) (h0 : 0 < l.length) (hl : l.length < 4) (hn : longB (bat l 0) = 4) (w : World) : Calls Tryz.prog 123 #[strV l] w fun o w' => o = .returned (.bool (begB l)) ∧ Below w.heap.size w w' := by
  have hs : (⟨l.toArray⟩ : ByteArray).size = l.length := by simp [ByteArray.size]
  have hps : 0 < (⟨l.toArray⟩ : ByteArray).size := by omega
  have hidx := bat_idx (l := l) (i := 0) h0 hps
  have hb : (l.getD 0 0).toNat = bat l 0 := rfl
  have HL : Hid (∀ W, Calls Tryz.prog 136 #[.int .u8 (l.getD 0 0).toNat] W fun o w' => o = .returned (.int .i64 4) ∧ w' = W) := Lib.hid (fun W => by have := long_any (l.getD 0 0) W; rw [hb, hn] at this; exact this)
  have hle : 0 ≤ (bat l 0 : Int) - 240 := by have := @head_le l; rw [hn] at this; exact this
  have HBD := Lib.hid (fun k => @lohi_bd2 l 240 l.length (by omega) hle k)
  have HV0 := Lib.hid (show (lohi 240 l l.length 0).1 = ((l.getD 0 0).toNat : Int) - 240 ∧ (lohi 240 l l.length 0).2 = ((l.getD 0 0).toNat : Int) - 240 from ⟨rfl, rfl⟩)
  obtain ⟨res, hres⟩ : ∃ r, r = begB l := ⟨_, rfl⟩
  rw [← hres]
  have HOUT := Lib.hid (fun i (h1 : 1 ≤ i) (h2 : i < l.length) (h3 : ¬ (128 ≤ bat l i ∧ bat l i ≤ 191)) => show res = false by rw [hres]; unfold begB; exact decide_eq_false (part_out h1 h2 h3))
  have HEND := Lib.hid (fun (hbb : ∀ i, 1 ≤ i → i < l.length → 128 ≤ bat l i ∧ bat l i ≤ 191) => show res = decide (max (lohi 240 l l.length 3).1 65536 ≤ min (lohi 240 l l.length 3).2 1114111 ∧ (max (lohi 240 l l.length 3).1 65536 < 55296 ∨ 57343 < min (lohi 240 l l.length 3).2 1114111)) by
    have := part_iff (l := l) (m := l.length) (by omega) (by omega) hbb (lo := max (lohi 240 l l.length 3).1 65536) (hi := min (lohi 240 l l.length 3).2 1114111) (by rw [hn]; rfl) (by rw [hn]; rfl)
    rw [hres]
    unfold begB
    exact decide_eq_decide.2 this.symm)
  have hc := (l.getD 0 0).toNat_lt
  have hcb : 240 ≤ ((l.getD 0 0).toNat : Int) := by rw [hb]; omega
  have hlz : ¬ (4 : Int) ≤ (l.length : Int) := by omega
  clear hn hb hle hres
  generalize l.getD 0 0 = c at *
  have hw0 : wrap64 (c.toNat : Int) = (c.toNat : Int) := IntWalk.wrap64_in _ (by omega)
  have hw1 : wrap64 ((c.toNat : Int) - 240) = (c.toNat : Int) - 240 := IntWalk.wrap64_in _ (by omega)
  unfold strV
  go_enter Tryz.func123, Tryz.ntmps123
  go_wp2_with fail
  refine (HL.out _).mono ?_
  rintro e w1 ⟨rfl, rfl⟩
  clear HL
  go_wp2_with fail
  go_region
  go_wp2_with fail
  go_quiet (fail)
  go_wp2_with fail
  go_loopw [4, 5, 7] (fun a b i wr => ∃ k : Nat, i = .int .i64 (((k + 1 : Nat) : Int)) ∧ a = .int .i64 (lohi 240 l l.length k).1 ∧ b = .int .i64 (lohi 240 l l.length k).2 ∧ k + 1 ≤ 4 ∧ Below w1.heap.size w1 wr ∧ Hid (∀ i, 1 ≤ i → i < l.length → i ≤ k → 128 ≤ bat l i ∧ bat l i ≤ 191)) (fun _ _ i _ => 4 - (intOf i).toNat)
  case atStart =>
    refine ⟨0, rfl, ?_, ?_, by omega, ?_, Lib.hid (fun i h1 _ h3 => by omega)⟩
    · first
        | (rw [HV0.out.1]; done)
        | (rw [HV0.out.1, hw0, hw1]; done)
        | (rw [HV0.out.1, hw1]; done)
    · first
        | (rw [HV0.out.2]; done)
        | (rw [HV0.out.2, hw0, hw1]; done)
        | (rw [HV0.out.2, hw1]; done)
    · first
        | exact below_drewN ((below_drew1 (Below.refl _ _)).alloc (by simp) _) _
        | exact below_drewN ((below_drewN (Below.refl _ _) _).alloc (by simp) _) _
        | exact below_drew1 ((below_drew1 (Below.refl _ _)).alloc (by simp) _)
  case round =>
    clear hw0 hw1 HV0 hcb hc
    obtain ⟨k, rfl, rfl, rfl, hk, hb, hbs⟩ := hrel
    have HB := Lib.hid hb
    clear hb
    have hb1 := HBD.out k hbs.out
    have hp : (64 : Int) ^ k ≤ 262144 := by
      have : k = 0 ∨ k = 1 ∨ k = 2 ∨ k = 3 := by omega
      rcases this with rfl | rfl | rfl | rfl <;> decide
    by_cases hlt : k + 1 < 4
    · have hltz : ((k : Int) + 1) < 4 := by omega
      have q6 : IntKind.i64.wrap ((k : Int) + 1 + 1) = (k : Int) + 1 + 1 := IntWalk.i64_in _ (by omega)
      have HK := Lib.hid (show ((((k + 1 : Nat) : Int)) + 1 = (((k + 1 + 1 : Nat) : Int))) ∧ k + 1 + 1 ≤ 4 by omega)
      by_cases hkm : k + 1 < l.length
      · have hkmz : ((k : Int) + 1) < (l.length : Int) := by omega
        have hks : k + 1 < (⟨l.toArray⟩ : ByteArray).size := by omega
        have hix := bat_idx (l := l) (i := k + 1) hkm hks
        have HO := HOUT.out (k + 1) (by omega) hkm
        have hsn : (lohi 240 l l.length (k + 1)).1 = 64 * (lohi 240 l l.length k).1 + ((l.getD (k + 1) 0).toNat : Int) - 128 ∧ (lohi 240 l l.length (k + 1)).2 = 64 * (lohi 240 l l.length k).2 + ((l.getD (k + 1) 0).toNat : Int) - 128 := by rw [lohi, if_pos hkm]; exact ⟨rfl, rfl⟩
        have hbt : bat l (k + 1) = (l.getD (k + 1) 0).toNat := rfl
        have hstep : (128 ≤ (l.getD (k + 1) 0).toNat ∧ (l.getD (k + 1) 0).toNat ≤ 191) → ∀ i, 1 ≤ i → i < l.length → i ≤ k + 1 → 128 ≤ bat l i ∧ bat l i ≤ 191 := fun hd i h1 h2 h3 => by
          by_cases he : i = k + 1
          · rw [he, hbt]; exact hd
          · exact hbs.out i h1 h2 (by omega)
        rw [hbt] at HO
        have hc2 := (l.getD (k + 1) 0).toNat_lt
        have HSN := Lib.hid hsn
        have HST := Lib.hid hstep
        clear hbt hsn hbs hstep
        generalize l.getD (k + 1) 0 = d at *
        generalize (lohi 240 l l.length k).1 = lo at *
        generalize (lohi 240 l l.length k).2 = hi at *
        by_cases h128 : d.toNat < 128
        · have z1 : (d.toNat : Int) < 128 := by omega
          have HR := Lib.hid (HO (by omega))
          clear HO hk hb1 hp hc2 h128
          go_wp2_with fail
          go_ret
          exact ⟨by rw [HR.out]; first | done | rfl, HB.out⟩
        have z1 : ¬ (d.toNat : Int) < 128 := by omega
        by_cases h191 : 191 < d.toNat
        · have z2 : 191 < (d.toNat : Int) := by omega
          have HR := Lib.hid (HO (by omega))
          clear HO hk hb1 hp hc2 h128 h191
          go_wp2_with fail
          go_ret
          exact ⟨by rw [HR.out]; first | done | rfl, HB.out⟩
        have z2 : ¬ 191 < (d.toNat : Int) := by omega
        have HS2 := Lib.hid (HST.out (by omega))
        obtain ⟨x, hx⟩ : ∃ z : Int, z = 64 * lo := ⟨_, rfl⟩
        obtain ⟨y, hy⟩ : ∃ z : Int, z = 64 * hi := ⟨_, rfl⟩
        have q1 : IntKind.i64.wrap (64 * lo) = x := by rw [← hx]; exact IntWalk.i64_in _ (by omega)
        have q2 : IntKind.i64.wrap (64 * hi) = y := by rw [← hy]; exact IntWalk.i64_in _ (by omega)
        have HQ := Lib.hid (show wrap64 (wrap64 (x + (d.toNat : Int)) - 128) = (lohi 240 l l.length (k + 1)).1 ∧ wrap64 (wrap64 (y + (d.toNat : Int)) - 128) = (lohi 240 l l.length (k + 1)).2 by
          rw [IntWalk.wrap64_in (x + _) (by omega), IntWalk.wrap64_in (y + _) (by omega), IntWalk.wrap64_in _ (by omega), IntWalk.wrap64_in _ (by omega), HSN.out.1, HSN.out.2, hx, hy]
          exact ⟨rfl, rfl⟩)
        clear HO hk hb1 hp hc2 h128 h191 hx hy HST HSN hlt
        go_wp2_with fail
        go_quiet (fail)
        go_wp2_with fail
        go_roundw
        case rel => exact ⟨k + 1, by first | (congr 1; push_cast; omega) | go_num, by rw [HQ.out.1], by rw [HQ.out.2], HK.out.2, below_drewN HB.out _, HS2⟩
        case measure => have := HK.out; simp only [intOf]; omega
      · have hkmz : ¬ ((k : Int) + 1) < (l.length : Int) := by omega
        have hsn : (lohi 240 l l.length (k + 1)).1 = 64 * (lohi 240 l l.length k).1 ∧ (lohi 240 l l.length (k + 1)).2 = 64 * (lohi 240 l l.length k).2 + 63 := by rw [lohi, if_neg hkm]; exact ⟨rfl, rfl⟩
        have HS2 := Lib.hid (show ∀ i, 1 ≤ i → i < l.length → i ≤ k + 1 → 128 ≤ bat l i ∧ bat l i ≤ 191 from fun i h1 h2 h3 => hbs.out i h1 h2 (by omega))
        have HSN := Lib.hid hsn
        clear hsn hbs
        generalize (lohi 240 l l.length k).1 = lo at *
        generalize (lohi 240 l l.length k).2 = hi at *
        obtain ⟨x, hx⟩ : ∃ z : Int, z = 64 * lo := ⟨_, rfl⟩
        obtain ⟨y, hy⟩ : ∃ z : Int, z = 64 * hi := ⟨_, rfl⟩
        obtain ⟨y2, hy2⟩ : ∃ z : Int, z = y + 63 := ⟨_, rfl⟩
        have q1 : IntKind.i64.wrap (64 * lo) = x := by rw [← hx]; exact IntWalk.i64_in _ (by omega)
        have q2 : IntKind.i64.wrap (64 * hi) = y := by rw [← hy]; exact IntWalk.i64_in _ (by omega)
        have q3 : IntKind.i64.wrap (y + 63) = y2 := by rw [← hy2]; exact IntWalk.i64_in _ (by omega)
        have HQ := Lib.hid (show x = (lohi 240 l l.length (k + 1)).1 ∧ y2 = (lohi 240 l l.length (k + 1)).2 by
          rw [HSN.out.1, HSN.out.2, hy2, hx, hy]
          exact ⟨rfl, rfl⟩)
        clear hk hb1 hp hx hy hy2 HSN hlt hkm
        go_wp2_with fail
        go_roundw
        case rel => exact ⟨k + 1, by first | (congr 1; push_cast; omega) | go_num, by rw [HQ.out.1], by rw [HQ.out.2], HK.out.2, HB.out, HS2⟩
        case measure => have := HK.out; simp only [intOf]; omega
    · have hkn : k = 3 := by omega
      subst hkn
      have HE := HEND.out (fun i h1 h2 => hbs.out i h1 h2 (by omega))
      have hb1 := HBD.out 3 (fun i h1 h2 h3 => hbs.out i h1 h2 h3)
      clear hbs HBD HOUT HEND hk hlt hp
      generalize (lohi 240 l l.length 3).1 = lo at *
      generalize (lohi 240 l l.length 3).2 = hi at *
      obtain ⟨a, ha⟩ : ∃ z : Int, z = max lo 65536 := ⟨_, rfl⟩
      obtain ⟨b, hb⟩ : ∃ z : Int, z = min hi 1114111 := ⟨_, rfl⟩
      rw [← ha, ← hb] at HE
      have hmax : ∀ W : World, (Builtin.max_ #[3, 3] 3 #[.int .i64 lo, .int .i64 65536]).run Tryz.prog W = .ok (.int .i64 a) W := fun W => by rw [run_max_int2]; congr 2; omega
      have hmin : ∀ W : World, (Builtin.min_ #[3, 3] 3 #[.int .i64 hi, .int .i64 1114111]).run Tryz.prog W = .ok (.int .i64 b) W := fun W => by rw [run_min_int2]; congr 2; omega
      have HE2 := Lib.hid HE
      clear HE ha hb hb1
      by_cases h0 : a ≤ b
      · have d0 : decide (a ≤ b) = true := decide_eq_true h0
        by_cases h1 : a < 55296
        · have d1 : decide (a < 55296) = true := decide_eq_true h1
          have HR := Lib.hid (show res = true by rw [HE2.out]; simp; omega)
          clear HE2
          go_wp2_with fail
          go_ret
          exact ⟨by rw [HR.out]; first | done | rfl, HB.out.alloc (by have := HB.out.size; omega) _⟩
        · have d1 : decide (a < 55296) = false := decide_eq_false h1
          by_cases h2 : 57343 < b
          · have d2 : decide (57343 < b) = true := decide_eq_true h2
            have HR := Lib.hid (show res = true by rw [HE2.out]; simp; omega)
            clear HE2
            go_wp2_with fail
            go_ret
            exact ⟨by rw [HR.out]; first | done | rfl, HB.out.alloc (by have := HB.out.size; omega) _⟩
          · have d2 : decide (57343 < b) = false := decide_eq_false h2
            have HR := Lib.hid (show res = false by rw [HE2.out]; simp; omega)
            clear HE2
            go_wp2_with fail
            go_ret
            exact ⟨by rw [HR.out]; first | done | rfl, HB.out.alloc (by have := HB.out.size; omega) _⟩
      · have d0 : decide (a ≤ b) = false := decide_eq_false h0
        have HR := Lib.hid (show res = false by rw [HE2.out]; simp; omega)
        clear HE2
        go_wp2_with fail
        go_ret
        exact ⟨by rw [HR.out]; first | done | rfl, HB.out.alloc (by have := HB.out.size; omega) _⟩
theorem rbegins_any (l : List UInt8) (h0 : 0 < l.length) (hl : l.length ≤ 1073741824) (w : World) : Calls Tryz.prog 123 #[strV l] w fun o w' => o = .returned (.bool (begB l)) ∧ Below w.heap.size w w' := by
  by_cases h : longB (bat l 0) ≤ l.length
  · exact beg_long l h0 hl h w
  · have h4 : longB (bat l 0) = 2 ∨ longB (bat l 0) = 3 ∨ longB (bat l 0) = 4 := by have := long_le (bat l 0); omega
    rcases h4 with e | e | e
    · exact beg_2 l h0 (by omega) e w
    · exact beg_3 l h0 (by omega) e w
    · exact beg_4 l h0 (by omega) e w
end Go.Proofs.YtlblddeemkefkaaGreatDoor
