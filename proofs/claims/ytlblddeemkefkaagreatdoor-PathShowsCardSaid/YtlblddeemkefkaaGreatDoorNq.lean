/- The walk of accordionref04.escape. -/
import Derived.Test.YtlblddeemkefkaaGreatDoorNl
import Derived.Test.YtlblddeemkefkaaGreatDoorNj
namespace Go.Proofs.YtlblddeemkefkaaGreatDoor
set_option linter.unusedVariables false
set_option linter.unusedSimpArgs false
open Go.RowKit Go.Shelf
/-- What escape hands back. -/
def escO (a : Nat) : Except Nat (List UInt8 × Nat) → Value
  | .error j => .tuple #[.string ⟨#[]⟩, .int .i64 ((a + 1 + j : Nat) : Int), .bool false]
  | .ok (b, n) => .tuple #[.string ⟨b.toArray⟩, .int .i64 ((a + 1 + n : Nat) : Int), .bool true]
def markL : List UInt8 := [34, 92, 47, 98, 102, 110, 114, 116]
def meantL : List UInt8 := [34, 92, 47, 8, 12, 10, 13, 9]
theorem markL_idx {j : Nat} (hj : j < 8) (h : j < (⟨#[34, 92, 47, 98, 102, 110, 114, 116]⟩ : ByteArray).size) : (⟨#[34, 92, 47, 98, 102, 110, 114, 116]⟩ : ByteArray)[j]'h = markL.getD j 0 := by
  show (#[34, 92, 47, 98, 102, 110, 114, 116] : Array UInt8)[j]'h = _
  simp [markL, List.getD_eq_getElem?_getD, hj]
theorem esc_hit {c : UInt8} {t : List UInt8} {j : Nat} (hj : j < 8) (h : c = markL.getD j 0) : rEsc (c :: t) = .ok ([meantL.getD j 0], 1) := by
  subst h
  have : j = 0 ∨ j = 1 ∨ j = 2 ∨ j = 3 ∨ j = 4 ∨ j = 5 ∨ j = 6 ∨ j = 7 := by omega
  rcases this with rfl | rfl | rfl | rfl | rfl | rfl | rfl | rfl <;> rfl
theorem escV_none {c : UInt8} (h : ∀ i, i < 8 → c ≠ markL.getD i 0) : escV c = -1 := by
  unfold escV
  rw [if_neg (show ¬ c = 34 from h 0 (by omega)), if_neg (show ¬ c = 92 from h 1 (by omega)), if_neg (show ¬ c = 47 from h 2 (by omega)), if_neg (show ¬ c = 98 from h 3 (by omega)), if_neg (show ¬ c = 102 from h 4 (by omega)), if_neg (show ¬ c = 110 from h 5 (by omega)), if_neg (show ¬ c = 114 from h 6 (by omega)), if_neg (show ¬ c = 116 from h 7 (by omega))]
theorem esc_none {c : UInt8} {t : List UInt8} (h : ∀ i, i < 8 → c ≠ markL.getD i 0) (h2 : c ≠ 117) : rEsc (c :: t) = .error 0 := by
  unfold rEsc
  dsimp only
  rw [escV_none h, if_neg (by decide), if_pos h2]
/-- Behind the u of an item: with its two bytes and the second number, if the first asks for them. -/
def rPair (v : Int) : List UInt8 → Except Nat (List UInt8 × Nat)
  | [] => .error 5
  | c1 :: t1 => if c1 ≠ 92 then .error 5 else match t1 with
    | [] => .error 6
    | c2 :: t2 => if c2 ≠ 117 then .error 6 else match rF true 4 0 t2 0 with
      | .error j => .error (7 + j)
      | .ok k => .ok (Lib.encodeRune (65536 + 1024 * (v - 55296) + k - 56320), 11)
theorem esc_u {t : List UInt8} : rEsc (117 :: t) = match rF false 4 0 t 0 with
    | .error j => .error (1 + j)
    | .ok n => if 55296 ≤ n ∧ n < 56320 then rPair n (t.drop 4) else .ok (Lib.encodeRune n, 5) := by
  unfold rEsc
  dsimp only
  rw [if_neg (by decide), if_neg (by decide)]
  rfl
def bsU : List UInt8 := [92, 117]
theorem bsU_idx {j : Nat} (hj : j < 2) (h : j < (⟨#[92, 117]⟩ : ByteArray).size) : (⟨#[92, 117]⟩ : ByteArray)[j]'h = bsU.getD j 0 := by
  show (#[92, 117] : Array UInt8)[j]'h = _
  simp [bsU, List.getD_eq_getElem?_getD, hj]
theorem drop_get {l : List UInt8} {q : Nat} (hq : q < l.length) : l.drop q = l.getD q 0 :: l.drop (q + 1) := by
  rw [List.drop_eq_getElem_cons hq, List.getD_eq_getElem?_getD, List.getElem?_eq_getElem hq]; rfl
/-- The pair fails at its i-th byte. -/
theorem pair_bad {l : List UInt8} {v : Int} {q i : Nat} (hi : i < 2) (hb : ∀ k, k < i → q + k < l.length ∧ l.getD (q + k) 0 = bsU.getD k 0) (h : l.length ≤ q + i ∨ (q + i < l.length ∧ l.getD (q + i) 0 ≠ bsU.getD i 0)) : rPair v (l.drop q) = .error (5 + i) := by
  have : i = 0 ∨ i = 1 := by omega
  rcases this with rfl | rfl
  · rw [Nat.add_zero] at h
    rcases h with h | ⟨h, hn⟩
    · rw [List.drop_of_length_le h]; rfl
    · rw [drop_get h]
      unfold rPair
      dsimp only
      rw [if_pos (show l.getD q 0 ≠ 92 from hn)]
  · obtain ⟨g1, g2⟩ := hb 0 (by omega)
    rw [Nat.add_zero] at g1 g2
    rw [drop_get g1]
    unfold rPair
    dsimp only
    rw [if_neg (show ¬ l.getD q 0 ≠ 92 from fun hx => hx g2)]
    rcases h with h | ⟨h, hn⟩
    · rw [List.drop_of_length_le h]
    · rw [drop_get h]
      dsimp only
      rw [if_pos (show l.getD (q + 1) 0 ≠ 117 from hn)]
theorem pair_good {l : List UInt8} {v : Int} {q : Nat} (hb : ∀ k, k < 2 → q + k < l.length ∧ l.getD (q + k) 0 = bsU.getD k 0) : rPair v (l.drop q) = match rF true 4 0 (l.drop (q + 2)) 0 with
      | .error j => .error (7 + j)
      | .ok k => .ok (Lib.encodeRune (65536 + 1024 * (v - 55296) + k - 56320), 11) := by
  obtain ⟨g1, g2⟩ := hb 0 (by omega)
  obtain ⟨g3, g4⟩ := hb 1 (by omega)
  rw [Nat.add_zero] at g1 g2
  rw [drop_get g1]
  unfold rPair
  dsimp only
  rw [if_neg (show ¬ l.getD q 0 ≠ 92 from fun hx => hx g2), drop_get g3]
  dsimp only
  rw [if_neg (show ¬ l.getD (q + 1) 0 ≠ 117 from fun hx => hx g4)]
set_option maxHeartbeats 16000000 in
set_option maxRecDepth 100000 in
theorem resc_any (l : List UInt8) (a : Nat) (hl : l.length ≤ 1073741824) (ha : a < l.length) (w : World) : Calls Tryz.prog 122 #[strV l, .int .i64 a] w fun o w' => o = .returned (escO a (rEsc (l.drop (a + 1)))) ∧ Below w.heap.size w w' := by
  have hs : (⟨l.toArray⟩ : ByteArray).size = l.length := by simp [ByteArray.size]
  obtain ⟨res, hres⟩ : ∃ r, r = escO a (rEsc (l.drop (a + 1))) := ⟨_, rfl⟩
  rw [← hres]
  obtain ⟨a1, ha1⟩ : ∃ z, z = a + 1 := ⟨_, rfl⟩
  have q1 : IntKind.i64.wrap ((a : Int) + 1) = (a1 : Int) := by rw [ha1]; exact IntWalk.i64_in _ (by omega)
  rw [← ha1] at hres
  by_cases h1 : l.length ≤ a1
  · have z1 : (l.length : Int) ≤ (a1 : Int) := by omega
    have HR := Lib.hid (show res = .tuple #[.string ⟨#[]⟩, .int .i64 a1, .bool false] by
      rw [hres, List.drop_of_length_le h1, ha1]
      rfl)
    clear hres ha1
    unfold strV
    go_enter Tryz.func122, Tryz.ntmps122
    go_wp2_with fail
    go_ret3
    exact ⟨by rw [HR.out]; first | done | rfl, Below.refl _ _⟩
  have z1 : ¬ (l.length : Int) ≤ (a1 : Int) := by omega
  have hks : a1 < (⟨l.toArray⟩ : ByteArray).size := by omega
  have hix := bat_idx (l := l) (i := a1) (by omega) hks
  rw [drop_get (show a1 < l.length by omega)] at hres
  obtain ⟨a2, ha2⟩ : ∃ z, z = a + 2 := ⟨_, rfl⟩
  have q2 : IntKind.i64.wrap ((a : Int) + 2) = (a2 : Int) := by rw [ha2]; exact IntWalk.i64_in _ (by omega)
  rw [show a1 + 1 = a2 by omega] at hres
  generalize l.getD a1 0 = c at *
  have HRS := Lib.hid hres
  have HA := Lib.hid (And.intro ha1 ha2)
  clear hres ha1 ha2
  have hmz : (⟨#[34, 92, 47, 98, 102, 110, 114, 116]⟩ : ByteArray).size = 8 := rfl
  unfold strV
  go_enter Tryz.func122, Tryz.ntmps122
  go_wp2_with fail
  go_loopw [7] (fun i wr => ∃ j : Nat, i = .int .i64 j ∧ j ≤ 8 ∧ Below w.heap.size w wr ∧ Hid (∀ i, i < j → c ≠ markL.getD i 0)) (fun i _ => 8 - (intOf i).toNat)
  case atStart => exact ⟨0, rfl, by omega, Below.refl _ _, Lib.hid (fun i h => by omega)⟩
  case round =>
    obtain ⟨j, rfl, hj, hb, hm⟩ := hrel
    have HB := Lib.hid hb
    clear hb
    by_cases hlt : j < 8
    · have hjz : (j : Int) < 8 := by omega
      have hidx2 := markL_idx hlt (by omega)
      have q3 : IntKind.i64.wrap ((j : Int) + 1) = j + 1 := IntWalk.i64_in _ (by omega)
      by_cases hc : c = markL.getD j 0
      · have HR := Lib.hid (show res = .tuple #[.string ⟨#[meantL.getD j 0]⟩, .int .i64 a2, .bool true] by
          rw [HRS.out, esc_hit hlt hc, HA.out.2]
          rfl)
        have hcz : (((markL.getD j 0).toNat : Int) == (c.toNat : Int)) = true := by rw [← hc]; simp
        have hsl : ∀ W : World, (Instr.slice 9 (.string ⟨#[34, 92, 47, 8, 12, 10, 13, 9]⟩) (some (.int .i64 j)) (some (.int .i64 ((j : Int) + 1))) none).run Tryz.prog W = .ok (.string ⟨#[meantL.getD j 0]⟩) W := fun W => slice1 (x := meantL) hlt W
        clear hc hm HRS HA
        generalize markL.getD j 0 = d at *
        generalize meantL.getD j 0 = d2 at *
        go_wp2_with fail
        go_quiet (fail)
        go_wp2_with fail
        go_ret3
        exact ⟨by rw [HR.out]; first | done | rfl, below_drewN HB.out _⟩
      · have hcz : (((markL.getD j 0).toNat : Int) == (c.toNat : Int)) = false := by
          simp only [beq_eq_false_iff_ne, ne_eq, Int.natCast_inj]
          exact fun e => hc (UInt8.toNat_inj.1 e.symm)
        have HM := Lib.hid (show ∀ i, i < j + 1 → c ≠ markL.getD i 0 from fun i hi => by
          by_cases h : i = j
          · rw [h]; exact hc
          · exact hm.out i (by omega))
        clear hc hm
        generalize markL.getD j 0 = d at *
        go_wp2_with fail
        go_quiet (fail)
        go_wp2_with fail
        go_roundw
        case rel => exact ⟨j + 1, by go_num, by omega, below_drewN HB.out _, HM⟩
        case measure => simp only [intOf]; omega
    · have hjz : ¬ (j : Int) < 8 := by omega
      have HM := Lib.hid (show ∀ i, i < 8 → c ≠ markL.getD i 0 from fun i hi => hm.out i (by omega))
      clear hm
      by_cases h117 : c = 117
      · subst h117
        have HRS2 := HRS.out
        rw [esc_u] at HRS2
        have hff := fun W => four_any l a2 false hl (by have := HA.out.2; omega) W
        unfold strV at hff
        clear hj hlt HRS HM
        cases hr : rF false 4 0 (l.drop a2) 0
        case error jj =>
          rw [hr] at HRS2 hff
          obtain ⟨pz, hpz⟩ : ∃ z, z = a2 + jj := ⟨_, rfl⟩
          have HR := Lib.hid (show res = .tuple #[.string ⟨#[]⟩, .int .i64 pz, .bool false] by
            rw [HRS2, escO, show a + 1 + (1 + jj) = pz by have := HA.out.2; omega])
          rw [fourV, ← hpz] at hff
          have HF := Lib.hid hff
          clear HRS2 hff hr hpz HA
          go_wp2_with fail
          refine (HF.out _).mono ?_
          rintro e w1 ⟨rfl, rfl⟩
          clear HF
          go_wp2_with fail
          go_ret3
          exact ⟨by rw [HR.out]; first | done | rfl, HB.out⟩
        case ok v =>
          obtain ⟨v0, v1, v2⟩ := rF_first hr
          rw [hr] at HRS2 hff
          rw [fourV] at hff
          have HF := Lib.hid hff
          obtain ⟨a6, ha6⟩ : ∃ z, z = a + 6 := ⟨_, rfl⟩
          have q6 : IntKind.i64.wrap ((a : Int) + 6) = (a6 : Int) := by rw [ha6]; exact IntWalk.i64_in _ (by omega)
          clear hff hr
          dsimp only at HRS2
          by_cases hsur : 55296 ≤ v ∧ v < 56320
          · obtain ⟨s0, s1⟩ := hsur
            have d0 : decide (55296 ≤ v) = true := decide_eq_true s0
            have d1 : decide (v < 56320) = true := decide_eq_true s1
            rw [if_pos ⟨s0, s1⟩, List.drop_drop, show a2 + 4 = a6 by have := HA.out.2; omega] at HRS2
            have HRS3 := Lib.hid HRS2
            have HV := Lib.hid (And.intro s0 s1)
            have HA6 := Lib.hid ha6
            clear HRS2 s0 s1 v0 v1 v2 ha6
            have hmz2 : (⟨#[92, 117]⟩ : ByteArray).size = 2 := rfl
            go_wp2_with fail
            refine (HF.out _).mono ?_
            rintro e w1 ⟨rfl, rfl⟩
            clear HF
            go_wp2_with fail
            go_loopw [12] (fun i wr => ∃ y : Nat, i = .int .i64 y ∧ y ≤ 2 ∧ Below w.heap.size w wr ∧ Hid (∀ k, k < y → a6 + k < l.length ∧ l.getD (a6 + k) 0 = bsU.getD k 0)) (fun i _ => 2 - (intOf i).toNat)
            case atStart => exact ⟨0, rfl, by omega, HB.out, Lib.hid (fun i h => by omega)⟩
            case round =>
              clear HB
              obtain ⟨y, rfl, hy, hb, hm⟩ := hrel
              have HB := Lib.hid hb
              clear hb
              by_cases hy2 : y < 2
              · have hyz : (y : Int) < 2 := by omega
                have hidx2 := bsU_idx hy2 (by omega)
                have q3 : IntKind.i64.wrap ((y : Int) + 1) = y + 1 := IntWalk.i64_in _ (by omega)
                obtain ⟨pz, hpz⟩ : ∃ z, z = a6 + y := ⟨_, rfl⟩
                have hab := HA6.out
                have q4 : IntKind.i64.wrap ((a6 : Int) + (y : Int)) = (pz : Int) := by rw [hpz]; exact IntWalk.i64_in _ (by omega)
                have HBAD := Lib.hid (fun (h : l.length ≤ a6 + y ∨ (a6 + y < l.length ∧ l.getD (a6 + y) 0 ≠ bsU.getD y 0)) => show res = .tuple #[.string ⟨#[]⟩, .int .i64 pz, .bool false] by
                  rw [HRS3.out, pair_bad hy2 hm.out h, escO, show a + 1 + (5 + y) = pz by omega])
                clear hab
                by_cases hlen : l.length ≤ pz
                · have z5 : decide ((l.length : Int) ≤ (pz : Int)) = true := decide_eq_true (by omega)
                  have z6 : (l.length : Int) ≤ (pz : Int) := by omega
                  have HR := Lib.hid (HBAD.out (.inl (by omega)))
                  clear HBAD hpz hm hlen
                  go_wp2_with fail
                  go_quiet (fail)
                  go_wp2_with fail
                  go_ret3
                  exact ⟨by rw [HR.out]; first | done | rfl, below_drewN HB.out _⟩
                have z5 : decide ((l.length : Int) ≤ (pz : Int)) = false := decide_eq_false (by omega)
                have z6 : ¬ (l.length : Int) ≤ (pz : Int) := by omega
                have hlen2 : pz < l.length := by omega
                have hks2 : pz < (⟨l.toArray⟩ : ByteArray).size := by omega
                have hix2 := bat_idx (l := l) (i := pz) (by omega) hks2
                rw [← hpz] at HBAD
                by_cases he : l.getD pz 0 = bsU.getD y 0
                · have hez : (((l.getD pz 0).toNat : Int) == ((bsU.getD y 0).toNat : Int)) = true := by rw [he]; simp
                  have hnz : (((l.getD pz 0).toNat : Int) != ((bsU.getD y 0).toNat : Int)) = false := by rw [he]; simp
                  have HM2 := Lib.hid (show ∀ k, k < y + 1 → a6 + k < l.length ∧ l.getD (a6 + k) 0 = bsU.getD k 0 from fun k hk => by
                    by_cases h : k = y
                    · rw [h, ← hpz]; exact ⟨by omega, he⟩
                    · exact hm.out k (by omega))
                  clear HBAD hpz hm he
                  generalize l.getD pz 0 = e1 at *
                  generalize bsU.getD y 0 = e2 at *
                  go_wp2_with fail
                  go_quiet (fail)
                  go_wp2_with fail
                  go_roundw
                  case rel => exact ⟨y + 1, by go_num, by omega, below_drewN HB.out _, HM2⟩
                  case measure => simp only [intOf]; omega
                · have hez : (((l.getD pz 0).toNat : Int) == ((bsU.getD y 0).toNat : Int)) = false := u8_ne he
                  have hnz : (((l.getD pz 0).toNat : Int) != ((bsU.getD y 0).toNat : Int)) = true := by simp only [bne, hez, Bool.not_false]
                  have HR := Lib.hid (HBAD.out (.inr ⟨by omega, he⟩))
                  clear HBAD hpz hm he
                  generalize l.getD pz 0 = e1 at *
                  generalize bsU.getD y 0 = e2 at *
                  go_wp2_with fail
                  go_quiet (fail)
                  go_wp2_with fail
                  go_ret3
                  exact ⟨by rw [HR.out]; first | done | rfl, below_drewN HB.out _⟩
              · have hyz : ¬ (y : Int) < 2 := by omega
                have hg := pair_good (v := v) (fun k hk => hm.out k (by omega))
                obtain ⟨a8, ha8⟩ : ∃ z, z = a + 8 := ⟨_, rfl⟩
                obtain ⟨a12, ha12⟩ : ∃ z, z = a + 12 := ⟨_, rfl⟩
                have q8 : IntKind.i64.wrap ((a : Int) + 8) = (a8 : Int) := by rw [ha8]; exact IntWalk.i64_in _ (by omega)
                have q12 : IntKind.i64.wrap ((a : Int) + 12) = (a12 : Int) := by rw [ha12]; exact IntWalk.i64_in _ (by omega)
                rw [show a6 + 2 = a8 by have := HA6.out; omega] at hg
                have HRS4 := HRS3.out
                rw [hg] at HRS4
                have hff := fun W => four_any l a8 true hl (by omega) W
                unfold strV at hff
                clear hg hm HRS3 HA6
                cases hr : rF true 4 0 (l.drop a8) 0
                case error jj =>
                  rw [hr] at HRS4 hff
                  obtain ⟨pz, hpz⟩ : ∃ z, z = a8 + jj := ⟨_, rfl⟩
                  have HR := Lib.hid (show res = .tuple #[.string ⟨#[]⟩, .int .i64 pz, .bool false] by
                    rw [HRS4, escO, show a + 1 + (7 + jj) = pz by omega])
                  rw [fourV, ← hpz] at hff
                  have HF := Lib.hid hff
                  clear HRS4 hff hr hpz HA ha8 ha12
                  go_wp2_with fail
                  refine (HF.out _).mono ?_
                  rintro e w1 ⟨rfl, rfl⟩
                  clear HF
                  go_wp2_with fail
                  go_ret3
                  exact ⟨by rw [HR.out]; first | done | rfl, HB.out⟩
                case ok kk =>
                  obtain ⟨k0, k1⟩ := rF_second hr
                  rw [hr] at HRS4 hff
                  rw [fourV] at hff
                  have HF := Lib.hid hff
                  obtain ⟨v0, v1⟩ := HV.out
                  obtain ⟨s1, hs1⟩ : ∃ z : Int, z = v - 55296 := ⟨_, rfl⟩
                  obtain ⟨s2, hs2⟩ : ∃ z : Int, z = 1024 * s1 := ⟨_, rfl⟩
                  obtain ⟨s3, hs3⟩ : ∃ z : Int, z = 65536 + s2 := ⟨_, rfl⟩
                  obtain ⟨s4, hs4⟩ : ∃ z : Int, z = s3 + kk := ⟨_, rfl⟩
                  obtain ⟨s5, hs5⟩ : ∃ z : Int, z = s4 - 56320 := ⟨_, rfl⟩
                  have r1 : IntKind.i64.wrap (v - 55296) = s1 := by rw [← hs1]; exact IntWalk.i64_in _ (by omega)
                  have r2 : IntKind.i64.wrap (1024 * s1) = s2 := by rw [← hs2]; exact IntWalk.i64_in _ (by omega)
                  have r3 : IntKind.i64.wrap (65536 + s2) = s3 := by rw [← hs3]; exact IntWalk.i64_in _ (by omega)
                  have r4 : IntKind.i64.wrap (s3 + kk) = s4 := by rw [← hs4]; exact IntWalk.i64_in _ (by omega)
                  have r5 : IntKind.i64.wrap (s4 - 56320) = s5 := by rw [← hs5]; exact IntWalk.i64_in _ (by omega)
                  have HR := Lib.hid (show res = .tuple #[.string ⟨(Lib.encodeRune s5).toArray⟩, .int .i64 a12, .bool true] by
                    rw [HRS4, escO, show a + 1 + 11 = a12 by omega, show 65536 + 1024 * (v - 55296) + kk - 56320 = s5 by omega])
                  have q32 : IntKind.i32.wrap s5 = s5 := IntWalk.i32_in _ (by omega)
                  have hpp := fun W => rput_any s5 (by omega) (by omega) W
                  rw [putL_of (by omega)] at hpp
                  unfold strV at hpp
                  have HP := Lib.hid hpp
                  clear hpp HRS4 hff hr hs1 hs2 hs3 hs4 hs5 k0 k1 v0 v1 HA ha8 ha12 HV
                  go_wp2_with fail
                  refine (HF.out _).mono ?_
                  rintro e w1 ⟨rfl, rfl⟩
                  clear HF
                  go_wp2_with fail
                  refine (HP.out _).mono ?_
                  rintro e w2 ⟨rfl, hb2⟩
                  have HB2 := Lib.hid hb2
                  clear hb2 HP
                  go_wp2_with fail
                  go_ret3
                  exact ⟨by rw [HR.out]; first | done | rfl, HB.out.trans (HB2.out.mono HB.out.size)⟩
          · have HR := Lib.hid (show res = .tuple #[.string ⟨(Lib.encodeRune v).toArray⟩, .int .i64 a6, .bool true] by
              rw [HRS2, if_neg hsur, escO, show a + 1 + 5 = a6 by omega])
            have q32 : IntKind.i32.wrap v = v := IntWalk.i32_in _ (by omega)
            have hpp := fun W => rput_any v (by omega) (by omega) W
            rw [putL_of (by omega)] at hpp
            unfold strV at hpp
            have HP := Lib.hid hpp
            clear hpp HRS2 v2 ha6 HA
            by_cases s0 : 55296 ≤ v
            · have d0 : decide (55296 ≤ v) = true := decide_eq_true s0
              have d1 : decide (v < 56320) = false := decide_eq_false (by omega)
              clear hsur s0 v0 v1
              go_wp2_with fail
              refine (HF.out _).mono ?_
              rintro e w1 ⟨rfl, rfl⟩
              clear HF
              go_wp2_with fail
              refine (HP.out _).mono ?_
              rintro e w2 ⟨rfl, hb2⟩
              have HB2 := Lib.hid hb2
              clear hb2 HP
              go_wp2_with fail
              go_ret3
              exact ⟨by rw [HR.out]; first | done | rfl, HB.out.trans (HB2.out.mono HB.out.size)⟩
            · have d0 : decide (55296 ≤ v) = false := decide_eq_false s0
              clear hsur s0 v0 v1
              go_wp2_with fail
              refine (HF.out _).mono ?_
              rintro e w1 ⟨rfl, rfl⟩
              clear HF
              go_wp2_with fail
              refine (HP.out _).mono ?_
              rintro e w2 ⟨rfl, hb2⟩
              have HB2 := Lib.hid hb2
              clear hb2 HP
              go_wp2_with fail
              go_ret3
              exact ⟨by rw [HR.out]; first | done | rfl, HB.out.trans (HB2.out.mono HB.out.size)⟩
      · have hn0 : ((c.toNat : Int) == 117) = false := by
          simp only [beq_eq_false_iff_ne, ne_eq]
          intro e
          exact h117 (UInt8.toNat_inj.1 (show c.toNat = 117 by omega))
        have hn1 : ((c.toNat : Int) != 117) = true := by simp only [bne, hn0, Bool.not_false]
        have HR := Lib.hid (show res = .tuple #[.string ⟨#[]⟩, .int .i64 a1, .bool false] by
          rw [HRS.out, esc_none HM.out h117, escO, HA.out.1])
        clear HRS HM HA h117
        go_wp2_with fail
        go_ret3
        exact ⟨by rw [HR.out]; first | done | rfl, HB.out⟩
end Go.Proofs.YtlblddeemkefkaaGreatDoor
