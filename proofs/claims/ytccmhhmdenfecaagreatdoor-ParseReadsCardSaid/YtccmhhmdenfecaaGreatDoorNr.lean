/- The walk of accordionref04.escape. The walk of accordionref04.Begins: written by wip/gen/no.py. The walk of accordionref04.Unquote: written by wip/gen/ns.py. -/
import Derived.Test.YtccmhhmdenfecaaGreatDoorNp
namespace Go.Proofs.YtccmhhmdenfecaaGreatDoor
set_option linter.unusedVariables false
set_option linter.unusedSimpArgs false
section
open Go.RowKit Go.Shelf
/-- What escape hands back. -/
def escO (a : Nat) : Except Nat (List UInt8 × Nat) → Value
  | .error j => .tuple #[.string ⟨#[]⟩, .int .i64 ((a + 1 + j : Nat) : Int), .bool false]
  | .ok (b, n) => .tuple #[.string ⟨b.toArray⟩, .int .i64 ((a + 1 + n : Nat) : Int), .bool true]
def markL : List UInt8 := [34, 92, 47, 98, 102, 110, 114, 116]
def meantL : List UInt8 := [34, 92, 47, 8, 12, 10, 13, 9]
theorem markL_idx {j : Nat} (hj : j < 8) (h : j < (⟨#[34, 92, 47, 98, 102, 110, 114, 116]⟩ : ByteArray).size) : (⟨#[34, 92, 47, 98, 102, 110, 114, 116]⟩ : ByteArray)[j]'h = markL.getD j 0 := by
  show (#[34, 92, 47, 98, 102, 110, 114, 116] : Array UInt8)[j]'h = _
  simp [markL, List.getD_eq_getElem?_getD, hj]
theorem esc_hit {c : UInt8} {t : List UInt8} {j : Nat} (hj : j < 8) (h : c = markL.getD j 0) : rEsc (c :: t) = .ok ([meantL.getD j 0], 1) := by
  subst h
  have : j = 0 ∨ j = 1 ∨ j = 2 ∨ j = 3 ∨ j = 4 ∨ j = 5 ∨ j = 6 ∨ j = 7 := by omega
  rcases this with rfl | rfl | rfl | rfl | rfl | rfl | rfl | rfl <;> rfl
theorem escV_none {c : UInt8} (h : ∀ i, i < 8 → c ≠ markL.getD i 0) : escV c = -1 := by
  unfold escV
  rw [if_neg (show ¬ c = 34 from h 0 (by omega)), if_neg (show ¬ c = 92 from h 1 (by omega)), if_neg (show ¬ c = 47 from h 2 (by omega)), if_neg (show ¬ c = 98 from h 3 (by omega)), if_neg (show ¬ c = 102 from h 4 (by omega)), if_neg (show ¬ c = 110 from h 5 (by omega)), if_neg (show ¬ c = 114 from h 6 (by omega)), if_neg (show ¬ c = 116 from h 7 (by omega))]
theorem esc_none {c : UInt8} {t : List UInt8} (h : ∀ i, i < 8 → c ≠ markL.getD i 0) (h2 : c ≠ 117) : rEsc (c :: t) = .error 0 := by
  unfold rEsc
  dsimp only
  rw [escV_none h, if_neg (by decide), if_pos h2]
/-- Behind the u of an item: with its two bytes and the second number, if the first asks for them. -/
def rPair (v : Int) : List UInt8 → Except Nat (List UInt8 × Nat)
  | [] => .error 5
  | c1 :: t1 => if c1 ≠ 92 then .error 5 else match t1 with
    | [] => .error 6
    | c2 :: t2 => if c2 ≠ 117 then .error 6 else match rF true 4 0 t2 0 with
      | .error j => .error (7 + j)
      | .ok k => .ok (Lib.encodeRune (65536 + 1024 * (v - 55296) + k - 56320), 11)
theorem esc_u {t : List UInt8} : rEsc (117 :: t) = match rF false 4 0 t 0 with
    | .error j => .error (1 + j)
    | .ok n => if 55296 ≤ n ∧ n < 56320 then rPair n (t.drop 4) else .ok (Lib.encodeRune n, 5) := by
  unfold rEsc
  dsimp only
  rw [if_neg (by decide), if_neg (by decide)]
  rfl
def bsU : List UInt8 := [92, 117]
theorem bsU_idx {j : Nat} (hj : j < 2) (h : j < (⟨#[92, 117]⟩ : ByteArray).size) : (⟨#[92, 117]⟩ : ByteArray)[j]'h = bsU.getD j 0 := by
  show (#[92, 117] : Array UInt8)[j]'h = _
  simp [bsU, List.getD_eq_getElem?_getD, hj]
theorem drop_get {l : List UInt8} {q : Nat} (hq : q < l.length) : l.drop q = l.getD q 0 :: l.drop (q + 1) := by
  rw [List.drop_eq_getElem_cons hq, List.getD_eq_getElem?_getD, List.getElem?_eq_getElem hq]; rfl
/-- The pair fails at its i-th byte. -/
theorem pair_bad {l : List UInt8} {v : Int} {q i : Nat} (hi : i < 2) (hb : ∀ k, k < i → q + k < l.length ∧ l.getD (q + k) 0 = bsU.getD k 0) (h : l.length ≤ q + i ∨ (q + i < l.length ∧ l.getD (q + i) 0 ≠ bsU.getD i 0)) : rPair v (l.drop q) = .error (5 + i) := by
  have : i = 0 ∨ i = 1 := by omega
  rcases this with rfl | rfl
  · rw [Nat.add_zero] at h
    rcases h with h | ⟨h, hn⟩
    · rw [List.drop_of_length_le h]; rfl
    · rw [drop_get h]
      unfold rPair
      dsimp only
      rw [if_pos (show l.getD q 0 ≠ 92 from hn)]
  · obtain ⟨g1, g2⟩ := hb 0 (by omega)
    rw [Nat.add_zero] at g1 g2
    rw [drop_get g1]
    unfold rPair
    dsimp only
    rw [if_neg (show ¬ l.getD q 0 ≠ 92 from fun hx => hx g2)]
    rcases h with h | ⟨h, hn⟩
    · rw [List.drop_of_length_le h]
    · rw [drop_get h]
      dsimp only
      rw [if_pos (show l.getD (q + 1) 0 ≠ 117 from hn)]
theorem pair_good {l : List UInt8} {v : Int} {q : Nat} (hb : ∀ k, k < 2 → q + k < l.length ∧ l.getD (q + k) 0 = bsU.getD k 0) : rPair v (l.drop q) = match rF true 4 0 (l.drop (q + 2)) 0 with
      | .error j => .error (7 + j)
      | .ok k => .ok (Lib.encodeRune (65536 + 1024 * (v - 55296) + k - 56320), 11) := by
  obtain ⟨g1, g2⟩ := hb 0 (by omega)
  obtain ⟨g3, g4⟩ := hb 1 (by omega)
  rw [Nat.add_zero] at g1 g2
  rw [drop_get g1]
  unfold rPair
  dsimp only
  rw [if_neg (show ¬ l.getD q 0 ≠ 92 from fun hx => hx g2), drop_get g3]
  dsimp only
  rw [if_neg (show ¬ l.getD (q + 1) 0 ≠ 117 from fun hx => hx g4)]
set_option maxHeartbeats 16000000 in
set_option maxRecDepth 100000 in
theorem resc_any (l : List UInt8) (a : Nat) (hl : l.length ≤ 1073741824) (ha : a < l.length) (w : World) : Calls Tryz.prog 119 #[strV l, .int .i64 a] w fun o w' => o = .returned (escO a (rEsc (l.drop (a + 1)))) ∧ Below w.heap.size w w' := by
  have hs : (⟨l.toArray⟩ : ByteArray).size = l.length := by simp [ByteArray.size]
  obtain ⟨res, hres⟩ : ∃ r, r = escO a (rEsc (l.drop (a + 1))) := ⟨_, rfl⟩
  rw [← hres]
  obtain ⟨a1, ha1⟩ : ∃ z, z = a + 1 := ⟨_, rfl⟩
  have q1 : IntKind.i64.wrap ((a : Int) + 1) = (a1 : Int) := by rw [ha1]; exact IntWalk.i64_in _ (by omega)
  rw [← ha1] at hres
  by_cases h1 : l.length ≤ a1
  · have z1 : (l.length : Int) ≤ (a1 : Int) := by omega
    have HR := Lib.hid (show res = .tuple #[.string ⟨#[]⟩, .int .i64 a1, .bool false] by
      rw [hres, List.drop_of_length_le h1, ha1]
      rfl)
    clear hres ha1
    unfold strV
    go_enter Tryz.func119, Tryz.ntmps119
    go_wp2_with fail
    go_ret3
    exact ⟨by rw [HR.out]; first | done | rfl, Below.refl _ _⟩
  have z1 : ¬ (l.length : Int) ≤ (a1 : Int) := by omega
  have hks : a1 < (⟨l.toArray⟩ : ByteArray).size := by omega
  have hix := bat_idx (l := l) (i := a1) (by omega) hks
  rw [drop_get (show a1 < l.length by omega)] at hres
  obtain ⟨a2, ha2⟩ : ∃ z, z = a + 2 := ⟨_, rfl⟩
  have q2 : IntKind.i64.wrap ((a : Int) + 2) = (a2 : Int) := by rw [ha2]; exact IntWalk.i64_in _ (by omega)
  rw [show a1 + 1 = a2 by omega] at hres
  generalize l.getD a1 0 = c at *
  have HRS := Lib.hid hres
  have HA := Lib.hid (And.intro ha1 ha2)
  clear hres ha1 ha2
  have hmz : (⟨#[34, 92, 47, 98, 102, 110, 114, 116]⟩ : ByteArray).size = 8 := rfl
  unfold strV
  go_enter Tryz.func119, Tryz.ntmps119
  go_wp2_with fail
  go_loopw [7] (fun i wr => ∃ j : Nat, i = .int .i64 j ∧ j ≤ 8 ∧ Below w.heap.size w wr ∧ Hid (∀ i, i < j → c ≠ markL.getD i 0)) (fun i _ => 8 - (intOf i).toNat)
  case atStart => exact ⟨0, rfl, by omega, Below.refl _ _, Lib.hid (fun i h => by omega)⟩
  case round =>
    obtain ⟨j, rfl, hj, hb, hm⟩ := hrel
    have HB := Lib.hid hb
    clear hb
    by_cases hlt : j < 8
    · have hjz : (j : Int) < 8 := by omega
      have hidx2 := markL_idx hlt (by omega)
      have q3 : IntKind.i64.wrap ((j : Int) + 1) = j + 1 := IntWalk.i64_in _ (by omega)
      by_cases hc : c = markL.getD j 0
      · have HR := Lib.hid (show res = .tuple #[.string ⟨#[meantL.getD j 0]⟩, .int .i64 a2, .bool true] by
          rw [HRS.out, esc_hit hlt hc, HA.out.2]
          rfl)
        have hcz : (((markL.getD j 0).toNat : Int) == (c.toNat : Int)) = true := by rw [← hc]; simp
        have hsl : ∀ W : World, (Instr.slice 9 (.string ⟨#[34, 92, 47, 8, 12, 10, 13, 9]⟩) (some (.int .i64 j)) (some (.int .i64 ((j : Int) + 1))) none).run Tryz.prog W = .ok (.string ⟨#[meantL.getD j 0]⟩) W := fun W => slice1 (x := meantL) hlt W
        clear hc hm HRS HA
        generalize markL.getD j 0 = d at *
        generalize meantL.getD j 0 = d2 at *
        go_wp2_with fail
        go_quiet (fail)
        go_wp2_with fail
        go_ret3
        exact ⟨by rw [HR.out]; first | done | rfl, below_drewN HB.out _⟩
      · have hcz : (((markL.getD j 0).toNat : Int) == (c.toNat : Int)) = false := by
          simp only [beq_eq_false_iff_ne, ne_eq, Int.natCast_inj]
          exact fun e => hc (UInt8.toNat_inj.1 e.symm)
        have HM := Lib.hid (show ∀ i, i < j + 1 → c ≠ markL.getD i 0 from fun i hi => by
          by_cases h : i = j
          · rw [h]; exact hc
          · exact hm.out i (by omega))
        clear hc hm
        generalize markL.getD j 0 = d at *
        go_wp2_with fail
        go_quiet (fail)
        go_wp2_with fail
        go_roundw
        case rel => exact ⟨j + 1, by go_num, by omega, below_drewN HB.out _, HM⟩
        case measure => simp only [intOf]; omega
    · have hjz : ¬ (j : Int) < 8 := by omega
      have HM := Lib.hid (show ∀ i, i < 8 → c ≠ markL.getD i 0 from fun i hi => hm.out i (by omega))
      clear hm
      by_cases h117 : c = 117
      · subst h117
        have HRS2 := HRS.out
        rw [esc_u] at HRS2
        have hff := fun W => four_any l a2 false hl (by have := HA.out.2; omega) W
        unfold strV at hff
        clear hj hlt HRS HM
        cases hr : rF false 4 0 (l.drop a2) 0
        case error jj =>
          rw [hr] at HRS2 hff
          obtain ⟨pz, hpz⟩ : ∃ z, z = a2 + jj := ⟨_, rfl⟩
          have HR := Lib.hid (show res = .tuple #[.string ⟨#[]⟩, .int .i64 pz, .bool false] by
            rw [HRS2, escO, show a + 1 + (1 + jj) = pz by have := HA.out.2; omega])
          rw [fourV, ← hpz] at hff
          have HF := Lib.hid hff
          clear HRS2 hff hr hpz HA
          go_wp2_with fail
          refine (HF.out _).mono ?_
          rintro e w1 ⟨rfl, rfl⟩
          clear HF
          go_wp2_with fail
          go_ret3
          exact ⟨by rw [HR.out]; first | done | rfl, HB.out⟩
        case ok v =>
          obtain ⟨v0, v1, v2⟩ := rF_first hr
          rw [hr] at HRS2 hff
          rw [fourV] at hff
          have HF := Lib.hid hff
          obtain ⟨a6, ha6⟩ : ∃ z, z = a + 6 := ⟨_, rfl⟩
          have q6 : IntKind.i64.wrap ((a : Int) + 6) = (a6 : Int) := by rw [ha6]; exact IntWalk.i64_in _ (by omega)
          clear hff hr
          dsimp only at HRS2
          by_cases hsur : 55296 ≤ v ∧ v < 56320
          · obtain ⟨s0, s1⟩ := hsur
            have d0 : decide (55296 ≤ v) = true := decide_eq_true s0
            have d1 : decide (v < 56320) = true := decide_eq_true s1
            rw [if_pos ⟨s0, s1⟩, List.drop_drop, show a2 + 4 = a6 by have := HA.out.2; omega] at HRS2
            have HRS3 := Lib.hid HRS2
            have HV := Lib.hid (And.intro s0 s1)
            have HA6 := Lib.hid ha6
            clear HRS2 s0 s1 v0 v1 v2 ha6
            have hmz2 : (⟨#[92, 117]⟩ : ByteArray).size = 2 := rfl
            go_wp2_with fail
            refine (HF.out _).mono ?_
            rintro e w1 ⟨rfl, rfl⟩
            clear HF
            go_wp2_with fail
            go_loopw [12] (fun i wr => ∃ y : Nat, i = .int .i64 y ∧ y ≤ 2 ∧ Below w.heap.size w wr ∧ Hid (∀ k, k < y → a6 + k < l.length ∧ l.getD (a6 + k) 0 = bsU.getD k 0)) (fun i _ => 2 - (intOf i).toNat)
            case atStart => exact ⟨0, rfl, by omega, HB.out, Lib.hid (fun i h => by omega)⟩
            case round =>
              clear HB
              obtain ⟨y, rfl, hy, hb, hm⟩ := hrel
              have HB := Lib.hid hb
              clear hb
              by_cases hy2 : y < 2
              · have hyz : (y : Int) < 2 := by omega
                have hidx2 := bsU_idx hy2 (by omega)
                have q3 : IntKind.i64.wrap ((y : Int) + 1) = y + 1 := IntWalk.i64_in _ (by omega)
                obtain ⟨pz, hpz⟩ : ∃ z, z = a6 + y := ⟨_, rfl⟩
                have hab := HA6.out
                have q4 : IntKind.i64.wrap ((a6 : Int) + (y : Int)) = (pz : Int) := by rw [hpz]; exact IntWalk.i64_in _ (by omega)
                have HBAD := Lib.hid (fun (h : l.length ≤ a6 + y ∨ (a6 + y < l.length ∧ l.getD (a6 + y) 0 ≠ bsU.getD y 0)) => show res = .tuple #[.string ⟨#[]⟩, .int .i64 pz, .bool false] by
                  rw [HRS3.out, pair_bad hy2 hm.out h, escO, show a + 1 + (5 + y) = pz by omega])
                clear hab
                by_cases hlen : l.length ≤ pz
                · have z5 : decide ((l.length : Int) ≤ (pz : Int)) = true := decide_eq_true (by omega)
                  have z6 : (l.length : Int) ≤ (pz : Int) := by omega
                  have HR := Lib.hid (HBAD.out (.inl (by omega)))
                  clear HBAD hpz hm hlen
                  go_wp2_with fail
                  go_quiet (fail)
                  go_wp2_with fail
                  go_ret3
                  exact ⟨by rw [HR.out]; first | done | rfl, below_drewN HB.out _⟩
                have z5 : decide ((l.length : Int) ≤ (pz : Int)) = false := decide_eq_false (by omega)
                have z6 : ¬ (l.length : Int) ≤ (pz : Int) := by omega
                have hlen2 : pz < l.length := by omega
                have hks2 : pz < (⟨l.toArray⟩ : ByteArray).size := by omega
                have hix2 := bat_idx (l := l) (i := pz) (by omega) hks2
                rw [← hpz] at HBAD
                by_cases he : l.getD pz 0 = bsU.getD y 0
                · have hez : (((l.getD pz 0).toNat : Int) == ((bsU.getD y 0).toNat : Int)) = true := by rw [he]; simp
                  have hnz : (((l.getD pz 0).toNat : Int) != ((bsU.getD y 0).toNat : Int)) = false := by rw [he]; simp
                  have HM2 := Lib.hid (show ∀ k, k < y + 1 → a6 + k < l.length ∧ l.getD (a6 + k) 0 = bsU.getD k 0 from fun k hk => by
                    by_cases h : k = y
                    · rw [h, ← hpz]; exact ⟨by omega, he⟩
                    · exact hm.out k (by omega))
                  clear HBAD hpz hm he
                  generalize l.getD pz 0 = e1 at *
                  generalize bsU.getD y 0 = e2 at *
                  go_wp2_with fail
                  go_quiet (fail)
                  go_wp2_with fail
                  go_roundw
                  case rel => exact ⟨y + 1, by go_num, by omega, below_drewN HB.out _, HM2⟩
                  case measure => simp only [intOf]; omega
                · have hez : (((l.getD pz 0).toNat : Int) == ((bsU.getD y 0).toNat : Int)) = false := u8_ne he
                  have hnz : (((l.getD pz 0).toNat : Int) != ((bsU.getD y 0).toNat : Int)) = true := by simp only [bne, hez, Bool.not_false]
                  have HR := Lib.hid (HBAD.out (.inr ⟨by omega, he⟩))
                  clear HBAD hpz hm he
                  generalize l.getD pz 0 = e1 at *
                  generalize bsU.getD y 0 = e2 at *
                  go_wp2_with fail
                  go_quiet (fail)
                  go_wp2_with fail
                  go_ret3
                  exact ⟨by rw [HR.out]; first | done | rfl, below_drewN HB.out _⟩
              · have hyz : ¬ (y : Int) < 2 := by omega
                have hg := pair_good (v := v) (fun k hk => hm.out k (by omega))
                obtain ⟨a8, ha8⟩ : ∃ z, z = a + 8 := ⟨_, rfl⟩
                obtain ⟨a12, ha12⟩ : ∃ z, z = a + 12 := ⟨_, rfl⟩
                have q8 : IntKind.i64.wrap ((a : Int) + 8) = (a8 : Int) := by rw [ha8]; exact IntWalk.i64_in _ (by omega)
                have q12 : IntKind.i64.wrap ((a : Int) + 12) = (a12 : Int) := by rw [ha12]; exact IntWalk.i64_in _ (by omega)
                rw [show a6 + 2 = a8 by have := HA6.out; omega] at hg
                have HRS4 := HRS3.out
                rw [hg] at HRS4
                have hff := fun W => four_any l a8 true hl (by omega) W
                unfold strV at hff
                clear hg hm HRS3 HA6
                cases hr : rF true 4 0 (l.drop a8) 0
                case error jj =>
                  rw [hr] at HRS4 hff
                  obtain ⟨pz, hpz⟩ : ∃ z, z = a8 + jj := ⟨_, rfl⟩
                  have HR := Lib.hid (show res = .tuple #[.string ⟨#[]⟩, .int .i64 pz, .bool false] by
                    rw [HRS4, escO, show a + 1 + (7 + jj) = pz by omega])
                  rw [fourV, ← hpz] at hff
                  have HF := Lib.hid hff
                  clear HRS4 hff hr hpz HA ha8 ha12
                  go_wp2_with fail
                  refine (HF.out _).mono ?_
                  rintro e w1 ⟨rfl, rfl⟩
                  clear HF
                  go_wp2_with fail
                  go_ret3
                  exact ⟨by rw [HR.out]; first | done | rfl, HB.out⟩
                case ok kk =>
                  obtain ⟨k0, k1⟩ := rF_second hr
                  rw [hr] at HRS4 hff
                  rw [fourV] at hff
                  have HF := Lib.hid hff
                  obtain ⟨v0, v1⟩ := HV.out
                  obtain ⟨s1, hs1⟩ : ∃ z : Int, z = v - 55296 := ⟨_, rfl⟩
                  obtain ⟨s2, hs2⟩ : ∃ z : Int, z = 1024 * s1 := ⟨_, rfl⟩
                  obtain ⟨s3, hs3⟩ : ∃ z : Int, z = 65536 + s2 := ⟨_, rfl⟩
                  obtain ⟨s4, hs4⟩ : ∃ z : Int, z = s3 + kk := ⟨_, rfl⟩
                  obtain ⟨s5, hs5⟩ : ∃ z : Int, z = s4 - 56320 := ⟨_, rfl⟩
                  have r1 : IntKind.i64.wrap (v - 55296) = s1 := by rw [← hs1]; exact IntWalk.i64_in _ (by omega)
                  have r2 : IntKind.i64.wrap (1024 * s1) = s2 := by rw [← hs2]; exact IntWalk.i64_in _ (by omega)
                  have r3 : IntKind.i64.wrap (65536 + s2) = s3 := by rw [← hs3]; exact IntWalk.i64_in _ (by omega)
                  have r4 : IntKind.i64.wrap (s3 + kk) = s4 := by rw [← hs4]; exact IntWalk.i64_in _ (by omega)
                  have r5 : IntKind.i64.wrap (s4 - 56320) = s5 := by rw [← hs5]; exact IntWalk.i64_in _ (by omega)
                  have HR := Lib.hid (show res = .tuple #[.string ⟨(Lib.encodeRune s5).toArray⟩, .int .i64 a12, .bool true] by
                    rw [HRS4, escO, show a + 1 + 11 = a12 by omega, show 65536 + 1024 * (v - 55296) + kk - 56320 = s5 by omega])
                  have q32 : IntKind.i32.wrap s5 = s5 := IntWalk.i32_in _ (by omega)
                  have hpp := fun W => rput_any s5 (by omega) (by omega) W
                  rw [putL_of (by omega)] at hpp
                  unfold strV at hpp
                  have HP := Lib.hid hpp
                  clear hpp HRS4 hff hr hs1 hs2 hs3 hs4 hs5 k0 k1 v0 v1 HA ha8 ha12 HV
                  go_wp2_with fail
                  refine (HF.out _).mono ?_
                  rintro e w1 ⟨rfl, rfl⟩
                  clear HF
                  go_wp2_with fail
                  refine (HP.out _).mono ?_
                  rintro e w2 ⟨rfl, hb2⟩
                  have HB2 := Lib.hid hb2
                  clear hb2 HP
                  go_wp2_with fail
                  go_ret3
                  exact ⟨by rw [HR.out]; first | done | rfl, HB.out.trans (HB2.out.mono HB.out.size)⟩
          · have HR := Lib.hid (show res = .tuple #[.string ⟨(Lib.encodeRune v).toArray⟩, .int .i64 a6, .bool true] by
              rw [HRS2, if_neg hsur, escO, show a + 1 + 5 = a6 by omega])
            have q32 : IntKind.i32.wrap v = v := IntWalk.i32_in _ (by omega)
            have hpp := fun W => rput_any v (by omega) (by omega) W
            rw [putL_of (by omega)] at hpp
            unfold strV at hpp
            have HP := Lib.hid hpp
            clear hpp HRS2 v2 ha6 HA
            by_cases s0 : 55296 ≤ v
            · have d0 : decide (55296 ≤ v) = true := decide_eq_true s0
              have d1 : decide (v < 56320) = false := decide_eq_false (by omega)
              clear hsur s0 v0 v1
              go_wp2_with fail
              refine (HF.out _).mono ?_
              rintro e w1 ⟨rfl, rfl⟩
              clear HF
              go_wp2_with fail
              refine (HP.out _).mono ?_
              rintro e w2 ⟨rfl, hb2⟩
              have HB2 := Lib.hid hb2
              clear hb2 HP
              go_wp2_with fail
              go_ret3
              exact ⟨by rw [HR.out]; first | done | rfl, HB.out.trans (HB2.out.mono HB.out.size)⟩
            · have d0 : decide (55296 ≤ v) = false := decide_eq_false s0
              clear hsur s0 v0 v1
              go_wp2_with fail
              refine (HF.out _).mono ?_
              rintro e w1 ⟨rfl, rfl⟩
              clear HF
              go_wp2_with fail
              refine (HP.out _).mono ?_
              rintro e w2 ⟨rfl, hb2⟩
              have HB2 := Lib.hid hb2
              clear hb2 HP
              go_wp2_with fail
              go_ret3
              exact ⟨by rw [HR.out]; first | done | rfl, HB.out.trans (HB2.out.mono HB.out.size)⟩
      · have hn0 : ((c.toNat : Int) == 117) = false := by
          simp only [beq_eq_false_iff_ne, ne_eq]
          intro e
          exact h117 (UInt8.toNat_inj.1 (show c.toNat = 117 by omega))
        have hn1 : ((c.toNat : Int) != 117) = true := by simp only [bne, hn0, Bool.not_false]
        have HR := Lib.hid (show res = .tuple #[.string ⟨#[]⟩, .int .i64 a1, .bool false] by
          rw [HRS.out, esc_none HM.out h117, escO, HA.out.1])
        clear HRS HM HA h117
        go_wp2_with fail
        go_ret3
        exact ⟨by rw [HR.out]; first | done | rfl, HB.out⟩
end
section
open Go.RowKit Go.Shelf
/-- Whether the bytes are a proper prefix of an encoding. -/
def begB (l : List UInt8) : Bool := decide (PartU l.length (bat l 0) (bat l 1) (bat l 2))
theorem lohi_bd2 {l : List UInt8} {h : Int} {m : Nat} (h0 : 0 ≤ h) (hh : 0 ≤ (bat l 0 : Int) - h) : ∀ k, (∀ i, 1 ≤ i → i < m → i ≤ k → 128 ≤ bat l i ∧ bat l i ≤ 191) → (0 ≤ (lohi h l m k).1 ∧ (lohi h l m k).1 < 256 * 64 ^ k) ∧ (0 ≤ (lohi h l m k).2 ∧ (lohi h l m k).2 < 256 * 64 ^ k)
  | 0, _ => by have := bat_lt l 0; unfold lohi; dsimp only; omega
  | k + 1, hb => by
    obtain ⟨⟨a, b⟩, c, d⟩ := lohi_bd2 (l := l) (m := m) h0 hh k (fun i h1 h2 h3 => hb i h1 h2 (by omega))
    unfold lohi
    rw [Int.pow_succ]
    generalize (64 : Int) ^ k = p at *
    generalize lohi h l m k = v at *
    obtain ⟨v1, v2⟩ := v
    dsimp only at *
    split
    · rename_i hk
      have := hb (k + 1) (by omega) hk (Nat.le_refl _)
      dsimp only
      omega
    · dsimp only
      omega
set_option maxHeartbeats 4000000 in
set_option maxRecDepth 100000 in
theorem beg_long (l : List UInt8) (h0 : 0 < l.length) (hl : l.length ≤ 1073741824) (h : longB (bat l 0) ≤ l.length) (w : World) : Calls Tryz.prog 121 #[strV l] w fun o w' => o = .returned (.bool (begB l)) ∧ Below w.heap.size w w' := by
  have hs : (⟨l.toArray⟩ : ByteArray).size = l.length := by simp [ByteArray.size]
  have hr : begB l = false := by
    unfold begB PartU
    exact decide_eq_false (fun g => by have := g.1; omega)
  rw [hr]
  clear hr
  have hps : 0 < (⟨l.toArray⟩ : ByteArray).size := by omega
  have hidx := bat_idx (l := l) (i := 0) h0 hps
  have hb : (l.getD 0 0).toNat = bat l 0 := rfl
  have HL : Hid (∀ W, Calls Tryz.prog 139 #[.int .u8 (l.getD 0 0).toNat] W fun o w' => o = .returned (.int .i64 (longB (bat l 0))) ∧ w' = W) := Lib.hid (fun W => long_any (l.getD 0 0) W)
  clear hb
  generalize l.getD 0 0 = c at *
  generalize longB (bat l 0) = n at *
  have hnz : (n : Int) ≤ (l.length : Int) := by omega
  unfold strV
  go_enter Tryz.func121, Tryz.ntmps121
  go_wp2_with fail
  refine (HL.out _).mono ?_
  rintro e w1 ⟨rfl, rfl⟩
  clear HL
  go_wp2_with fail
  go_ret
  exact ⟨rfl, Below.refl _ _⟩
set_option maxHeartbeats 8000000 in
set_option maxRecDepth 100000 in
theorem beg_2 (l : List UInt8) (h0 : 0 < l.length) (hl : l.length < 2) (hn : longB (bat l 0) = 2) (w : World) : Calls Tryz.prog 121 #[strV l] w fun o w' => o = .returned (.bool (begB l)) ∧ Below w.heap.size w w' := by
  have hs : (⟨l.toArray⟩ : ByteArray).size = l.length := by simp [ByteArray.size]
  have hps : 0 < (⟨l.toArray⟩ : ByteArray).size := by omega
  have hidx := bat_idx (l := l) (i := 0) h0 hps
  have hb : (l.getD 0 0).toNat = bat l 0 := rfl
  have HL : Hid (∀ W, Calls Tryz.prog 139 #[.int .u8 (l.getD 0 0).toNat] W fun o w' => o = .returned (.int .i64 2) ∧ w' = W) := Lib.hid (fun W => by have := long_any (l.getD 0 0) W; rw [hb, hn] at this; exact this)
  have hle : 0 ≤ (bat l 0 : Int) - 192 := by have := @head_le l; rw [hn] at this; exact this
  have HBD := Lib.hid (fun k => @lohi_bd2 l 192 l.length (by omega) hle k)
  have HV0 := Lib.hid (show (lohi 192 l l.length 0).1 = ((l.getD 0 0).toNat : Int) - 192 ∧ (lohi 192 l l.length 0).2 = ((l.getD 0 0).toNat : Int) - 192 from ⟨rfl, rfl⟩)
  obtain ⟨res, hres⟩ : ∃ r, r = begB l := ⟨_, rfl⟩
  rw [← hres]
  have HOUT := Lib.hid (fun i (h1 : 1 ≤ i) (h2 : i < l.length) (h3 : ¬ (128 ≤ bat l i ∧ bat l i ≤ 191)) => show res = false by rw [hres]; unfold begB; exact decide_eq_false (part_out h1 h2 h3))
  have HEND := Lib.hid (fun (hbb : ∀ i, 1 ≤ i → i < l.length → 128 ≤ bat l i ∧ bat l i ≤ 191) => show res = decide (max (lohi 192 l l.length 1).1 128 ≤ min (lohi 192 l l.length 1).2 1114111 ∧ (max (lohi 192 l l.length 1).1 128 < 55296 ∨ 57343 < min (lohi 192 l l.length 1).2 1114111)) by
    have := part_iff (l := l) (m := l.length) (by omega) (by omega) hbb (lo := max (lohi 192 l l.length 1).1 128) (hi := min (lohi 192 l l.length 1).2 1114111) (by rw [hn]; rfl) (by rw [hn]; rfl)
    rw [hres]
    unfold begB
    exact decide_eq_decide.2 this.symm)
  have hc := (l.getD 0 0).toNat_lt
  have hcb : 192 ≤ ((l.getD 0 0).toNat : Int) := by rw [hb]; omega
  have hlz : ¬ (2 : Int) ≤ (l.length : Int) := by omega
  clear hn hb hle hres
  generalize l.getD 0 0 = c at *
  have hw0 : wrap64 (c.toNat : Int) = (c.toNat : Int) := IntWalk.wrap64_in _ (by omega)
  have hw1 : wrap64 ((c.toNat : Int) - 192) = (c.toNat : Int) - 192 := IntWalk.wrap64_in _ (by omega)
  unfold strV
  go_enter Tryz.func121, Tryz.ntmps121
  go_wp2_with fail
  refine (HL.out _).mono ?_
  rintro e w1 ⟨rfl, rfl⟩
  clear HL
  go_wp2_with fail
  go_region
  go_wp2_with fail
  go_quiet (fail)
  go_wp2_with fail
  go_loopw [4, 5, 7] (fun a b i wr => ∃ k : Nat, i = .int .i64 (((k + 1 : Nat) : Int)) ∧ a = .int .i64 (lohi 192 l l.length k).1 ∧ b = .int .i64 (lohi 192 l l.length k).2 ∧ k + 1 ≤ 2 ∧ Below w1.heap.size w1 wr ∧ Hid (∀ i, 1 ≤ i → i < l.length → i ≤ k → 128 ≤ bat l i ∧ bat l i ≤ 191)) (fun _ _ i _ => 2 - (intOf i).toNat)
  case atStart =>
    refine ⟨0, rfl, ?_, ?_, by omega, ?_, Lib.hid (fun i h1 _ h3 => by omega)⟩
    · first
        | (rw [HV0.out.1]; done)
        | (rw [HV0.out.1, hw0, hw1]; done)
        | (rw [HV0.out.1, hw1]; done)
    · first
        | (rw [HV0.out.2]; done)
        | (rw [HV0.out.2, hw0, hw1]; done)
        | (rw [HV0.out.2, hw1]; done)
    · first
        | exact below_drewN ((below_drew1 (Below.refl _ _)).alloc (by simp) _) _
        | exact below_drewN ((below_drewN (Below.refl _ _) _).alloc (by simp) _) _
        | exact below_drew1 ((below_drew1 (Below.refl _ _)).alloc (by simp) _)
  case round =>
    clear hw0 hw1 HV0 hcb hc
    obtain ⟨k, rfl, rfl, rfl, hk, hb, hbs⟩ := hrel
    have HB := Lib.hid hb
    clear hb
    have hb1 := HBD.out k hbs.out
    have hp : (64 : Int) ^ k ≤ 262144 := by
      have : k = 0 ∨ k = 1 ∨ k = 2 ∨ k = 3 := by omega
      rcases this with rfl | rfl | rfl | rfl <;> decide
    by_cases hlt : k + 1 < 2
    · have hltz : ((k : Int) + 1) < 2 := by omega
      have q6 : IntKind.i64.wrap ((k : Int) + 1 + 1) = (k : Int) + 1 + 1 := IntWalk.i64_in _ (by omega)
      have HK := Lib.hid (show ((((k + 1 : Nat) : Int)) + 1 = (((k + 1 + 1 : Nat) : Int))) ∧ k + 1 + 1 ≤ 2 by omega)
      by_cases hkm : k + 1 < l.length
      · exact absurd hkm (by omega)
      · have hkmz : ¬ ((k : Int) + 1) < (l.length : Int) := by omega
        have hsn : (lohi 192 l l.length (k + 1)).1 = 64 * (lohi 192 l l.length k).1 ∧ (lohi 192 l l.length (k + 1)).2 = 64 * (lohi 192 l l.length k).2 + 63 := by rw [lohi, if_neg hkm]; exact ⟨rfl, rfl⟩
        have HS2 := Lib.hid (show ∀ i, 1 ≤ i → i < l.length → i ≤ k + 1 → 128 ≤ bat l i ∧ bat l i ≤ 191 from fun i h1 h2 h3 => hbs.out i h1 h2 (by omega))
        have HSN := Lib.hid hsn
        clear hsn hbs
        generalize (lohi 192 l l.length k).1 = lo at *
        generalize (lohi 192 l l.length k).2 = hi at *
        obtain ⟨x, hx⟩ : ∃ z : Int, z = 64 * lo := ⟨_, rfl⟩
        obtain ⟨y, hy⟩ : ∃ z : Int, z = 64 * hi := ⟨_, rfl⟩
        obtain ⟨y2, hy2⟩ : ∃ z : Int, z = y + 63 := ⟨_, rfl⟩
        have q1 : IntKind.i64.wrap (64 * lo) = x := by rw [← hx]; exact IntWalk.i64_in _ (by omega)
        have q2 : IntKind.i64.wrap (64 * hi) = y := by rw [← hy]; exact IntWalk.i64_in _ (by omega)
        have q3 : IntKind.i64.wrap (y + 63) = y2 := by rw [← hy2]; exact IntWalk.i64_in _ (by omega)
        have HQ := Lib.hid (show x = (lohi 192 l l.length (k + 1)).1 ∧ y2 = (lohi 192 l l.length (k + 1)).2 by
          rw [HSN.out.1, HSN.out.2, hy2, hx, hy]
          exact ⟨rfl, rfl⟩)
        clear hk hb1 hp hx hy hy2 HSN hlt hkm
        go_wp2_with fail
        go_roundw
        case rel => exact ⟨k + 1, by first | (congr 1; push_cast; omega) | go_num, by rw [HQ.out.1], by rw [HQ.out.2], HK.out.2, HB.out, HS2⟩
        case measure => have := HK.out; simp only [intOf]; omega
    · have hkn : k = 1 := by omega
      subst hkn
      have HE := HEND.out (fun i h1 h2 => hbs.out i h1 h2 (by omega))
      have hb1 := HBD.out 1 (fun i h1 h2 h3 => hbs.out i h1 h2 h3)
      clear hbs HBD HOUT HEND hk hlt hp
      generalize (lohi 192 l l.length 1).1 = lo at *
      generalize (lohi 192 l l.length 1).2 = hi at *
      obtain ⟨a, ha⟩ : ∃ z : Int, z = max lo 128 := ⟨_, rfl⟩
      obtain ⟨b, hb⟩ : ∃ z : Int, z = min hi 1114111 := ⟨_, rfl⟩
      rw [← ha, ← hb] at HE
      have hmax : ∀ W : World, (Builtin.max_ #[3, 3] 3 #[.int .i64 lo, .int .i64 128]).run Tryz.prog W = .ok (.int .i64 a) W := fun W => by rw [run_max_int2]; congr 2; omega
      have hmin : ∀ W : World, (Builtin.min_ #[3, 3] 3 #[.int .i64 hi, .int .i64 1114111]).run Tryz.prog W = .ok (.int .i64 b) W := fun W => by rw [run_min_int2]; congr 2; omega
      have HE2 := Lib.hid HE
      clear HE ha hb hb1
      by_cases h0 : a ≤ b
      · have d0 : decide (a ≤ b) = true := decide_eq_true h0
        by_cases h1 : a < 55296
        · have d1 : decide (a < 55296) = true := decide_eq_true h1
          have HR := Lib.hid (show res = true by rw [HE2.out]; simp; omega)
          clear HE2
          go_wp2_with fail
          go_ret
          exact ⟨by rw [HR.out]; first | done | rfl, HB.out.alloc (by have := HB.out.size; omega) _⟩
        · have d1 : decide (a < 55296) = false := decide_eq_false h1
          by_cases h2 : 57343 < b
          · have d2 : decide (57343 < b) = true := decide_eq_true h2
            have HR := Lib.hid (show res = true by rw [HE2.out]; simp; omega)
            clear HE2
            go_wp2_with fail
            go_ret
            exact ⟨by rw [HR.out]; first | done | rfl, HB.out.alloc (by have := HB.out.size; omega) _⟩
          · have d2 : decide (57343 < b) = false := decide_eq_false h2
            have HR := Lib.hid (show res = false by rw [HE2.out]; simp; omega)
            clear HE2
            go_wp2_with fail
            go_ret
            exact ⟨by rw [HR.out]; first | done | rfl, HB.out.alloc (by have := HB.out.size; omega) _⟩
      · have d0 : decide (a ≤ b) = false := decide_eq_false h0
        have HR := Lib.hid (show res = false by rw [HE2.out]; simp; omega)
        clear HE2
        go_wp2_with fail
        go_ret
        exact ⟨by rw [HR.out]; first | done | rfl, HB.out.alloc (by have := HB.out.size; omega) _⟩
set_option maxHeartbeats 8000000 in
set_option maxRecDepth 100000 in
theorem beg_3 (l : List UInt8) (h0 : 0 < l.length) (hl : l.length < 3) (hn : longB (bat l 0) = 3) (w : World) : Calls Tryz.prog 121 #[strV l] w fun o w' => o = .returned (.bool (begB l)) ∧ Below w.heap.size w w' := by
  have hs : (⟨l.toArray⟩ : ByteArray).size = l.length := by simp [ByteArray.size]
  have hps : 0 < (⟨l.toArray⟩ : ByteArray).size := by omega
  have hidx := bat_idx (l := l) (i := 0) h0 hps
  have hb : (l.getD 0 0).toNat = bat l 0 := rfl
  have HL : Hid (∀ W, Calls Tryz.prog 139 #[.int .u8 (l.getD 0 0).toNat] W fun o w' => o = .returned (.int .i64 3) ∧ w' = W) := Lib.hid (fun W => by have := long_any (l.getD 0 0) W; rw [hb, hn] at this; exact this)
  have hle : 0 ≤ (bat l 0 : Int) - 224 := by have := @head_le l; rw [hn] at this; exact this
  have HBD := Lib.hid (fun k => @lohi_bd2 l 224 l.length (by omega) hle k)
  have HV0 := Lib.hid (show (lohi 224 l l.length 0).1 = ((l.getD 0 0).toNat : Int) - 224 ∧ (lohi 224 l l.length 0).2 = ((l.getD 0 0).toNat : Int) - 224 from ⟨rfl, rfl⟩)
  obtain ⟨res, hres⟩ : ∃ r, r = begB l := ⟨_, rfl⟩
  rw [← hres]
  have HOUT := Lib.hid (fun i (h1 : 1 ≤ i) (h2 : i < l.length) (h3 : ¬ (128 ≤ bat l i ∧ bat l i ≤ 191)) => show res = false by rw [hres]; unfold begB; exact decide_eq_false (part_out h1 h2 h3))
  have HEND := Lib.hid (fun (hbb : ∀ i, 1 ≤ i → i < l.length → 128 ≤ bat l i ∧ bat l i ≤ 191) => show res = decide (max (lohi 224 l l.length 2).1 2048 ≤ min (lohi 224 l l.length 2).2 1114111 ∧ (max (lohi 224 l l.length 2).1 2048 < 55296 ∨ 57343 < min (lohi 224 l l.length 2).2 1114111)) by
    have := part_iff (l := l) (m := l.length) (by omega) (by omega) hbb (lo := max (lohi 224 l l.length 2).1 2048) (hi := min (lohi 224 l l.length 2).2 1114111) (by rw [hn]; rfl) (by rw [hn]; rfl)
    rw [hres]
    unfold begB
    exact decide_eq_decide.2 this.symm)
  have hc := (l.getD 0 0).toNat_lt
  have hcb : 224 ≤ ((l.getD 0 0).toNat : Int) := by rw [hb]; omega
  have hlz : ¬ (3 : Int) ≤ (l.length : Int) := by omega
  clear hn hb hle hres
  generalize l.getD 0 0 = c at *
  have hw0 : wrap64 (c.toNat : Int) = (c.toNat : Int) := IntWalk.wrap64_in _ (by omega)
  have hw1 : wrap64 ((c.toNat : Int) - 224) = (c.toNat : Int) - 224 := IntWalk.wrap64_in _ (by omega)
  unfold strV
  go_enter Tryz.func121, Tryz.ntmps121
  go_wp2_with fail
  refine (HL.out _).mono ?_
  rintro e w1 ⟨rfl, rfl⟩
  clear HL
  go_wp2_with fail
  go_region
  go_wp2_with fail
  go_quiet (fail)
  go_wp2_with fail
  go_loopw [4, 5, 7] (fun a b i wr => ∃ k : Nat, i = .int .i64 (((k + 1 : Nat) : Int)) ∧ a = .int .i64 (lohi 224 l l.length k).1 ∧ b = .int .i64 (lohi 224 l l.length k).2 ∧ k + 1 ≤ 3 ∧ Below w1.heap.size w1 wr ∧ Hid (∀ i, 1 ≤ i → i < l.length → i ≤ k → 128 ≤ bat l i ∧ bat l i ≤ 191)) (fun _ _ i _ => 3 - (intOf i).toNat)
  case atStart =>
    refine ⟨0, rfl, ?_, ?_, by omega, ?_, Lib.hid (fun i h1 _ h3 => by omega)⟩
    · first
        | (rw [HV0.out.1]; done)
        | (rw [HV0.out.1, hw0, hw1]; done)
        | (rw [HV0.out.1, hw1]; done)
    · first
        | (rw [HV0.out.2]; done)
        | (rw [HV0.out.2, hw0, hw1]; done)
        | (rw [HV0.out.2, hw1]; done)
    · first
        | exact below_drewN ((below_drew1 (Below.refl _ _)).alloc (by simp) _) _
        | exact below_drewN ((below_drewN (Below.refl _ _) _).alloc (by simp) _) _
        | exact below_drew1 ((below_drew1 (Below.refl _ _)).alloc (by simp) _)
  case round =>
    clear hw0 hw1 HV0 hcb hc
    obtain ⟨k, rfl, rfl, rfl, hk, hb, hbs⟩ := hrel
    have HB := Lib.hid hb
    clear hb
    have hb1 := HBD.out k hbs.out
    have hp : (64 : Int) ^ k ≤ 262144 := by
      have : k = 0 ∨ k = 1 ∨ k = 2 ∨ k = 3 := by omega
      rcases this with rfl | rfl | rfl | rfl <;> decide
    by_cases hlt : k + 1 < 3
    · have hltz : ((k : Int) + 1) < 3 := by omega
      have q6 : IntKind.i64.wrap ((k : Int) + 1 + 1) = (k : Int) + 1 + 1 := IntWalk.i64_in _ (by omega)
      have HK := Lib.hid (show ((((k + 1 : Nat) : Int)) + 1 = (((k + 1 + 1 : Nat) : Int))) ∧ k + 1 + 1 ≤ 3 by omega)
      by_cases hkm : k + 1 < l.length
      · have hkmz : ((k : Int) + 1) < (l.length : Int) := by omega
        have hks : k + 1 < (⟨l.toArray⟩ : ByteArray).size := by omega
        have hix := bat_idx (l := l) (i := k + 1) hkm hks
        have HO := HOUT.out (k + 1) (by omega) hkm
        have hsn : (lohi 224 l l.length (k + 1)).1 = 64 * (lohi 224 l l.length k).1 + ((l.getD (k + 1) 0).toNat : Int) - 128 ∧ (lohi 224 l l.length (k + 1)).2 = 64 * (lohi 224 l l.length k).2 + ((l.getD (k + 1) 0).toNat : Int) - 128 := by rw [lohi, if_pos hkm]; exact ⟨rfl, rfl⟩
        have hbt : bat l (k + 1) = (l.getD (k + 1) 0).toNat := rfl
        have hstep : (128 ≤ (l.getD (k + 1) 0).toNat ∧ (l.getD (k + 1) 0).toNat ≤ 191) → ∀ i, 1 ≤ i → i < l.length → i ≤ k + 1 → 128 ≤ bat l i ∧ bat l i ≤ 191 := fun hd i h1 h2 h3 => by
          by_cases he : i = k + 1
          · rw [he, hbt]; exact hd
          · exact hbs.out i h1 h2 (by omega)
        rw [hbt] at HO
        have hc2 := (l.getD (k + 1) 0).toNat_lt
        have HSN := Lib.hid hsn
        have HST := Lib.hid hstep
        clear hbt hsn hbs hstep
        generalize l.getD (k + 1) 0 = d at *
        generalize (lohi 224 l l.length k).1 = lo at *
        generalize (lohi 224 l l.length k).2 = hi at *
        by_cases h128 : d.toNat < 128
        · have z1 : (d.toNat : Int) < 128 := by omega
          have HR := Lib.hid (HO (by omega))
          clear HO hk hb1 hp hc2 h128
          go_wp2_with fail
          go_ret
          exact ⟨by rw [HR.out]; first | done | rfl, HB.out⟩
        have z1 : ¬ (d.toNat : Int) < 128 := by omega
        by_cases h191 : 191 < d.toNat
        · have z2 : 191 < (d.toNat : Int) := by omega
          have HR := Lib.hid (HO (by omega))
          clear HO hk hb1 hp hc2 h128 h191
          go_wp2_with fail
          go_ret
          exact ⟨by rw [HR.out]; first | done | rfl, HB.out⟩
        have z2 : ¬ 191 < (d.toNat : Int) := by omega
        have HS2 := Lib.hid (HST.out (by omega))
        obtain ⟨x, hx⟩ : ∃ z : Int, z = 64 * lo := ⟨_, rfl⟩
        obtain ⟨y, hy⟩ : ∃ z : Int, z = 64 * hi := ⟨_, rfl⟩
        have q1 : IntKind.i64.wrap (64 * lo) = x := by rw [← hx]; exact IntWalk.i64_in _ (by omega)
        have q2 : IntKind.i64.wrap (64 * hi) = y := by rw [← hy]; exact IntWalk.i64_in _ (by omega)
        have HQ := Lib.hid (show wrap64 (wrap64 (x + (d.toNat : Int)) - 128) = (lohi 224 l l.length (k + 1)).1 ∧ wrap64 (wrap64 (y + (d.toNat : Int)) - 128) = (lohi 224 l l.length (k + 1)).2 by
          rw [IntWalk.wrap64_in (x + _) (by omega), IntWalk.wrap64_in (y + _) (by omega), IntWalk.wrap64_in _ (by omega), IntWalk.wrap64_in _ (by omega), HSN.out.1, HSN.out.2, hx, hy]
          exact ⟨rfl, rfl⟩)
        clear HO hk hb1 hp hc2 h128 h191 hx hy HST HSN hlt
        go_wp2_with fail
        go_quiet (fail)
        go_wp2_with fail
        go_roundw
        case rel => exact ⟨k + 1, by first | (congr 1; push_cast; omega) | go_num, by rw [HQ.out.1], by rw [HQ.out.2], HK.out.2, below_drewN HB.out _, HS2⟩
        case measure => have := HK.out; simp only [intOf]; omega
      · have hkmz : ¬ ((k : Int) + 1) < (l.length : Int) := by omega
        have hsn : (lohi 224 l l.length (k + 1)).1 = 64 * (lohi 224 l l.length k).1 ∧ (lohi 224 l l.length (k + 1)).2 = 64 * (lohi 224 l l.length k).2 + 63 := by rw [lohi, if_neg hkm]; exact ⟨rfl, rfl⟩
        have HS2 := Lib.hid (show ∀ i, 1 ≤ i → i < l.length → i ≤ k + 1 → 128 ≤ bat l i ∧ bat l i ≤ 191 from fun i h1 h2 h3 => hbs.out i h1 h2 (by omega))
        have HSN := Lib.hid hsn
        clear hsn hbs
        generalize (lohi 224 l l.length k).1 = lo at *
        generalize (lohi 224 l l.length k).2 = hi at *
        obtain ⟨x, hx⟩ : ∃ z : Int, z = 64 * lo := ⟨_, rfl⟩
        obtain ⟨y, hy⟩ : ∃ z : Int, z = 64 * hi := ⟨_, rfl⟩
        obtain ⟨y2, hy2⟩ : ∃ z : Int, z = y + 63 := ⟨_, rfl⟩
        have q1 : IntKind.i64.wrap (64 * lo) = x := by rw [← hx]; exact IntWalk.i64_in _ (by omega)
        have q2 : IntKind.i64.wrap (64 * hi) = y := by rw [← hy]; exact IntWalk.i64_in _ (by omega)
        have q3 : IntKind.i64.wrap (y + 63) = y2 := by rw [← hy2]; exact IntWalk.i64_in _ (by omega)
        have HQ := Lib.hid (show x = (lohi 224 l l.length (k + 1)).1 ∧ y2 = (lohi 224 l l.length (k + 1)).2 by
          rw [HSN.out.1, HSN.out.2, hy2, hx, hy]
          exact ⟨rfl, rfl⟩)
        clear hk hb1 hp hx hy hy2 HSN hlt hkm
        go_wp2_with fail
        go_roundw
        case rel => exact ⟨k + 1, by first | (congr 1; push_cast; omega) | go_num, by rw [HQ.out.1], by rw [HQ.out.2], HK.out.2, HB.out, HS2⟩
        case measure => have := HK.out; simp only [intOf]; omega
    · have hkn : k = 2 := by omega
      subst hkn
      have HE := HEND.out (fun i h1 h2 => hbs.out i h1 h2 (by omega))
      have hb1 := HBD.out 2 (fun i h1 h2 h3 => hbs.out i h1 h2 h3)
      clear hbs HBD HOUT HEND hk hlt hp
      generalize (lohi 224 l l.length 2).1 = lo at *
      generalize (lohi 224 l l.length 2).2 = hi at *
      obtain ⟨a, ha⟩ : ∃ z : Int, z = max lo 2048 := ⟨_, rfl⟩
      obtain ⟨b, hb⟩ : ∃ z : Int, z = min hi 1114111 := ⟨_, rfl⟩
      rw [← ha, ← hb] at HE
      have hmax : ∀ W : World, (Builtin.max_ #[3, 3] 3 #[.int .i64 lo, .int .i64 2048]).run Tryz.prog W = .ok (.int .i64 a) W := fun W => by rw [run_max_int2]; congr 2; omega
      have hmin : ∀ W : World, (Builtin.min_ #[3, 3] 3 #[.int .i64 hi, .int .i64 1114111]).run Tryz.prog W = .ok (.int .i64 b) W := fun W => by rw [run_min_int2]; congr 2; omega
      have HE2 := Lib.hid HE
      clear HE ha hb hb1
      by_cases h0 : a ≤ b
      · have d0 : decide (a ≤ b) = true := decide_eq_true h0
        by_cases h1 : a < 55296
        · have d1 : decide (a < 55296) = true := decide_eq_true h1
          have HR := Lib.hid (show res = true by rw [HE2.out]; simp; omega)
          clear HE2
          go_wp2_with fail
          go_ret
          exact ⟨by rw [HR.out]; first | done | rfl, HB.out.alloc (by have := HB.out.size; omega) _⟩
        · have d1 : decide (a < 55296) = false := decide_eq_false h1
          by_cases h2 : 57343 < b
          · have d2 : decide (57343 < b) = true := decide_eq_true h2
            have HR := Lib.hid (show res = true by rw [HE2.out]; simp; omega)
            clear HE2
            go_wp2_with fail
            go_ret
            exact ⟨by rw [HR.out]; first | done | rfl, HB.out.alloc (by have := HB.out.size; omega) _⟩
          · have d2 : decide (57343 < b) = false := decide_eq_false h2
            have HR := Lib.hid (show res = false by rw [HE2.out]; simp; omega)
            clear HE2
            go_wp2_with fail
            go_ret
            exact ⟨by rw [HR.out]; first | done | rfl, HB.out.alloc (by have := HB.out.size; omega) _⟩
      · have d0 : decide (a ≤ b) = false := decide_eq_false h0
        have HR := Lib.hid (show res = false by rw [HE2.out]; simp; omega)
        clear HE2
        go_wp2_with fail
        go_ret
        exact ⟨by rw [HR.out]; first | done | rfl, HB.out.alloc (by have := HB.out.size; omega) _⟩
set_option maxHeartbeats 8000000 in
set_option maxRecDepth 100000 in
theorem beg_4 (l : List UInt8) (h0 : 0 < l.length) (hl : l.length < 4) (hn : longB (bat l 0) = 4) (w : World) : Calls Tryz.prog 121 #[strV l] w fun o w' => o = .returned (.bool (begB l)) ∧ Below w.heap.size w w' := by
  have hs : (⟨l.toArray⟩ : ByteArray).size = l.length := by simp [ByteArray.size]
  have hps : 0 < (⟨l.toArray⟩ : ByteArray).size := by omega
  have hidx := bat_idx (l := l) (i := 0) h0 hps
  have hb : (l.getD 0 0).toNat = bat l 0 := rfl
  have HL : Hid (∀ W, Calls Tryz.prog 139 #[.int .u8 (l.getD 0 0).toNat] W fun o w' => o = .returned (.int .i64 4) ∧ w' = W) := Lib.hid (fun W => by have := long_any (l.getD 0 0) W; rw [hb, hn] at this; exact this)
  have hle : 0 ≤ (bat l 0 : Int) - 240 := by have := @head_le l; rw [hn] at this; exact this
  have HBD := Lib.hid (fun k => @lohi_bd2 l 240 l.length (by omega) hle k)
  have HV0 := Lib.hid (show (lohi 240 l l.length 0).1 = ((l.getD 0 0).toNat : Int) - 240 ∧ (lohi 240 l l.length 0).2 = ((l.getD 0 0).toNat : Int) - 240 from ⟨rfl, rfl⟩)
  obtain ⟨res, hres⟩ : ∃ r, r = begB l := ⟨_, rfl⟩
  rw [← hres]
  have HOUT := Lib.hid (fun i (h1 : 1 ≤ i) (h2 : i < l.length) (h3 : ¬ (128 ≤ bat l i ∧ bat l i ≤ 191)) => show res = false by rw [hres]; unfold begB; exact decide_eq_false (part_out h1 h2 h3))
  have HEND := Lib.hid (fun (hbb : ∀ i, 1 ≤ i → i < l.length → 128 ≤ bat l i ∧ bat l i ≤ 191) => show res = decide (max (lohi 240 l l.length 3).1 65536 ≤ min (lohi 240 l l.length 3).2 1114111 ∧ (max (lohi 240 l l.length 3).1 65536 < 55296 ∨ 57343 < min (lohi 240 l l.length 3).2 1114111)) by
    have := part_iff (l := l) (m := l.length) (by omega) (by omega) hbb (lo := max (lohi 240 l l.length 3).1 65536) (hi := min (lohi 240 l l.length 3).2 1114111) (by rw [hn]; rfl) (by rw [hn]; rfl)
    rw [hres]
    unfold begB
    exact decide_eq_decide.2 this.symm)
  have hc := (l.getD 0 0).toNat_lt
  have hcb : 240 ≤ ((l.getD 0 0).toNat : Int) := by rw [hb]; omega
  have hlz : ¬ (4 : Int) ≤ (l.length : Int) := by omega
  clear hn hb hle hres
  generalize l.getD 0 0 = c at *
  have hw0 : wrap64 (c.toNat : Int) = (c.toNat : Int) := IntWalk.wrap64_in _ (by omega)
  have hw1 : wrap64 ((c.toNat : Int) - 240) = (c.toNat : Int) - 240 := IntWalk.wrap64_in _ (by omega)
  unfold strV
  go_enter Tryz.func121, Tryz.ntmps121
  go_wp2_with fail
  refine (HL.out _).mono ?_
  rintro e w1 ⟨rfl, rfl⟩
  clear HL
  go_wp2_with fail
  go_region
  go_wp2_with fail
  go_quiet (fail)
  go_wp2_with fail
  go_loopw [4, 5, 7] (fun a b i wr => ∃ k : Nat, i = .int .i64 (((k + 1 : Nat) : Int)) ∧ a = .int .i64 (lohi 240 l l.length k).1 ∧ b = .int .i64 (lohi 240 l l.length k).2 ∧ k + 1 ≤ 4 ∧ Below w1.heap.size w1 wr ∧ Hid (∀ i, 1 ≤ i → i < l.length → i ≤ k → 128 ≤ bat l i ∧ bat l i ≤ 191)) (fun _ _ i _ => 4 - (intOf i).toNat)
  case atStart =>
    refine ⟨0, rfl, ?_, ?_, by omega, ?_, Lib.hid (fun i h1 _ h3 => by omega)⟩
    · first
        | (rw [HV0.out.1]; done)
        | (rw [HV0.out.1, hw0, hw1]; done)
        | (rw [HV0.out.1, hw1]; done)
    · first
        | (rw [HV0.out.2]; done)
        | (rw [HV0.out.2, hw0, hw1]; done)
        | (rw [HV0.out.2, hw1]; done)
    · first
        | exact below_drewN ((below_drew1 (Below.refl _ _)).alloc (by simp) _) _
        | exact below_drewN ((below_drewN (Below.refl _ _) _).alloc (by simp) _) _
        | exact below_drew1 ((below_drew1 (Below.refl _ _)).alloc (by simp) _)
  case round =>
    clear hw0 hw1 HV0 hcb hc
    obtain ⟨k, rfl, rfl, rfl, hk, hb, hbs⟩ := hrel
    have HB := Lib.hid hb
    clear hb
    have hb1 := HBD.out k hbs.out
    have hp : (64 : Int) ^ k ≤ 262144 := by
      have : k = 0 ∨ k = 1 ∨ k = 2 ∨ k = 3 := by omega
      rcases this with rfl | rfl | rfl | rfl <;> decide
    by_cases hlt : k + 1 < 4
    · have hltz : ((k : Int) + 1) < 4 := by omega
      have q6 : IntKind.i64.wrap ((k : Int) + 1 + 1) = (k : Int) + 1 + 1 := IntWalk.i64_in _ (by omega)
      have HK := Lib.hid (show ((((k + 1 : Nat) : Int)) + 1 = (((k + 1 + 1 : Nat) : Int))) ∧ k + 1 + 1 ≤ 4 by omega)
      by_cases hkm : k + 1 < l.length
      · have hkmz : ((k : Int) + 1) < (l.length : Int) := by omega
        have hks : k + 1 < (⟨l.toArray⟩ : ByteArray).size := by omega
        have hix := bat_idx (l := l) (i := k + 1) hkm hks
        have HO := HOUT.out (k + 1) (by omega) hkm
        have hsn : (lohi 240 l l.length (k + 1)).1 = 64 * (lohi 240 l l.length k).1 + ((l.getD (k + 1) 0).toNat : Int) - 128 ∧ (lohi 240 l l.length (k + 1)).2 = 64 * (lohi 240 l l.length k).2 + ((l.getD (k + 1) 0).toNat : Int) - 128 := by rw [lohi, if_pos hkm]; exact ⟨rfl, rfl⟩
        have hbt : bat l (k + 1) = (l.getD (k + 1) 0).toNat := rfl
        have hstep : (128 ≤ (l.getD (k + 1) 0).toNat ∧ (l.getD (k + 1) 0).toNat ≤ 191) → ∀ i, 1 ≤ i → i < l.length → i ≤ k + 1 → 128 ≤ bat l i ∧ bat l i ≤ 191 := fun hd i h1 h2 h3 => by
          by_cases he : i = k + 1
          · rw [he, hbt]; exact hd
          · exact hbs.out i h1 h2 (by omega)
        rw [hbt] at HO
        have hc2 := (l.getD (k + 1) 0).toNat_lt
        have HSN := Lib.hid hsn
        have HST := Lib.hid hstep
        clear hbt hsn hbs hstep
        generalize l.getD (k + 1) 0 = d at *
        generalize (lohi 240 l l.length k).1 = lo at *
        generalize (lohi 240 l l.length k).2 = hi at *
        by_cases h128 : d.toNat < 128
        · have z1 : (d.toNat : Int) < 128 := by omega
          have HR := Lib.hid (HO (by omega))
          clear HO hk hb1 hp hc2 h128
          go_wp2_with fail
          go_ret
          exact ⟨by rw [HR.out]; first | done | rfl, HB.out⟩
        have z1 : ¬ (d.toNat : Int) < 128 := by omega
        by_cases h191 : 191 < d.toNat
        · have z2 : 191 < (d.toNat : Int) := by omega
          have HR := Lib.hid (HO (by omega))
          clear HO hk hb1 hp hc2 h128 h191
          go_wp2_with fail
          go_ret
          exact ⟨by rw [HR.out]; first | done | rfl, HB.out⟩
        have z2 : ¬ 191 < (d.toNat : Int) := by omega
        have HS2 := Lib.hid (HST.out (by omega))
        obtain ⟨x, hx⟩ : ∃ z : Int, z = 64 * lo := ⟨_, rfl⟩
        obtain ⟨y, hy⟩ : ∃ z : Int, z = 64 * hi := ⟨_, rfl⟩
        have q1 : IntKind.i64.wrap (64 * lo) = x := by rw [← hx]; exact IntWalk.i64_in _ (by omega)
        have q2 : IntKind.i64.wrap (64 * hi) = y := by rw [← hy]; exact IntWalk.i64_in _ (by omega)
        have HQ := Lib.hid (show wrap64 (wrap64 (x + (d.toNat : Int)) - 128) = (lohi 240 l l.length (k + 1)).1 ∧ wrap64 (wrap64 (y + (d.toNat : Int)) - 128) = (lohi 240 l l.length (k + 1)).2 by
          rw [IntWalk.wrap64_in (x + _) (by omega), IntWalk.wrap64_in (y + _) (by omega), IntWalk.wrap64_in _ (by omega), IntWalk.wrap64_in _ (by omega), HSN.out.1, HSN.out.2, hx, hy]
          exact ⟨rfl, rfl⟩)
        clear HO hk hb1 hp hc2 h128 h191 hx hy HST HSN hlt
        go_wp2_with fail
        go_quiet (fail)
        go_wp2_with fail
        go_roundw
        case rel => exact ⟨k + 1, by first | (congr 1; push_cast; omega) | go_num, by rw [HQ.out.1], by rw [HQ.out.2], HK.out.2, below_drewN HB.out _, HS2⟩
        case measure => have := HK.out; simp only [intOf]; omega
      · have hkmz : ¬ ((k : Int) + 1) < (l.length : Int) := by omega
        have hsn : (lohi 240 l l.length (k + 1)).1 = 64 * (lohi 240 l l.length k).1 ∧ (lohi 240 l l.length (k + 1)).2 = 64 * (lohi 240 l l.length k).2 + 63 := by rw [lohi, if_neg hkm]; exact ⟨rfl, rfl⟩
        have HS2 := Lib.hid (show ∀ i, 1 ≤ i → i < l.length → i ≤ k + 1 → 128 ≤ bat l i ∧ bat l i ≤ 191 from fun i h1 h2 h3 => hbs.out i h1 h2 (by omega))
        have HSN := Lib.hid hsn
        clear hsn hbs
        generalize (lohi 240 l l.length k).1 = lo at *
        generalize (lohi 240 l l.length k).2 = hi at *
        obtain ⟨x, hx⟩ : ∃ z : Int, z = 64 * lo := ⟨_, rfl⟩
        obtain ⟨y, hy⟩ : ∃ z : Int, z = 64 * hi := ⟨_, rfl⟩
        obtain ⟨y2, hy2⟩ : ∃ z : Int, z = y + 63 := ⟨_, rfl⟩
        have q1 : IntKind.i64.wrap (64 * lo) = x := by rw [← hx]; exact IntWalk.i64_in _ (by omega)
        have q2 : IntKind.i64.wrap (64 * hi) = y := by rw [← hy]; exact IntWalk.i64_in _ (by omega)
        have q3 : IntKind.i64.wrap (y + 63) = y2 := by rw [← hy2]; exact IntWalk.i64_in _ (by omega)
        have HQ := Lib.hid (show x = (lohi 240 l l.length (k + 1)).1 ∧ y2 = (lohi 240 l l.length (k + 1)).2 by
          rw [HSN.out.1, HSN.out.2, hy2, hx, hy]
          exact ⟨rfl, rfl⟩)
        clear hk hb1 hp hx hy hy2 HSN hlt hkm
        go_wp2_with fail
        go_roundw
        case rel => exact ⟨k + 1, by first | (congr 1; push_cast; omega) | go_num, by rw [HQ.out.1], by rw [HQ.out.2], HK.out.2, HB.out, HS2⟩
        case measure => have := HK.out; simp only [intOf]; omega
    · have hkn : k = 3 := by omega
      subst hkn
      have HE := HEND.out (fun i h1 h2 => hbs.out i h1 h2 (by omega))
      have hb1 := HBD.out 3 (fun i h1 h2 h3 => hbs.out i h1 h2 h3)
      clear hbs HBD HOUT HEND hk hlt hp
      generalize (lohi 240 l l.length 3).1 = lo at *
      generalize (lohi 240 l l.length 3).2 = hi at *
      obtain ⟨a, ha⟩ : ∃ z : Int, z = max lo 65536 := ⟨_, rfl⟩
      obtain ⟨b, hb⟩ : ∃ z : Int, z = min hi 1114111 := ⟨_, rfl⟩
      rw [← ha, ← hb] at HE
      have hmax : ∀ W : World, (Builtin.max_ #[3, 3] 3 #[.int .i64 lo, .int .i64 65536]).run Tryz.prog W = .ok (.int .i64 a) W := fun W => by rw [run_max_int2]; congr 2; omega
      have hmin : ∀ W : World, (Builtin.min_ #[3, 3] 3 #[.int .i64 hi, .int .i64 1114111]).run Tryz.prog W = .ok (.int .i64 b) W := fun W => by rw [run_min_int2]; congr 2; omega
      have HE2 := Lib.hid HE
      clear HE ha hb hb1
      by_cases h0 : a ≤ b
      · have d0 : decide (a ≤ b) = true := decide_eq_true h0
        by_cases h1 : a < 55296
        · have d1 : decide (a < 55296) = true := decide_eq_true h1
          have HR := Lib.hid (show res = true by rw [HE2.out]; simp; omega)
          clear HE2
          go_wp2_with fail
          go_ret
          exact ⟨by rw [HR.out]; first | done | rfl, HB.out.alloc (by have := HB.out.size; omega) _⟩
        · have d1 : decide (a < 55296) = false := decide_eq_false h1
          by_cases h2 : 57343 < b
          · have d2 : decide (57343 < b) = true := decide_eq_true h2
            have HR := Lib.hid (show res = true by rw [HE2.out]; simp; omega)
            clear HE2
            go_wp2_with fail
            go_ret
            exact ⟨by rw [HR.out]; first | done | rfl, HB.out.alloc (by have := HB.out.size; omega) _⟩
          · have d2 : decide (57343 < b) = false := decide_eq_false h2
            have HR := Lib.hid (show res = false by rw [HE2.out]; simp; omega)
            clear HE2
            go_wp2_with fail
            go_ret
            exact ⟨by rw [HR.out]; first | done | rfl, HB.out.alloc (by have := HB.out.size; omega) _⟩
      · have d0 : decide (a ≤ b) = false := decide_eq_false h0
        have HR := Lib.hid (show res = false by rw [HE2.out]; simp; omega)
        clear HE2
        go_wp2_with fail
        go_ret
        exact ⟨by rw [HR.out]; first | done | rfl, HB.out.alloc (by have := HB.out.size; omega) _⟩
theorem rbegins_any (l : List UInt8) (h0 : 0 < l.length) (hl : l.length ≤ 1073741824) (w : World) : Calls Tryz.prog 121 #[strV l] w fun o w' => o = .returned (.bool (begB l)) ∧ Below w.heap.size w w' := by
  by_cases h : longB (bat l 0) ≤ l.length
  · exact beg_long l h0 hl h w
  · have h4 : longB (bat l 0) = 2 ∨ longB (bat l 0) = 3 ∨ longB (bat l 0) = 4 := by have := long_le (bat l 0); omega
    rcases h4 with e | e | e
    · exact beg_2 l h0 (by omega) e w
    · exact beg_3 l h0 (by omega) e w
    · exact beg_4 l h0 (by omega) e w
end
section
open Go.RowKit Go.Shelf
theorem wrong4_in {l : List UInt8} {i e : Int} (h : i < l.length) : wrong4 l i e = ([], 0, i, e) := by unfold wrong4; rw [if_neg (by omega)]
theorem wrong4_rw {l t : List UInt8} {c : UInt8} {q j : Nat} {i e : Int} (h : l.drop q = c :: t) (hq : q < l.length) (hi : i = ((q + j : Nat) : Int)) : rWrong (c :: t) q j e = wrong4 l i e := by
  have hlen := congrArg List.length h
  rw [List.length_drop] at hlen
  unfold rWrong wrong4
  rw [← hlen, hi]
  by_cases hc : l.length - q ≤ j
  · rw [if_pos hc, if_pos (by omega)]
    refine Prod.ext rfl (Prod.ext rfl (Prod.ext ?_ rfl))
    dsimp only; omega
  · rw [if_neg hc, if_neg (by omega)]
    refine Prod.ext rfl (Prod.ext rfl (Prod.ext ?_ rfl))
    dsimp only; omega
theorem rU_end (f : Nat) (o : List UInt8) (i : Int) : rU (f + 1) o i [] = ([], 0, i, 3) := rfl
theorem rU_34 (f : Nat) (o t : List UInt8) (i : Int) : rU (f + 1) o i (34 :: t) = (o, i + 1, 0, 0) := by rw [rU, if_pos rfl]
theorem rU_32 {f : Nat} {o t : List UInt8} {c : UInt8} {i : Int} (h0 : ¬ c = 34) (h1 : c.toNat < 32) : rU (f + 1) o i (c :: t) = ([], 0, i, 41) := by rw [rU, if_neg h0, if_pos h1]
theorem rU_92 (f : Nat) (o t : List UInt8) (i : Int) : rU (f + 1) o i (92 :: t) = (match rEsc t with
      | .error j => rWrong (92 :: t) i (j + 1) 41
      | .ok (b, n) => rU f (o ++ b) (i + 1 + n) (t.drop n)) := by rw [rU, if_neg (by decide), if_neg (by decide), if_pos rfl]; cases rEsc t <;> rfl
theorem rU_done {f : Nat} {o t : List UInt8} {c : UInt8} {i : Int} (h0 : ¬ c = 34) (h1 : ¬ c.toNat < 32) (h2 : ¬ c = 92) (hd : DoneU (c :: t).length (bat (c :: t) 0) (bat (c :: t) 1) (bat (c :: t) 2) (bat (c :: t) 3)) :
    rU (f + 1) o i (c :: t) = rU f (o ++ (c :: t).take (longB (bat (c :: t) 0))) (i + longB (bat (c :: t) 0)) ((c :: t).drop (longB (bat (c :: t) 0))) := by rw [rU, if_neg h0, if_neg h1, if_neg h2, if_pos hd]
theorem rU_bad {f : Nat} {o t : List UInt8} {c : UInt8} {i : Int} (h0 : ¬ c = 34) (h1 : ¬ c.toNat < 32) (h2 : ¬ c = 92) (hd : ¬ DoneU (c :: t).length (bat (c :: t) 0) (bat (c :: t) 1) (bat (c :: t) 2) (bat (c :: t) 3)) :
    rU (f + 1) o i (c :: t) = rWrong (c :: t) i (rK (c :: t) 4 0) 40 := by rw [rU, if_neg h0, if_neg h1, if_neg h2, if_neg hd]
theorem begB_take {l : List UInt8} {j : Nat} (h1 : 1 ≤ j) (hj : j ≤ l.length) : begB (l.take j) = decide (PartU j (bat l 0) (bat l 1) (bat l 2)) := by
  unfold begB
  exact decide_eq_decide.2 (part_take h1 hj)
theorem rK_yes {l : List UInt8} {k : Nat} (hk : k ≤ 3) (h1 : k < l.length) (h2 : PartU (k + 1) (bat l 0) (bat l 1) (bat l 2)) : k + 1 ≤ 3 ∧ rK l (4 - k) k = rK l (4 - (k + 1)) (k + 1) := by
  have hl := long_le (bat l 0)
  have h3 := h2.1
  refine ⟨by omega, ?_⟩
  obtain ⟨r, hr⟩ : ∃ r, 4 - k = r + 1 := ⟨3 - k, by omega⟩
  rw [hr, rK, if_pos ⟨h1, h2⟩, show 4 - (k + 1) = r by omega]
theorem rK_no {l : List UInt8} {k : Nat} (hk : k ≤ 3) (h : ¬ (k < l.length ∧ PartU (k + 1) (bat l 0) (bat l 1) (bat l 2))) : rK l (4 - k) k = k := by
  obtain ⟨r, hr⟩ : ∃ r, 4 - k = r + 1 := ⟨3 - k, by omega⟩
  rw [hr, rK, if_neg h]
set_option maxHeartbeats 16000000 in
set_option maxRecDepth 100000 in
theorem runq_any (l : List UInt8) (w : World) (hl : l.length ≤ 1073741824) : Calls Tryz.prog 97 #[strV l] w fun o w' => o = .returned (urV (rUnq l)) ∧ Below w.heap.size w w' := by
  have hs : (⟨l.toArray⟩ : ByteArray).size = l.length := by simp [ByteArray.size]
  obtain ⟨res, hres⟩ : ∃ r, r = urV (rUnq l) := ⟨_, rfl⟩
  rw [← hres]
  unfold strV
  by_cases hnil : l = []
  · subst hnil
    have hx : res = urV (wrong4 [] 0 41) := hres
    clear hres hs
    have hww := fun W => wrong4_any [] 0 41 W
    have e4 : wrong4 [] 0 41 = ([], 0, 0, 3) := rfl
    rw [e4] at hww hx
    unfold urV strV at hww hx
    have HW := Lib.hid hww
    have HR := Lib.hid hx
    clear hww hx e4
    go_enter Tryz.func97, Tryz.ntmps97
    go_wp2_with fail
    refine (HW.out _).mono ?_
    rintro e w9 ⟨rfl, rfl⟩
    go_wp2_with fail
    refine bodyPost_ret (v := .tuple #[.string ⟨#[]⟩, .int .i64 0, .int .i64 0, .int .i64 3]) (by simp [results, Tryz.results97, go_sem]) rfl ?_
    exact ⟨by rw [HR.out]; first | done | rfl, Below.refl _ _⟩
  have hpos : 0 < l.length := List.length_pos_iff.2 hnil
  have hne : (l == []) = false := by simpa using hnil
  have hps : 0 < (⟨l.toArray⟩ : ByteArray).size := by omega
  have hix := bat_idx (l := l) (i := 0) hpos hps
  have hd0 := drop_get hpos
  rw [List.drop_zero] at hd0
  generalize l.getD 0 0 = c0 at *
  by_cases h34 : c0 = 34
  case neg =>
    have n0 : ((c0.toNat : Int) == 34) = false := by
      simp only [beq_eq_false_iff_ne, ne_eq]
      intro e
      exact h34 (UInt8.toNat_inj.1 (show c0.toNat = 34 by omega))
    have n1 : ((c0.toNat : Int) != 34) = true := by simp only [bne, n0, Bool.not_false]
    have hr0 : res = urV (wrong4 l 0 41) := by
      rw [hres, wrong4_in (by omega), hd0]
      unfold rUnq
      dsimp only
      rw [if_pos h34]
    have hww := fun W => wrong4_any l 0 41 W
    generalize wrong4 l 0 41 = rr at hww hr0
    obtain ⟨r0, r1, r2, r3⟩ := rr
    unfold urV strV at hww hr0
    have HW := Lib.hid hww
    have HR := Lib.hid hr0
    clear hww hr0 hres hd0 h34
    go_enter Tryz.func97, Tryz.ntmps97
    go_wp2_with fail
    refine (HW.out _).mono ?_
    rintro e w9 ⟨rfl, rfl⟩
    go_wp2_with fail
    refine bodyPost_ret (v := .tuple #[.string ⟨r0.toArray⟩, .int .i64 r1, .int .i64 r2, .int .i64 r3]) (by simp [results, Tryz.results97, go_sem]) rfl ?_
    exact ⟨by rw [HR.out]; first | done | rfl, Below.refl _ _⟩
  subst h34
  have HR0 := Lib.hid (show urV (rU l.length [] ((1 : Nat) : Int) (l.drop 1)) = res by
    rw [hres]
    conv => rhs; rw [hd0]
    unfold rUnq
    dsimp only
    rw [if_neg (by decide)]
    have e : (l.drop (0 + 1)).length + 1 = l.length := by rw [List.length_drop]; omega
    rw [e]
    rfl)
  clear hres hd0
  go_enter Tryz.func97, Tryz.ntmps97
  go_wp2_with fail
  go_loopw [6, 7] (fun ov av wr => ∃ (o : List UInt8) (q f : Nat), ov = .string ⟨o.toArray⟩ ∧ av = .int .i64 q ∧ q ≤ l.length ∧ l.length < f + q ∧ o.length ≤ q ∧ Below w.heap.size w wr ∧ Hid (urV (rU f o q (l.drop q)) = res)) (fun _ av _ => l.length - (intOf av).toNat)
  case atStart => exact ⟨[], 1, l.length, rfl, rfl, by omega, by omega, by simp, Below.refl _ _, HR0⟩
  case round =>
    clear HR0
    obtain ⟨o, q, f, rfl, rfl, hq, hf, ho, hb, hm⟩ := hrel
    have HB := Lib.hid hb
    clear hb
    obtain ⟨f, rfl⟩ : ∃ g, f = g + 1 := ⟨f - 1, by omega⟩
    by_cases hlt : q < l.length
    case neg =>
      have hlz : ¬ (q : Int) < (l.length : Int) := by omega
      have hww := fun W => wrong4_any l q 3 W
      have hrr : res = urV (wrong4 l q 3) := by
        rw [← hm.out, List.drop_of_length_le (by omega), rU_end]
        unfold wrong4
        rw [if_pos (by omega), show q = l.length by omega]
      generalize wrong4 l q 3 = rr at hww hrr
      obtain ⟨r0, r1, r2, r3⟩ := rr
      unfold urV strV at hww hrr
      have HW := Lib.hid hww
      have HR := Lib.hid hrr
      clear hww hrr hm
      go_wp2_with fail
      refine (HW.out _).mono ?_
      rintro e w9 ⟨rfl, rfl⟩
      clear HW
      go_wp2_with fail
      refine bodyPost_ret (v := .tuple #[.string ⟨r0.toArray⟩, .int .i64 r1, .int .i64 r2, .int .i64 r3]) (by simp [results, Tryz.results97, go_sem]) rfl ?_
      exact ⟨by rw [HR.out]; first | done | rfl, HB.out⟩
    have hlz : (q : Int) < (l.length : Int) := by omega
    have hks : q < (⟨l.toArray⟩ : ByteArray).size := by omega
    have hix2 := bat_idx (l := l) (i := q) hlt hks
    have hdq := drop_get hlt
    have hm2 := hm.out
    generalize l.getD q 0 = c at *
    rw [hdq] at hm2
    have HM := Lib.hid hm2
    have HD := Lib.hid hdq
    clear hm hm2 hdq
    have qq : IntKind.i64.wrap ((q : Int) + 1) = (q : Int) + 1 := IntWalk.i64_in _ (by omega)
    by_cases h34 : c = 34
    case pos =>
      subst h34
      have HR := Lib.hid (show res = .tuple #[.string ⟨o.toArray⟩, .int .i64 ((q : Int) + 1), .int .i64 0, .int .i64 0] by rw [← HM.out, rU_34]; rfl)
      clear HM HD
      go_wp2_with fail
      refine bodyPost_ret (v := .tuple #[.string ⟨o.toArray⟩, .int .i64 ((q : Int) + 1), .int .i64 0, .int .i64 0]) (by simp [results, Tryz.results97, go_sem]) rfl ?_
      exact ⟨by rw [HR.out]; first | done | rfl, HB.out⟩
    have n34 : ((c.toNat : Int) == 34) = false := by
      simp only [beq_eq_false_iff_ne, ne_eq]
      intro e
      exact h34 (UInt8.toNat_inj.1 (show c.toNat = 34 by omega))
    by_cases h32 : c.toNat < 32
    case pos =>
      have z32 : (c.toNat : Int) < 32 := by omega
      have hww := fun W => wrong4_any l q 41 W
      have hrr : res = urV (wrong4 l q 41) := by
        rw [← HM.out, rU_32 h34 h32, wrong4_in (by omega)]
      generalize wrong4 l q 41 = rr at hww hrr
      obtain ⟨r0, r1, r2, r3⟩ := rr
      unfold urV strV at hww hrr
      have HW := Lib.hid hww
      have HR := Lib.hid hrr
      clear hww hrr HM HD h34 h32
      go_wp2_with fail
      refine (HW.out _).mono ?_
      rintro e w9 ⟨rfl, rfl⟩
      clear HW
      go_wp2_with fail
      refine bodyPost_ret (v := .tuple #[.string ⟨r0.toArray⟩, .int .i64 r1, .int .i64 r2, .int .i64 r3]) (by simp [results, Tryz.results97, go_sem]) rfl ?_
      exact ⟨by rw [HR.out]; first | done | rfl, HB.out⟩
    have z32 : ¬ (c.toNat : Int) < 32 := by omega
    by_cases h92 : c = 92
    case pos =>
      subst h92
      have hm2 := HM.out
      rw [rU_92] at hm2
      have hee := fun W => resc_any l q hl hlt W
      unfold strV at hee
      clear HM h34 h32
      cases hr : rEsc (l.drop (q + 1))
      case error jj =>
        rw [hr] at hm2 hee
        dsimp only at hm2
        obtain ⟨pz, hpz⟩ : ∃ z, z = q + 1 + jj := ⟨_, rfl⟩
        rw [escO, ← hpz] at hee
        have HE := Lib.hid hee
        have hww := fun W => wrong4_any l pz 41 W
        have hrr : res = urV (wrong4 l pz 41) := by
          rw [← hm2, wrong4_rw HD.out hlt (i := (pz : Int)) (by rw [hpz]; omega)]
        generalize wrong4 l pz 41 = rr at hww hrr
        obtain ⟨r0, r1, r2, r3⟩ := rr
        unfold urV strV at hww hrr
        have HW := Lib.hid hww
        have HR := Lib.hid hrr
        clear hww hrr hm2 hee hr HD hpz
        go_wp2_with fail
        refine (HE.out _).mono ?_
        rintro e w1 ⟨rfl, hb1⟩
        have HB2 := Lib.hid (HB.out.trans (hb1.mono HB.out.size))
        clear hb1 HE HB
        go_wp2_with fail
        refine (HW.out _).mono ?_
        rintro e w9 ⟨rfl, rfl⟩
        clear HW
        go_wp2_with fail
        refine bodyPost_ret (v := .tuple #[.string ⟨r0.toArray⟩, .int .i64 r1, .int .i64 r2, .int .i64 r3]) (by simp [results, Tryz.results97, go_sem]) rfl ?_
        exact ⟨by rw [HR.out]; first | done | rfl, HB2.out⟩
      case ok bn =>
        obtain ⟨b, n⟩ := bn
        obtain ⟨k1, k2, k3⟩ := rEsc_len hr
        rw [List.length_drop] at k2
        rw [hr] at hm2 hee
        dsimp only at hm2
        obtain ⟨pz, hpz⟩ : ∃ z, z = q + 1 + n := ⟨_, rfl⟩
        rw [escO, ← hpz] at hee
        have HE := Lib.hid hee
        rw [List.drop_drop, ← hpz, show (q : Int) + 1 + (n : Int) = (pz : Int) by rw [hpz]; push_cast; omega] at hm2
        have HM2 := Lib.hid hm2
        have hbl : (o ++ b).length ≤ pz := by rw [List.length_append]; omega
        have hsum : o.length + b.length ≤ 9223372036854775807 := by omega
        have hadd := str_app o b
        have HP := Lib.hid (show pz ≤ l.length ∧ l.length < f + pz ∧ q < pz by omega)
        have hadr := fun W => str_add o b hsum W
        clear hm2 hee hr HD hpz k1 k2 k3 hf hq
        go_wp2_with fail
        refine (HE.out _).mono ?_
        rintro e w1 ⟨rfl, hb1⟩
        have HB2 := Lib.hid (HB.out.trans (hb1.mono HB.out.size))
        clear hb1 HE HB
        go_wp2_with fail
        go_roundw
        case rel => exact ⟨o ++ b, pz, f, by first | rfl | rw [hadd], rfl, HP.out.1, HP.out.2.1, hbl, HB2.out, HM2⟩
        case measure => have := HP.out; simp only [intOf]; omega
    have n92 : ((c.toNat : Int) == 92) = false := by
      simp only [beq_eq_false_iff_ne, ne_eq]
      intro e
      exact h92 (UInt8.toNat_inj.1 (show c.toNat = 92 by omega))
    have hfr := fun W => sub_from l q hq W
    have hnn := fun W => rnext4_any (l.drop q) (by rw [List.length_drop]; omega) W
    unfold nextV strV at hnn
    by_cases hdn : DoneU (l.drop q).length (bat (l.drop q) 0) (bat (l.drop q) 1) (bat (l.drop q) 2) (bat (l.drop q) 3)
    case pos =>
      have hm2 := HM.out
      have hdn' := hdn
      rw [HD.out] at hdn'
      rw [rU_done h34 h32 h92 hdn', ← HD.out] at hm2
      rw [if_pos hdn] at hnn
      have hn1 := hdn.1
      have hn2 := hdn.2.1
      rw [List.length_drop] at hn2
      generalize vUp (headZ (longB (bat (l.drop q) 0))) (l.drop q) (longB (bat (l.drop q) 0) - 1) = vv at hnn
      generalize longB (bat (l.drop q) 0) = n at *
      obtain ⟨pz, hpz⟩ : ∃ z, z = q + n := ⟨_, rfl⟩
      have q3 : IntKind.i64.wrap ((q : Int) + (n : Int)) = (pz : Int) := by rw [IntWalk.i64_in _ (by omega)]; omega
      rw [List.drop_drop, ← hpz, show (q : Int) + (n : Int) = (pz : Int) by rw [hpz]; push_cast; omega] at hm2
      have hsb := fun W => subr_run l q pz (by omega) (by omega) W
      rw [show pz - q = n by omega] at hsb
      generalize hbb : (l.drop q).take n = b at *
      have hblen : b.length ≤ n := by rw [← hbb]; exact List.length_take_le _ _
      have HM2 := Lib.hid hm2
      have HN := Lib.hid hnn
      have hbl : (o ++ b).length ≤ pz := by rw [List.length_append]; omega
      have hsum : o.length + b.length ≤ 9223372036854775807 := by omega
      have hadd := str_app o b
      have hadr := fun W => str_add o b hsum W
      have HP := Lib.hid (show pz ≤ l.length ∧ l.length < f + pz ∧ q < pz by omega)
      clear hm2 hnn HM HD hpz hn1 hn2 hdn hdn' hbb hblen hf hq h34 h32 h92
      go_wp2_with fail
      refine (HN.out _).mono ?_
      rintro e w1 ⟨rfl, hb1⟩
      have HB2 := Lib.hid (HB.out.trans (hb1.mono HB.out.size))
      clear hb1 HN HB
      go_wp2_with fail
      go_roundw
      case rel => exact ⟨o ++ b, pz, f, by first | rfl | rw [hadd], rfl, HP.out.1, HP.out.2.1, hbl, HB2.out, HM2⟩
      case measure => have := HP.out; simp only [intOf]; omega
    have hm2 := HM.out
    have hdn' := hdn
    rw [HD.out] at hdn'
    rw [rU_bad h34 h32 h92 hdn', ← HD.out] at hm2
    rw [if_neg hdn] at hnn
    have HN := Lib.hid hnn
    have HM2 := Lib.hid hm2
    have HH := Lib.hid (And.intro h34 (And.intro h32 h92))
    clear hm2 hnn HM hdn hdn' h34 h32 h92
    go_wp2_with fail
    refine (HN.out _).mono ?_
    rintro e w1 ⟨rfl, hb1⟩
    have HB2 := Lib.hid (HB.out.trans (hb1.mono HB.out.size))
    clear hb1 HN HB
    go_wp2_with fail
    go_loopw [15] (fun kv wx => ∃ k : Nat, kv = .int .i64 k ∧ k ≤ 3 ∧ q + k ≤ l.length ∧ Below w.heap.size w wx ∧ Hid (rK (l.drop q) (4 - k) k = rK (l.drop q) 4 0)) (fun kv _ => 4 - (intOf kv).toNat)
    case atStart => exact ⟨0, rfl, by omega, by omega, HB2.out, Lib.hid rfl⟩
    case round =>
      clear HB2
      obtain ⟨k, rfl, hk, hqk, hb, hkk⟩ := hrel
      have HB := Lib.hid hb
      clear hb
      obtain ⟨pz, hpz⟩ : ∃ z, z = q + k := ⟨_, rfl⟩
      have q3 : IntKind.i64.wrap ((q : Int) + (k : Int)) = (pz : Int) := by rw [IntWalk.i64_in _ (by omega)]; omega
      obtain ⟨p1, hp1⟩ : ∃ z, z = pz + 1 := ⟨_, rfl⟩
      have q4 : IntKind.i64.wrap ((pz : Int) + 1) = (p1 : Int) := by rw [IntWalk.i64_in _ (by omega)]; omega
      have q5 : IntKind.i64.wrap ((k : Int) + 1) = (k : Int) + 1 := IntWalk.i64_in _ (by omega)
      by_cases hpl : pz < l.length
      case neg =>
        have z5 : decide ((pz : Int) < (l.length : Int)) = false := decide_eq_false (by omega)
        have hww := fun W => wrong4_any l pz 40 W
        have hrr : res = urV (wrong4 l pz 40) := by
          rw [← HM2.out, ← hkk.out, rK_no hk (by rw [List.length_drop]; omega), HD.out, wrong4_rw HD.out hlt (i := (pz : Int)) (by rw [hpz])]
        generalize wrong4 l pz 40 = rr at hww hrr
        obtain ⟨r0, r1, r2, r3⟩ := rr
        unfold urV strV at hww hrr
        have HW := Lib.hid hww
        have HR := Lib.hid hrr
        clear hww hrr hkk HM2 HD hpz hp1
        go_wp2_with fail
        refine (HW.out _).mono ?_
        rintro e w9 ⟨rfl, rfl⟩
        clear HW
        go_wp2_with fail
        refine bodyPost_ret (v := .tuple #[.string ⟨r0.toArray⟩, .int .i64 r1, .int .i64 r2, .int .i64 r3]) (by simp [results, Tryz.results97, go_sem]) rfl ?_
        exact ⟨by rw [HR.out]; first | done | rfl, HB.out⟩
      have z5 : decide ((pz : Int) < (l.length : Int)) = true := decide_eq_true (by omega)
      have hsb := fun W => subr_run l q p1 (by omega) (by omega) W
      rw [show p1 - q = k + 1 by omega] at hsb
      have hbg := fun W => rbegins_any ((l.drop q).take (k + 1)) (by rw [List.length_take, List.length_drop]; omega) (by rw [List.length_take]; omega) W
      rw [begB_take (by omega) (by rw [List.length_drop]; omega)] at hbg
      unfold strV at hbg
      generalize (l.drop q).take (k + 1) = b at *
      by_cases hpu : PartU (k + 1) (bat (l.drop q) 0) (bat (l.drop q) 1) (bat (l.drop q) 2)
      case pos =>
        obtain ⟨y1, y2⟩ := rK_yes hk (by rw [List.length_drop]; omega) hpu
        rw [decide_eq_true hpu] at hbg
        have HK2 := Lib.hid (show rK (l.drop q) (4 - (k + 1)) (k + 1) = rK (l.drop q) 4 0 by rw [← y2]; exact hkk.out)
        have HG := Lib.hid hbg
        have HP := Lib.hid (show k + 1 ≤ 3 ∧ q + (k + 1) ≤ l.length by omega)
        clear hkk hbg hpu y1 y2 hk hqk hp1 hpz
        go_wp2_with fail
        refine (HG.out _).mono ?_
        rintro e w2 ⟨rfl, hb2⟩
        have HB3 := Lib.hid (HB.out.trans (hb2.mono HB.out.size))
        clear hb2 HG HB
        go_wp2_with fail
        go_roundw
        case rel => exact ⟨k + 1, by go_num, HP.out.1, HP.out.2, HB3.out, HK2⟩
        case measure => have := HP.out; simp only [intOf]; omega
      rw [decide_eq_false hpu] at hbg
      have HG := Lib.hid hbg
      have hww := fun W => wrong4_any l pz 40 W
      have hrr : res = urV (wrong4 l pz 40) := by
        rw [← HM2.out, ← hkk.out, rK_no hk (fun h => hpu h.2), HD.out, wrong4_rw HD.out hlt (i := (pz : Int)) (by rw [hpz])]
      generalize wrong4 l pz 40 = rr at hww hrr
      obtain ⟨r0, r1, r2, r3⟩ := rr
      unfold urV strV at hww hrr
      have HW := Lib.hid hww
      have HR := Lib.hid hrr
      clear hww hrr hkk HM2 HD hpz hp1 hbg hpu hk hqk
      go_wp2_with fail
      refine (HG.out _).mono ?_
      rintro e w2 ⟨rfl, hb2⟩
      have HB3 := Lib.hid (HB.out.trans (hb2.mono HB.out.size))
      clear hb2 HG HB
      go_wp2_with fail
      refine (HW.out _).mono ?_
      rintro e w9 ⟨rfl, rfl⟩
      clear HW
      go_wp2_with fail
      refine bodyPost_ret (v := .tuple #[.string ⟨r0.toArray⟩, .int .i64 r1, .int .i64 r2, .int .i64 r3]) (by simp [results, Tryz.results97, go_sem]) rfl ?_
      exact ⟨by rw [HR.out]; first | done | rfl, HB3.out⟩
end
end Go.Proofs.YtccmhhmdenfecaaGreatDoor
