/- The walk of accordionlaw10.LexAlls. -/
import Derived.Test.YtgdhepoffnpgiaaGreatDoorNu
import Derived.Deep.RegionHeld3
namespace Go.Proofs.YtgdhepoffnpgiaaGreatDoor
set_option linter.unusedVariables false
set_option linter.unusedSimpArgs false
open Go.RowKit Go.Shelf
theorem flat_get6 : ∀ (l : List Tok) (j i : Nat), i < 6 → (l.flatMap tokC)[j * 6 + i]? = (l[j]?).bind fun t => (tokC t)[i]?
  | [], j, i, _ => by simp
  | t :: l, 0, i, h => by
    rw [List.flatMap_cons, Nat.zero_mul, Nat.zero_add, List.getElem?_append_left (by show i < 6; exact h)]
    rfl
  | t :: l, j + 1, i, h => by
    rw [List.flatMap_cons, List.getElem?_append_right (by show 6 ≤ _; omega)]
    have := flat_get6 l j i h
    rw [show (j + 1) * 6 + i - (tokC t).length = j * 6 + i by show _ - 6 = _; omega, this]
    rfl
/-- The cells of the j-th token of an own row. -/
theorem row_tok {B : Nat} {w : World} {T : TypeId} {A : Option Addr} {c : Nat} {l : List Tok} {j : Nat} {r0 r1 r2 r3 r4 : Int} {r5 : List UInt8} (hT : w.ownsRow B T 6 (.slice A l.length c) l.length (l.flatMap tokC)) (hj : l[j]? = some ⟨r0, r1, r2, r3, r4, r5⟩) :
    ∃ g, A = some ⟨g, 0, none⟩ ∧ l.length ≤ c ∧ c ≤ maxLen ∧ g < w.heap.size ∧ w.cell? ⟨g, j * 6, none⟩ = some (.int .i64 r0) ∧ w.cell? ⟨g, j * 6 + 1, none⟩ = some (.int .i64 r1) ∧ w.cell? ⟨g, j * 6 + 2, none⟩ = some (.int .i64 r2) ∧ w.cell? ⟨g, j * 6 + 3, none⟩ = some (.int .i64 r3) ∧ w.cell? ⟨g, j * 6 + 4, none⟩ = some (.int .u64 r4) ∧ w.cell? ⟨g, j * 6 + 5, none⟩ = some (.string ⟨r5.toArray⟩) := by
  have hlt : j < l.length := (List.getElem?_eq_some_iff.1 hj).1
  obtain ⟨g, cap, hAe, hcap, hcur⟩ : ∃ g cap, (Value.slice A l.length c) = .slice (some ⟨g, 0, none⟩) l.length cap ∧ (l.length ≤ cap ∧ cap ≤ maxLen) ∧ g < w.heap.size := by
    rcases hT.2 with ⟨-, h⟩ | ⟨g, cap, cur, h, -, h0, h1, h2, -⟩
    · omega
    · exact ⟨g, cap, h, ⟨h1, h2⟩, row_lt h0⟩
  obtain ⟨rfl, -, rfl⟩ := Value.slice.inj hAe
  have hat : ∀ i, i < 6 → w.cell? ⟨g, j * 6 + i, none⟩ = (tokC ⟨r0, r1, r2, r3, r4, r5⟩)[i]? := fun i hi => by
    rw [World.ownsRow.cellAt hT (j * 6 + i) (by omega), flat_get6 _ _ _ hi, hj]
    rfl
  exact ⟨g, rfl, hcap.1, hcap.2, hcur, hat 0 (by decide), hat 1 (by decide), hat 2 (by decide), hat 3 (by decide), hat 4 (by decide), hat 5 (by decide)⟩
set_option maxHeartbeats 8000000 in
set_option maxRecDepth 100000 in
theorem alls_any (s : List UInt8) (w : World) (hG : Glb w) (hB : Gb w.heap.size) : Calls Tryz.prog 5 #[strV s] w fun e w' => e = .returned (.bool true) ∧ Below w.heap.size w w' := by
  have HS1 := fun W => short_any s 600 (by omega) W
  have hx : (s.take 600).length ≤ 600 := List.length_take_le _ _
  have H0 := Lib.hid (WG.refl hG hB)
  clear hG hB
  generalize s.take 600 = x at *
  have HA := fun (W : World) (h : WG w W) => all_any x W h.g h.gw (by omega)
  have HR := fun (W : World) => rall_any x W (by omega)
  generalize allM x = r at *
  obtain ⟨toks, n, er⟩ := r
  unfold strV at *
  have hen : (n != n) = false := by simp
  have hee : (er != er) = false := by simp
  have HS := Lib.hid HS1
  have HA2 := Lib.hid HA
  have HR2 := Lib.hid HR
  have HM := Lib.hid (fun r0 r1 r2 r3 r4 r5 W => same_any r0 r1 r2 r3 r4 r5 W)
  clear HS1 HA HR hx
  go_enter Tryz.func5, Tryz.ntmps5
  go_wp2_with fail
  refine (HS.out _).mono ?_
  rintro e w9 ⟨rfl, rfl⟩
  go_wp2_with fail
  refine (HA2.out _ H0.out).mono ?_
  rintro e w1 ⟨v, rfl, hT, hb⟩
  obtain ⟨A, c, rfl⟩ := owns_ptr hT
  have H1 := Lib.hid (And.intro (H0.out.next hb) hT)
  clear hT hb
  dsimp only
  go_wp2_with fail
  refine (HR2.out _).mono ?_
  rintro e w2 ⟨v, rfl, hT2, hb2⟩
  obtain ⟨A2, c2, rfl⟩ := owns_ptr hT2
  have H2 := Lib.hid (And.intro (H1.out.1.next hb2) (And.intro (H1.out.2.keep hb2) hT2))
  clear hT2 hb2 H1 HA2 HR2
  dsimp only
  have hll : ((toks.length : Int) != (toks.length : Int)) = false := by simp
  go_wp2_with fail
  go_loopw [9] (fun i wr => ∃ j : Nat, i = .int .i64 j ∧ j ≤ toks.length ∧ WG w9 wr ∧ TRow w9.heap.size wr (.slice A toks.length c) toks ∧ RTRow w1.heap.size wr (.slice A2 toks.length c2) toks) (fun i _ => toks.length - (intOf i).toNat)
  case atStart => exact ⟨0, rfl, Nat.zero_le _, H2.out.1, H2.out.2.1, H2.out.2.2⟩
  case round =>
    clear H2
    obtain ⟨j, rfl, hj, hw, hT, hT2⟩ := hrel
    by_cases hlt : j < toks.length
    · have hltz : (j : Int) < (toks.length : Int) := by omega
      have hget : toks[j]? = some toks[j] := List.getElem?_eq_getElem hlt
      generalize toks[j] = tt at *
      obtain ⟨r0, r1, r2, r3, r4, r5⟩ := tt
      obtain ⟨g, rfl, hc1, hc2, hgz, k0, k1, k2, k3, k4, k5⟩ := row_tok hT hget
      obtain ⟨g2, rfl, hd1, hd2, hgz2, m0, m1, m2, m3, m4, m5⟩ := row_tok hT2 hget
      have q1 : IntKind.i64.wrap ((j : Int) + 1) = j + 1 := IntWalk.i64_in _ (by have h := hc2; unfold maxLen at h; omega)
      have HSM := Lib.hid (HM.out r0 r1 r2 r3 r4 r5)
      have HW := Lib.hid (And.intro hw (And.intro hT hT2))
      clear hget hw hT hT2
      go_upto_region 9 with fail
      go_region_held3 (fun w' => w'.cell? ⟨g, j * 6, none⟩ = some (.int .i64 r0) ∧ w'.cell? ⟨g, j * 6 + 1, none⟩ = some (.int .i64 r1) ∧ w'.cell? ⟨g, j * 6 + 2, none⟩ = some (.int .i64 r2) ∧ w'.cell? ⟨g, j * 6 + 3, none⟩ = some (.int .i64 r3) ∧ w'.cell? ⟨g, j * 6 + 4, none⟩ = some (.int .u64 r4) ∧ w'.cell? ⟨g, j * 6 + 5, none⟩ = some (.string ⟨r5.toArray⟩) ∧ w'.cell? ⟨g2, j * 6, none⟩ = some (.int .i64 r0) ∧ w'.cell? ⟨g2, j * 6 + 1, none⟩ = some (.int .i64 r1) ∧ w'.cell? ⟨g2, j * 6 + 2, none⟩ = some (.int .i64 r2) ∧ w'.cell? ⟨g2, j * 6 + 3, none⟩ = some (.int .i64 r3) ∧ w'.cell? ⟨g2, j * 6 + 4, none⟩ = some (.int .u64 r4) ∧ w'.cell? ⟨g2, j * 6 + 5, none⟩ = some (.string ⟨r5.toArray⟩)) (first | (with_reducible exact ⟨k0, k1, k2, k3, k4, k5, m0, m1, m2, m3, m4, m5⟩) | exact HC1.out | (refine ⟨?_, ?_, ?_, ?_, ?_, ?_, ?_, ?_, ?_, ?_, ?_, ?_⟩ <;> go_keep)) ((go_at_call 13; refine (HSM.out _).mono ?_; rintro e w3 ⟨rfl, hb3⟩; have hb4 : Below wr.heap.size wr w3 := (by first | exact hb3 | exact (below_drew1 (Below.refl _ _)).trans hb3 | exact (below_drewN (Below.refl _ _) _).trans hb3); have HB4 := Lib.hid hb4; have HC1 := Lib.hid (show w3.cell? ⟨g, j * 6, none⟩ = some (.int .i64 r0) ∧ w3.cell? ⟨g, j * 6 + 1, none⟩ = some (.int .i64 r1) ∧ w3.cell? ⟨g, j * 6 + 2, none⟩ = some (.int .i64 r2) ∧ w3.cell? ⟨g, j * 6 + 3, none⟩ = some (.int .i64 r3) ∧ w3.cell? ⟨g, j * 6 + 4, none⟩ = some (.int .u64 r4) ∧ w3.cell? ⟨g, j * 6 + 5, none⟩ = some (.string ⟨r5.toArray⟩) ∧ w3.cell? ⟨g2, j * 6, none⟩ = some (.int .i64 r0) ∧ w3.cell? ⟨g2, j * 6 + 1, none⟩ = some (.int .i64 r1) ∧ w3.cell? ⟨g2, j * 6 + 2, none⟩ = some (.int .i64 r2) ∧ w3.cell? ⟨g2, j * 6 + 3, none⟩ = some (.int .i64 r3) ∧ w3.cell? ⟨g2, j * 6 + 4, none⟩ = some (.int .u64 r4) ∧ w3.cell? ⟨g2, j * 6 + 5, none⟩ = some (.string ⟨r5.toArray⟩) from ⟨(hb4.cell (p := ⟨g, j * 6, none⟩) hgz).trans k0, (hb4.cell (p := ⟨g, j * 6 + 1, none⟩) hgz).trans k1, (hb4.cell (p := ⟨g, j * 6 + 2, none⟩) hgz).trans k2, (hb4.cell (p := ⟨g, j * 6 + 3, none⟩) hgz).trans k3, (hb4.cell (p := ⟨g, j * 6 + 4, none⟩) hgz).trans k4, (hb4.cell (p := ⟨g, j * 6 + 5, none⟩) hgz).trans k5, (hb4.cell (p := ⟨g2, j * 6, none⟩) hgz2).trans m0, (hb4.cell (p := ⟨g2, j * 6 + 1, none⟩) hgz2).trans m1, (hb4.cell (p := ⟨g2, j * 6 + 2, none⟩) hgz2).trans m2, (hb4.cell (p := ⟨g2, j * 6 + 3, none⟩) hgz2).trans m3, (hb4.cell (p := ⟨g2, j * 6 + 4, none⟩) hgz2).trans m4, (hb4.cell (p := ⟨g2, j * 6 + 5, none⟩) hgz2).trans m5⟩)))
      go_wp2_with fail
      go_roundw
      case rel => exact ⟨j + 1, by go_num, by omega, HW.out.1.next HB4.out, HW.out.2.1.keep HB4.out, HW.out.2.2.keep HB4.out⟩
      case measure => simp only [intOf]; omega
    · have hltz : ¬ (j : Int) < (toks.length : Int) := by omega
      have HW := Lib.hid hw
      clear hw hT hT2
      go_wp2_with fail
      refine (works_any _ _ HW.out).mono ?_
      rintro e w4 ⟨rfl, hw4⟩
      have HW4 := Lib.hid hw4
      clear hw4
      go_wp2_with fail
      go_ret
      exact ⟨rfl, HW4.out.b⟩
end Go.Proofs.YtgdhepoffnpgiaaGreatDoor
