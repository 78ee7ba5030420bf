/- The walk of SpoilNode: it writes only into the blocks of its tree. -/
import Derived.Deep.RegionHeld3
import Derived.BigQuiet
import Derived.Test.YtccmhhmdenfecaaGreatDoorT0
namespace Go.Proofs.YtccmhhmdenfecaaGreatDoor
set_option linter.unusedVariables false
set_option linter.unusedSimpArgs false
section
open Go.RowKit
/-- SpoilNode writes only into the blocks of its tree. -/
def SpC (T : DT) : Prop := ∀ (w : World) (x0 x1 x2 x3 x4 x5 : Value) (bs : List Nat), NRep w T [x0, x1, x2, x3, x4, x5] bs → bs.Nodup →
  Calls Tryz.prog 14 #[.agg #[x0, x1, x2, x3, x4, x5]] w fun e w' => e = .returned (.tuple #[]) ∧ Touch bs w w'
end
section
open Go.RowKit
set_option maxHeartbeats 4000000 in
theorem spoil_step (kd nn u : Int) (s : List UInt8) (ks : List (List UInt8)) (l : List DT) (ih : ∀ t ∈ l, SpC t) : SpC (.mk kd nn u s ks l) := by
  intro w x0 x1 x2 x3 x4 x5 bs hx hnd
  have hlt := hx.bd _ _ _
  rw [NRep] at hx
  obtain ⟨kv, lv, xs, bl, hx1, hx2, hx3, hx4, hbs⟩ := hx
  simp only [nodeC, List.cons.injEq, and_true] at hx1
  obtain ⟨rfl, rfl, rfl, rfl, rfl, rfl⟩ := hx1
  obtain ⟨A1, c1, rfl, -⟩ := slice_form hx2
  obtain ⟨A2, c2, rfl, -⟩ := slice_form hx3
  unfold strV
  have HI := Lib.hid ih
  clear ih
  have hXb : w.heap.size ∉ bs := fun h => Nat.lt_irrefl _ (hlt _ h)
  have HS : Hid (∀ wn wr : World, Below w.heap.size w wn → Touch (blkL (.slice A1 ks.length c1)) wn wr → SpI wn wr l A2 c2 bs 0) := Lib.hid (by
    intro wn wr hb ht
    rw [hbs] at hnd
    rw [List.nodup_append, List.nodup_append] at hnd
    obtain ⟨-, ⟨h2, h3, h4⟩, h5⟩ := hnd
    have hsame : ∀ i ∈ blkL (.slice A2 l.length c2) ++ bl, wr.heap[i]? = w.heap[i]? := by
      intro i hi
      have hiw := hlt i (by rw [hbs]; simp only [List.mem_append] at hi ⊢; exact .inr hi)
      exact (ht.block i (Nat.lt_of_lt_of_le hiw hb.size) (fun h => h5 i h i hi rfl)).trans (hb.block i hiw)
    refine ⟨ht.mono fun i hi => by rw [hbs]; simp [hi], ⟨[], xs, bl, own_same2 hx3 fun i hi => hsame i (by simp [hi]), by simp, hx4.same _ _ _ fun i hi => hsame i (by simp [hi]), h3, fun i hi hb => h4 i hi i hb rfl, fun i hi => by rw [hbs]; simp [hi]⟩, fun i hi => by rw [hbs]; simp [hi]⟩)
  have HK := Lib.hid hx2
  have hkb : ∀ i ∈ blkL (.slice A1 ks.length c1), i < w.heap.size := fun i hi => hlt i (by rw [hbs]; simp [hi])
  have hbdq := row_bound hx2
  have hbdm := row_bound hx3
  clear hx2 hx3 hx4 hlt hbs hnd
  obtain ⟨q, hq⟩ : ∃ q, q = ks.length := ⟨_, rfl⟩
  rw [← hq] at HS HK hkb hbdq ⊢
  obtain ⟨m, hm⟩ : ∃ m, m = l.length := ⟨_, rfl⟩
  rw [← hm] at hbdm ⊢
  have HM := Lib.hid hm
  clear hq hm
  go_enter Tryz.func14, Tryz.ntmps14
  go_upto_region 1 with fail
  refine wp_named (fun wn => Below w.heap.size w wn ∧ w.heap.size < wn.heap.size ∧ wn.cell? ⟨w.heap.size, 4, none⟩ = some (.slice A1 q c1) ∧ wn.cell? ⟨w.heap.size, 5, none⟩ = some (.slice A2 m c2)) ⟨by exact zw, by simp, by go_simp, by go_simp⟩ ?_
  rintro wn ⟨hb, hX, z4, z5⟩
  go_wp2_with fail
  go_loopw [2] (fun i wr => ∃ k : Nat, k ≤ q ∧ i = .int .i64 k ∧ Touch (blkL (.slice A1 q c1)) wn wr ∧ ∃ ys, wr.ownsRow 0 9 1 (.slice A1 q c1) q ys) (fun i _ => q - (intOf i).toNat)
  case atStart => exact ⟨0, by omega, rfl, Touch.refl _ _, _, own_below HK.out hb⟩
  case round =>
    rename_i wr
    obtain ⟨k, hk, rfl, htr, ys, hown⟩ := hrel
    have hXk : w.heap.size ∉ blkL (.slice A1 q c1) := fun h => Nat.lt_irrefl _ (hkb _ h)
    have y4 := (touch_cell2 htr hX hXk 4).trans z4
    have y5 := (touch_cell2 htr hX hXk 5).trans z5
    by_cases h1 : k < q
    · have h1' : (k : Int) < (q : Int) := by omega
      obtain ⟨g, rfl, hgm, -, hg⟩ := row_block hown (by omega)
      have hcell := hown.cellAt k (by omega)
      have hfz := hown.frozenAt k
      obtain ⟨y, hy⟩ : ∃ y, ys[k]? = some y := ⟨_, List.getElem?_eq_getElem (by have := hown.1; omega)⟩
      rw [hy] at hcell
      have HO := Lib.hid (hown.stored k (.string ⟨#[115, 112, 111, 105, 108, 116]⟩)).1
      have e0 : (0 : Nat) + k * 1 = k := by omega
      have hXg : w.heap.size ≠ g := fun h => hXk (h ▸ hgm)
      clear hown hy
      go_wp2_with fail
      go_roundw
      case rel => exact ⟨k + 1, by omega, by go_num, htr.trans ((Touch.setCell _ _ _ _).mono fun j hj => by simp at hj; subst hj; exact hgm), _, HO.out⟩
      case measure => simp only [intOf]; omega
    · have h1' : ¬ (k : Int) < (q : Int) := by omega
      have hS := HS.out wn wr hb htr
      have hXw : w.heap.size < wr.heap.size := Nat.lt_of_lt_of_le hX htr.size
      clear hown
      go_wp2_with fail
      obtain ⟨wa, rfl⟩ : ∃ x, x = wr := ⟨_, rfl⟩
      go_loopw [3] (fun i wr => ∃ k : Nat, k ≤ m ∧ i = .int .i64 k ∧ SpI wn wr l A2 c2 bs k) (fun i _ => m - (intOf i).toNat)
      case atStart => exact ⟨0, by omega, rfl, hS⟩
      case round =>
        clear hS htr y4 y5 hXw
        obtain ⟨j, hj, rfl, hsp⟩ := hrel
        have hsz := hsp.touch.size
        have x5 := (touch_cell2 hsp.touch hX hXb 5).trans z5
        by_cases h2 : j < m
        · have h2' : (j : Int) < (m : Int) := by omega
          have hjl : j < l.length := by rw [← HM.out]; exact h2
          obtain ⟨g, rfl, hg, hfz, v0, v1, v2, v3, v4, v5, b, hN, hnd, hbb, hgb, c0, cc1, cc2, cc3, cc4, cc5, hnext⟩ := hsp.next hjl
          have e0 : (0 : Nat) + j * 6 = j * 6 := by omega
          have HN := Lib.hid (HI.out _ (List.getElem_mem hjl) wr _ _ _ _ _ _ _ hN hnd)
          have HX := Lib.hid hnext
          have hXB : w.heap.size ∉ b := fun h => hXb (hbb _ h)
          clear hN hnext hsp hnd
          go_upto_region 9 with (go_at_call 14; refine HN.out.mono ?_; rintro e w1 ⟨rfl, ht1⟩)
          have hXr : w.heap.size < wr.heap.size := Nat.lt_of_lt_of_le hX hsz
          have u5 := (touch_cell2 ht1 hXr hXB 5).trans x5
          have d0 := (touch_cell2 ht1 hg hgb (j * 6)).trans c0
          have d1 := (touch_cell2 ht1 hg hgb (j * 6 + 1)).trans cc1
          have d2 := (touch_cell2 ht1 hg hgb (j * 6 + 2)).trans cc2
          have d3 := (touch_cell2 ht1 hg hgb (j * 6 + 3)).trans cc3
          have d4 := (touch_cell2 ht1 hg hgb (j * 6 + 4)).trans cc4
          have d5 := (touch_cell2 ht1 hg hgb (j * 6 + 5)).trans cc5
          have hfz1 : ∀ o, w1.frozen? ⟨g, o, none⟩ = false := fun o => (World.frozen?_of_block (a := ⟨g, o, none⟩) (ht1.block g hg hgb)).trans (hfz o)
          have HZ := Lib.hid (HX.out w1 ht1)
          clear hfz c0 cc1 cc2 cc3 cc4 cc5 x5 hXB hgb hXr HX HN ht1
          go_wp2_with fail
          go_roundw
          case rel => exact ⟨j + 1, by omega, by go_num, HZ.out _ _ _ _ _ _⟩
          case measure => simp only [intOf]; omega
        · have h2' : ¬ (j : Int) < (m : Int) := by omega
          go_wp2_with fail
          go_returns
          exact ⟨rfl, (Touch.quiet hb).trans hsp.touch⟩
theorem spoil_any (T : DT) : SpC T := DT.byKids spoil_step T
end
end Go.Proofs.YtccmhhmdenfecaaGreatDoor
