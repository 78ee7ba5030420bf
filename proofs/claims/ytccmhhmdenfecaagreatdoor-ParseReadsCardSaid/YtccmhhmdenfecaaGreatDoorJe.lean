/- EqNode says yes to two trees that read alike. -/
import Derived.Test.YtccmhhmdenfecaaGreatDoorEa
import Derived.Deep.RegionHeld3
import Derived.BigQuiet
import Derived.Deep.Onto
namespace Go.Proofs.YtccmhhmdenfecaaGreatDoor
set_option linter.unusedVariables false
set_option linter.unusedSimpArgs false
section
open Go.RowKit
set_option maxHeartbeats 2000000 in
theorem eqtextsR_true (ss : List (List UInt8)) (A A' : Option Addr) (c c' : Nat) (w0 w : World) (hb0 : Below w0.heap.size w0 w) (hu : Rd w0 (.slice A ss.length c) 1 ss.length (ss.map strV)) (hv : Rd w0 (.slice A' ss.length c') 1 ss.length (ss.map strV)) :
    Calls Tryz.prog 32 #[.slice A ss.length c, .slice A' ss.length c'] w fun e w' => e = .returned (.bool true) ∧ Below w.heap.size w w' := by
  have hu2 := hu.below hb0
  have hv2 := hv.below hb0
  have HU := Lib.hid hu2
  have HV := Lib.hid hv2
  have hbd := hu.bound
  clear hu hv hu2 hv2 hb0
  obtain ⟨n, hn⟩ : ∃ n, n = ss.length := ⟨_, rfl⟩
  rw [← hn] at hbd ⊢
  have HN := Lib.hid hn
  clear hn
  go_enter Tryz.func32, Tryz.ntmps32
  go_wp2
  go_loopw [5] (fun i wr => ∃ k : Nat, k ≤ n ∧ i = .int .i64 k ∧ Below w.heap.size w wr) (fun i _ => n - (intOf i).toNat)
  case atStart => exact ⟨0, by omega, rfl, Below.refl _ _⟩
  case round =>
    rename_i wr
    obtain ⟨k, hk, rfl, hb⟩ := hrel
    by_cases h1 : k < n
    · have h1' : (k : Int) < (n : Int) := by omega
      have hkn : k < ss.length := by rw [← HN.out]; exact h1
      have hU : Rd w (.slice A n c) 1 ss.length (ss.map strV) := by
        have := HU.out
        have e := HN.out
        rw [← e] at this ⊢
        exact this
      have hV : Rd w (.slice A' n c') 1 ss.length (ss.map strV) := by
        have := HV.out
        have e := HN.out
        rw [← e] at this ⊢
        exact this
      obtain ⟨b1, o1, rfl, hlt1, hlt1', e1⟩ := hU.text hb k hkn
      obtain ⟨b2, o2, rfl, hlt2, hlt2', e2⟩ := hV.text hb k hkn
      generalize ss[k] = s at e1 e2
      have HB := Lib.hid hb
      clear hkn hU hV hb
      go_wp2
      go_region
      all_goals go_wp2
      all_goals go_roundw
      case rel => exact ⟨k + 1, by omega, by go_num, by have := HB.out; exact zw⟩
      case measure => simp only [intOf]; omega
    · have h1' : ¬ (k : Int) < (n : Int) := by omega
      go_wp2
      go_returns
      exact ⟨rfl, hb⟩
/-- EqNode says yes to two trees that read alike. -/
def EqR (T : DT) : Prop := ∀ (w0 w : World) (x0 x1 x2 x3 x4 x5 y0 y1 y2 y3 y4 y5 : Value), Below w0.heap.size w0 w → RRep w0 T [x0, x1, x2, x3, x4, x5] → RRep w0 T [y0, y1, y2, y3, y4, y5] →
  Calls Tryz.prog 13 #[.agg #[x0, x1, x2, x3, x4, x5], .agg #[y0, y1, y2, y3, y4, y5]] w fun e w' => e = .returned (.bool true) ∧ Below w.heap.size w w'
set_option maxRecDepth 100000 in
set_option maxHeartbeats 8000000 in
theorem eqR_step (kd nn u : Int) (s : List UInt8) (ks : List (List UInt8)) (l : List DT) (ih : ∀ t ∈ l, EqR t) : EqR (.mk kd nn u s ks l) := by
  intro w0 w x0 x1 x2 x3 x4 x5 y0 y1 y2 y3 y4 y5 hb0 hx hy
  obtain ⟨A1, c1, A2, c2, xs, hx1, hx2, hx3, hx4⟩ := hx.form
  obtain ⟨B1, d1, B2, d2, ys, hy1, hy2, hy3, hy4⟩ := hy.form
  simp only [List.cons.injEq, and_true] at hx1 hy1
  obtain ⟨rfl, rfl, rfl, rfl, rfl, rfl⟩ := hx1
  obtain ⟨rfl, rfl, rfl, rfl, rfl, rfl⟩ := hy1
  have HT := Lib.hid (fun (W : World) (hW : Below w.heap.size w W) => eqtextsR_true ks _ _ _ _ w0 W (hb0.trans (hW.mono hb0.size)) hx2 hy2)
  have HX := Lib.hid (And.intro hx3 hx4)
  have HY := Lib.hid (And.intro hy3 hy4)
  have HI := Lib.hid ih
  have HB0 := Lib.hid hb0
  have hbd := hx3.bound
  clear hx hy hx2 hx3 hx4 hy2 hy3 hy4 ih hb0
  unfold strV
  obtain ⟨m, hm⟩ : ∃ m, m = l.length := ⟨_, rfl⟩
  rw [← hm] at hbd ⊢
  have HM := Lib.hid hm
  clear hm
  generalize hq : ks.length = q
  rw [hq] at HT
  clear hq
  go_enter Tryz.func13, Tryz.ntmps13
  go_upto_region 3 with (go_at_call 32; refine (HT.out _ zw).mono ?_; rintro e w1 ⟨rfl, hb1⟩; obtain ⟨hc1, hf1, hl1⟩ := bcell hb1; (try simp only [zdz] at hc1 hf1 hl1); have hz1 := hb1.size; (try simp only [zsz] at hz1); (try have g0 : w.heap.size < w1.heap.size := by omega); (try have g1 : w.heap.size + 1 < w1.heap.size := by omega); (try have g2 : w.heap.size + 2 < w1.heap.size := by omega); (try have gb : b < w1.heap.size := by omega); (try have g3 : w.heap.size + 3 < w1.heap.size := by omega); (try have hbb : Below w.heap.size w w1 := zw); (try obtain ⟨hco, hfo, _⟩ := bcell hbb); (try have hb1 := hb1))
  refine wp_named (fun wn => Below w.heap.size w wn ∧ w.heap.size + 1 < wn.heap.size ∧ wn.cell? ⟨w.heap.size, 5, none⟩ = some (.slice A2 m c2) ∧ wn.cell? ⟨w.heap.size + 1, 5, none⟩ = some (.slice B2 m d2)) ⟨by exact zw, by omega, by go_simp, by go_simp⟩ ?_
  clear hb1 hc1 hf1 hl1 hz1 g0 g1 hbb hco hfo
  rintro wn ⟨hb, hX, z0, z1⟩
  go_wp2_with fail
  go_loopw [5] (fun i wr => ∃ k : Nat, k ≤ m ∧ i = .int .i64 k ∧ Below w.heap.size w wr ∧ Below wn.heap.size wn wr) (fun i _ => m - (intOf i).toNat)
  case atStart => exact ⟨0, by omega, rfl, hb, Below.refl _ _⟩
  case round =>
    rename_i wr
    obtain ⟨k, hk, rfl, hbr, hbn⟩ := hrel
    have y0 := (hbn.cell (p := ⟨w.heap.size, 5, none⟩) (by show w.heap.size < _; omega)).trans z0
    have y1 := (hbn.cell (p := ⟨w.heap.size + 1, 5, none⟩) hX).trans z1
    have gw := hbn.size
    have gX0 : w.heap.size < wr.heap.size := by have := hbn.size; omega
    have gX : w.heap.size + 1 < wr.heap.size := by have := hbn.size; omega
    by_cases h1 : k < m
    · have h1' : (k : Int) < (m : Int) := by omega
      have hkl : k < l.length := by rw [← HM.out]; exact h1
      have hBr : Below w0.heap.size w0 wr := HB0.out.trans (hbr.mono HB0.out.size)
      obtain ⟨g, o1, a0, a1, a2, a3, a4, m1, a5, a6, m2, a7, hA2, hg0, hg, hA, p0, p1, p2, p3, p4, p5⟩ := HX.out.2.kid HX.out.1 hBr k hkl
      obtain ⟨g', o2, b0, b1, b2, b3, b4, n1, b5, b6, n2, b7, hB2, hg0', hg', hB, q0, q1, q2, q3, q4, q5⟩ := HY.out.2.kid HY.out.1 hBr k hkl
      subst hA2 hB2
      have HE := Lib.hid (fun (W : World) (hW : Below wr.heap.size wr W) => HI.out _ (List.getElem_mem hkl) w0 W _ _ _ _ _ _ _ _ _ _ _ _ (hBr.trans (hW.mono hBr.size)) hA hB)
      clear hA hB HX HY hkl hBr
      go_wp2
      go_region_held3 (fun w' => w'.cell? ⟨w.heap.size, 5, none⟩ = some (.slice (some ⟨g, o1, none⟩) m c2) ∧ w'.cell? ⟨w.heap.size + 1, 5, none⟩ = some (.slice (some ⟨g', o2, none⟩) m d2) ∧ w'.cell? ⟨g, o1 + k * 6, none⟩ = some (.int .i64 a0) ∧ w'.cell? ⟨g, o1 + k * 6 + 1, none⟩ = some (.int .i64 a1) ∧ w'.cell? ⟨g, o1 + k * 6 + 2, none⟩ = some (.int .u64 a2) ∧ w'.cell? ⟨g, o1 + k * 6 + 3, none⟩ = some (.string a3) ∧ w'.cell? ⟨g, o1 + k * 6 + 4, none⟩ = some (.slice a4 m1 a5) ∧ w'.cell? ⟨g, o1 + k * 6 + 5, none⟩ = some (.slice a6 m2 a7) ∧ w'.cell? ⟨g', o2 + k * 6, none⟩ = some (.int .i64 b0) ∧ w'.cell? ⟨g', o2 + k * 6 + 1, none⟩ = some (.int .i64 b1) ∧ w'.cell? ⟨g', o2 + k * 6 + 2, none⟩ = some (.int .u64 b2) ∧ w'.cell? ⟨g', o2 + k * 6 + 3, none⟩ = some (.string b3) ∧ w'.cell? ⟨g', o2 + k * 6 + 4, none⟩ = some (.slice b4 n1 b5) ∧ w'.cell? ⟨g', o2 + k * 6 + 5, none⟩ = some (.slice b6 n2 b7)) (first | (with_reducible exact ⟨y0, y1, p0, p1, p2, p3, p4, p5, q0, q1, q2, q3, q4, q5⟩) | (with_reducible exact ks) | (refine ⟨?_, ?_, ?_, ?_, ?_, ?_, ?_, ?_, ?_, ?_, ?_, ?_, ?_, ?_⟩ <;> go_keep)) (((go_at_call 13; refine (HE.out _ zw).mono ?_; rintro e w1 ⟨rfl, hb1⟩; obtain ⟨hc1, hf1, hl1⟩ := bcell hb1; (try simp only [zdz] at hc1 hf1 hl1); have hz1 := hb1.size; (try simp only [zsz] at hz1); (try have g0 : w.heap.size < w1.heap.size := by omega); (try have g1 : w.heap.size + 1 < w1.heap.size := by omega); (try have g2 : w.heap.size + 2 < w1.heap.size := by omega); (try have gb : b < w1.heap.size := by omega); (try have g3 : w.heap.size + 3 < w1.heap.size := by omega); (try have hbb : Below w.heap.size w w1 := zw); (try obtain ⟨hco, hfo, _⟩ := bcell hbb); (try have hb1 := hb1)); (have ks : w1.cell? ⟨w.heap.size, 5, none⟩ = some (.slice (some ⟨g, o1, none⟩) m c2) ∧ w1.cell? ⟨w.heap.size + 1, 5, none⟩ = some (.slice (some ⟨g', o2, none⟩) m d2) ∧ w1.cell? ⟨g, o1 + k * 6, none⟩ = some (.int .i64 a0) ∧ w1.cell? ⟨g, o1 + k * 6 + 1, none⟩ = some (.int .i64 a1) ∧ w1.cell? ⟨g, o1 + k * 6 + 2, none⟩ = some (.int .u64 a2) ∧ w1.cell? ⟨g, o1 + k * 6 + 3, none⟩ = some (.string a3) ∧ w1.cell? ⟨g, o1 + k * 6 + 4, none⟩ = some (.slice a4 m1 a5) ∧ w1.cell? ⟨g, o1 + k * 6 + 5, none⟩ = some (.slice a6 m2 a7) ∧ w1.cell? ⟨g', o2 + k * 6, none⟩ = some (.int .i64 b0) ∧ w1.cell? ⟨g', o2 + k * 6 + 1, none⟩ = some (.int .i64 b1) ∧ w1.cell? ⟨g', o2 + k * 6 + 2, none⟩ = some (.int .u64 b2) ∧ w1.cell? ⟨g', o2 + k * 6 + 3, none⟩ = some (.string b3) ∧ w1.cell? ⟨g', o2 + k * 6 + 4, none⟩ = some (.slice b4 n1 b5) ∧ w1.cell? ⟨g', o2 + k * 6 + 5, none⟩ = some (.slice b6 n2 b7) := ⟨(hc1 _ _ gX0).trans y0, (hc1 _ _ gX).trans y1, (hc1 _ _ hg).trans p0, (hc1 _ _ hg).trans p1, (hc1 _ _ hg).trans p2, (hc1 _ _ hg).trans p3, (hc1 _ _ hg).trans p4, (hc1 _ _ hg).trans p5, (hc1 _ _ hg').trans q0, (hc1 _ _ hg').trans q1, (hc1 _ _ hg').trans q2, (hc1 _ _ hg').trans q3, (hc1 _ _ hg').trans q4, (hc1 _ _ hg').trans q5⟩)))
      all_goals go_wp2
      all_goals go_roundw
      case rel => exact ⟨k + 1, by omega, by go_num, by exact zw, by exact zw⟩
      case measure => simp only [intOf]; omega
    · have h1' : ¬ (k : Int) < (m : Int) := by omega
      go_wp2
      go_returns
      exact ⟨rfl, hbr⟩
theorem eqnodeR_true (T : DT) : EqR T := DT.byKids eqR_step T
end
end Go.Proofs.YtccmhhmdenfecaaGreatDoor
