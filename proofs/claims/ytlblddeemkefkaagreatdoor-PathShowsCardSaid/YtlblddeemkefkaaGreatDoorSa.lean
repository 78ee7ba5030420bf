/- R.EqSteps and accordionlaw08.cut. R.EqTexts and R.EqNode say yes to two equal trees, however they lie in memory. -/
import Derived.Test.YtlblddeemkefkaaGreatDoorFa
import Derived.Test.YtlblddeemkefkaaGreatDoorEa
import Derived.Deep.RegionHeld3
import Derived.BigQuiet
import Derived.Deep.Onto
namespace Go.Proofs.YtlblddeemkefkaaGreatDoor
set_option linter.unusedVariables false
set_option linter.unusedSimpArgs false
section
section
open Go.RowKit
theorem str_eq8 (a b : List UInt8) : ((⟨a.toArray⟩ : ByteArray).toList == (⟨b.toArray⟩ : ByteArray).toList) = decide (a = b) := by
  rw [Lib.toList_data, Lib.toList_data]
  by_cases h : a = b
  · subst h; simp
  · simp [h]
theorem step_neq (a0 b0 : List UInt8) (a1 b1 : Int) (a2 b2 : Bool) (W : World) : (binOp .neq 50 (.agg #[.string ⟨a0.toArray⟩, .int .i64 a1, .bool a2]) (.agg #[.string ⟨b0.toArray⟩, .int .i64 b1, .bool b2])).run Tryz.prog W = .ok (.bool (!decide ((a0, a1, a2) = (b0, b1, b2)))) W := by
  have e := str_eq8 a0 b0
  by_cases h0 : a0 = b0
  · by_cases h1 : a1 = b1
    · by_cases h2 : a2 = b2
      · subst h0 h1 h2
        simp [go_sem]
      · subst h0 h1
        simp [go_sem, h2]
    · subst h0
      simp [go_sem, h1]
  · simp [go_sem, e, h0]
set_option maxRecDepth 100000 in
set_option maxHeartbeats 4000000 in
theorem eqsteps_any (p q : List PS) (A A' : Option Addr) (c c' : Nat) (w : World) (hp : StepRd w (.slice A p.length c) p) (hq : StepRd w (.slice A' q.length c') q) :
    Calls Tryz.prog 16 #[.slice A p.length c, .slice A' q.length c'] w fun e w' => e = .returned (.bool (decide (p = q))) ∧ Below w.heap.size w w' := by
  have hbp := Rd.bound hp
  have hbq := Rd.bound hq
  have HP := Lib.hid hp
  have HQ := Lib.hid hq
  clear hp hq
  obtain ⟨n, hn⟩ : ∃ n, n = p.length := ⟨_, rfl⟩
  obtain ⟨m, hm⟩ : ∃ m, m = q.length := ⟨_, rfl⟩
  rw [← hn] at hbp ⊢
  rw [← hm] at hbq ⊢
  have HN := Lib.hid hn
  have HM := Lib.hid hm
  clear hn hm
  by_cases hnm : n = m
  · have HNM := Lib.hid hnm
    subst hnm
    have hl : (n : Int) = n := rfl
    obtain ⟨r, hr⟩ : ∃ r, r = decide (p = q) := ⟨_, rfl⟩
    have HR := Lib.hid hr
    rw [← hr]
    clear hr HNM
    go_enter Tryz.func16, Tryz.ntmps16
    go_wp2_with fail
    go_loopw [5] (fun i wr => ∃ k : Nat, k ≤ n ∧ i = .int .i64 k ∧ Hid (p.take k = q.take k) ∧ Below w.heap.size w wr) (fun i _ => n - (intOf i).toNat)
    case atStart => exact ⟨0, by omega, rfl, Lib.hid rfl, Below.refl _ _⟩
    case round =>
      rename_i wr
      obtain ⟨k, hk, rfl, hT, hb⟩ := hrel
      by_cases h1 : k < n
      · have h1' : (k : Int) < (n : Int) := by omega
        have hkp : k < p.length := by rw [← HN.out]; exact h1
        have hkq : k < q.length := by rw [← HM.out]; exact h1
        have hSp : StepRd w (.slice A n c) p := by
          have := HP.out
          have e := HN.out
          rw [← e] at this
          exact this
        have hSq : StepRd w (.slice A' n c') q := by
          have := HQ.out
          have e := HM.out
          rw [← e] at this
          exact this
        obtain ⟨b1, o1, rfl, hlt1, hlt1', s0, s1, s2⟩ := hSp.at_ hb k hkp
        obtain ⟨b2, o2, rfl, hlt2, hlt2', t0, t1, t2⟩ := hSq.at_ hb k hkq
        have HT2 := Lib.hid (fun (h : p[k] = q[k]) => show p.take (k + 1) = q.take (k + 1) by
          rw [List.take_succ_eq_append_getElem hkp, List.take_succ_eq_append_getElem hkq, hT.out, h])
        have HNE := Lib.hid (fun (h : p[k] ≠ q[k]) => show r = false by
          rw [HR.out]
          exact decide_eq_false fun e => h (by subst e; rfl))
        obtain ⟨x, hx⟩ : ∃ x, p[k] = x := ⟨_, rfl⟩
        obtain ⟨y, hy⟩ : ∃ y, q[k] = y := ⟨_, rfl⟩
        rw [hx, hy] at HT2 HNE
        rw [hx] at s0 s1 s2
        rw [hy] at t0 t1 t2
        obtain ⟨x0, x1, x2⟩ := x
        obtain ⟨y0, y1, y2⟩ := y
        have heq := fun W => step_neq x0 y0 x1 y1 x2 y2 W
        have HB := Lib.hid hb
        clear hSp hSq hT hx hy hkp hkq hb
        dsimp only at s0 s1 s2 t0 t1 t2
        by_cases hxy : (x0, x1, x2) = (y0, y1, y2)
        · have HA := Lib.hid (HT2.out hxy)
          simp only [hxy, decide_true, Bool.not_true] at heq
          clear HT2 HNE hxy
          go_wp2_with fail
          go_region
          all_goals go_wp2
          all_goals go_roundw
          case rel => exact ⟨k + 1, by omega, by go_num, HA, by have := HB.out; exact zw⟩
          case measure => simp only [intOf]; omega
        · have HA := Lib.hid (HNE.out hxy)
          simp only [hxy, decide_false, Bool.not_false] at heq
          clear HT2 HNE hxy
          go_wp2_with fail
          go_region
          all_goals go_wp2
          all_goals go_ret
          all_goals exact ⟨by rw [HA.out]; rfl, by have := HB.out; exact zw⟩
      · have h1' : ¬ (k : Int) < (n : Int) := by omega
        have HB := Lib.hid hb
        have HA := Lib.hid (show r = true by
          rw [HR.out]
          have := hT.out
          rw [List.take_of_length_le (by rw [← HN.out]; omega), List.take_of_length_le (by rw [← HM.out]; omega)] at this
          exact decide_eq_true this)
        clear hb hT
        go_wp2_with fail
        go_ret
        exact ⟨by rw [HA.out]; rfl, HB.out⟩
  · have hr : decide (p = q) = false := decide_eq_false fun e => hnm (by rw [HN.out, HM.out, e])
    rw [hr]
    have hl : ¬ (n : Int) = (m : Int) := by omega
    clear hnm hr
    go_enter Tryz.func16, Tryz.ntmps16
    go_wp2_with fail
    go_ret
    exact ⟨rfl, Below.refl _ _⟩
/-- A path cut by the law. -/
def cutS (s : PS) : PS := (s.1.take 40, s.2)
def cutP (p : List PS) : List PS := (p.take 70).map cutS
theorem cutP_len (p : List PS) : (cutP p).length ≤ 70 := by
  unfold cutP
  rw [List.length_map, List.length_take]
  omega
set_option maxRecDepth 100000 in
set_option maxHeartbeats 4000000 in
theorem cut8_any (p : List PS) (A : Option Addr) (c : Nat) (w : World) (hp : StepRd w (.slice A p.length c) p) (hk : ∀ s ∈ p, s.1.length ≤ 9223372036854775807) :
    Calls Tryz.prog 13 #[.slice A p.length c] w fun e w' => (∃ v, e = .returned v ∧ SRow w.heap.size w' v (cutP p)) ∧ Below w.heap.size w w' := by
  have HP := Lib.hid hp
  have HK := Lib.hid hk
  have hbd := Rd.bound hp
  obtain ⟨n, hn⟩ : ∃ n, n = p.length := ⟨_, rfl⟩
  rw [← hn] at hbd ⊢
  have HN := Lib.hid hn
  clear hp hk hn
  obtain ⟨i0, hi, hz0, hz1, hz2⟩ := info_parts3 stepInfo
  go_enter Tryz.func13, Tryz.ntmps13
  go_wp2_with fail
  go_loopw [3, 4] (fun v i wr => ∃ (k : Nat), k ≤ n ∧ k ≤ 70 ∧ i = .int .i64 k ∧ SRow w.heap.size wr v ((p.take k).map cutS) ∧ Below w.heap.size w wr) (fun _ i _ => n - (intOf i).toNat)
  case atStart => exact ⟨0, by omega, by omega, rfl, by rw [List.take_zero]; exact SRow.nil _ _, Below.refl _ _⟩
  case round =>
    rename_i wr
    obtain ⟨k, hk, hkm, rfl, hT, hW⟩ := hrel
    obtain ⟨A2, c2, rfl⟩ := owns_ptr hT
    have hlen : ((p.take k).map cutS).length = k := by rw [List.length_map, List.length_take, ← HN.out]; omega
    by_cases hgo : k < n ∧ k < 70
    · obtain ⟨g0, g1⟩ := hgo
      have d0 : decide ((k : Int) < (n : Int)) = true := decide_eq_true (by omega)
      have d1 : decide ((k : Int) < (70 : Int)) = true := decide_eq_true (by omega)
      have hkn : k < p.length := by rw [← HN.out]; exact g0
      have hSp : StepRd w (.slice A n c) p := by
        have := HP.out
        have e := HN.out
        rw [← e] at this
        exact this
      obtain ⟨b, o, rfl, hlt, hlt2, s0, s1, s2⟩ := hSp.at_ hW k hkn
      have hkl := HK.out _ (List.getElem_mem hkn)
      have hsn : (p.take (k + 1)).map cutS = ((p.take k).map cutS) ++ [cutS p[k]] := by
        rw [List.take_succ_eq_append_getElem hkn, List.map_append]; rfl
      obtain ⟨x, hx⟩ : ∃ x, p[k] = x := ⟨_, rfl⟩
      rw [hx] at s0 s1 s2 hkl hsn
      obtain ⟨key, at_, by_⟩ := x
      dsimp only at s0 s1 s2 hkl
      have HSN := Lib.hid hsn
      generalize ((p.take k).map cutS) = acc at *
      have HL := Lib.hid hlen
      obtain rfl : acc.length = k := HL.out
      have HT := Lib.hid (And.intro hT hW)
      have HSH := Lib.hid (fun W => short_any key 40 hkl (by omega) W)
      unfold strV at HSH
      have H63 : Hid (acc.length + 1 ≤ maxLen) := Lib.hid (by unfold maxLen; omega)
      have HBY : Hid ((acc.length + 1) * 32 ≤ 140737488355328) := Lib.hid (by omega)
      clear hSp hkl hsn hlen hT hW HL hx
      go_upto_region 6 with fail
      refine wp_named (fun wn => wn.heap[wr.heap.size]? = some (.cells #[.string ⟨key.toArray⟩, .int .i64 at_, .bool by_] 50 (0, 0)) ∧ Below wr.heap.size wr wn) ⟨heap_alloc_new _ _, (Below.refl _ wr).alloc (Nat.le_refl _) _⟩ ?_
      rintro wn ⟨hr, hb⟩
      have hzn : wr.heap.size < wn.heap.size := row_lt hr
      have y0 : wn.cell? ⟨wr.heap.size, 0, none⟩ = some (.string ⟨key.toArray⟩) := by rw [Lib.cell_of_heap hr]; rfl
      have y1 : wn.cell? ⟨wr.heap.size, 1, none⟩ = some (.int .i64 at_) := by rw [Lib.cell_of_heap hr]; rfl
      have y2 : wn.cell? ⟨wr.heap.size, 2, none⟩ = some (.bool by_) := by rw [Lib.cell_of_heap hr]; rfl
      have f0 : wn.frozen? ⟨wr.heap.size, 0, none⟩ = false := frozen_of_row _ _ _ _ _ hr
      have HB := Lib.hid (And.intro hr hb)
      clear hr hb s0 s1 s2
      go_upto_region 7 with (go_at_call 18; refine (HSH.out _).mono ?_; rintro e w1 ⟨rfl, rfl⟩)
      refine wp_named (fun wx => wx.heap[wr.heap.size]? = some (.cells #[.string ⟨(key.take 40).toArray⟩, .int .i64 at_, .bool by_] 50 (0, 0)) ∧ Below wr.heap.size wr wx) ⟨?_, HB.out.2.setCell (Nat.le_refl _) _⟩ ?_
      · have := heap_setCell_same wn wr.heap.size 0 _ _ (.string ⟨(key.take 40).toArray⟩) HB.out.1
        exact this
      rintro wx ⟨hr, hb⟩
      have hzx : wr.heap.size < wx.heap.size := row_lt hr
      have v0 : wx.cell? ⟨wr.heap.size, 0, none⟩ = some (.string ⟨(key.take 40).toArray⟩) := by rw [Lib.cell_of_heap hr]; rfl
      have v1 : wx.cell? ⟨wr.heap.size, 1, none⟩ = some (.int .i64 at_) := by rw [Lib.cell_of_heap hr]; rfl
      have v2 : wx.cell? ⟨wr.heap.size, 2, none⟩ = some (.bool by_) := by rw [Lib.cell_of_heap hr]; rfl
      have HX := Lib.hid hb
      have HT2 := Lib.hid (show SRow w.heap.size wx (.slice A2 acc.length c2) acc from HT.out.1.keep fun k _ h => hb.block k h)
      have own1 := Lib.hid (fun (W : World) (h : Below wx.heap.size wx W) => (World.ownsRow.mono (HT2.out.keep (fun k _ b => h.block k b)) (Nat.zero_le _) : W.ownsRow 0 50 3 (.slice A2 acc.length c2) acc.length (acc.flatMap stepC)))
      have hzw : w.heap.size ≤ wx.heap.size := Nat.le_trans HT.out.2.size hb.size
      clear hr hb y0 y1 y2 f0 HB hzn
      go_wp2_with (at_builtin; go_loud (refine wpList_append_where (P := Tryz.prog) _ rfl (.tmp 24) (.tmp 26) 22 rfl 50 i0 (.agg #[.string ⟨#[]⟩, .int .i64 0, .bool false]) 3 32 Tryz.underlying22 hi hz0 hz1 hz2 rfl (by decide) (.slice A2 acc.length c2) acc.length (acc.flatMap stepC) rfl (own1.out _ (Below.alloc (Below.refl _ _) (Nat.le_refl _) _)) ⟨wx.heap.size, 0, none⟩ 1 1 [.string ⟨(key.take 40).toArray⟩, .int .i64 at_, .bool by_] rfl rfl (row_at (heap_alloc_new _ _)) step_one H63.out HBY.out ?_; intro v' w3 ho hg hwh))
      have hfin := SRow.step (t := cutS (key, at_, by_)) HT2.out hzw ((Below.refl _ wx).alloc (Nat.le_refl _) _) ho hg hwh
      have HFIN := Lib.hid (show SRow w.heap.size w3 v' ((p.take (acc.length + 1)).map cutS) by rw [HSN.out]; exact hfin.1)
      have HBL := Lib.hid (show Below w.heap.size w w3 from (HT.out.2.trans (HX.out.mono HT.out.2.size)).trans hfin.2)
      clear ho hg hwh hfin
      go_roundw
      case rel => exact ⟨acc.length + 1, by omega, by omega, by go_num, HFIN.out, HBL.out⟩
      case measure => simp only [intOf]; omega
    · have hT' : SRow w.heap.size wr (.slice A2 ((p.take k).map cutS).length c2) (cutP p) := by
        have e : p.take k = p.take 70 := by
          by_cases h : k < n
          · have : k = 70 := by omega
            rw [this]
          · have := HN.out
            rw [List.take_of_length_le (by omega), List.take_of_length_le (by omega)]
        unfold cutP
        rw [← e]
        exact hT
      have HT := Lib.hid (And.intro hT' hW)
      clear hT hT' hW
      generalize ((p.take k).map cutS).length = m at *
      by_cases g0 : k < n
      case' pos =>
        have d0 : decide ((k : Int) < (n : Int)) = true := decide_eq_true (by omega)
        have g1 : ¬ k < 70 := by omega
        have d1 : decide ((k : Int) < (70 : Int)) = false := decide_eq_false (by omega)
      case' neg =>
        have d0 : decide ((k : Int) < (n : Int)) = false := decide_eq_false (by omega)
      all_goals
        go_wp2_with fail
        go_ret
        exact ⟨⟨_, rfl, HT.out.1⟩, HT.out.2⟩
end
end
section
section
open Go.RowKit
set_option maxHeartbeats 2000000 in
theorem eqtextsR_true (ss : List (List UInt8)) (A A' : Option Addr) (c c' : Nat) (w0 w : World) (hb0 : Below w0.heap.size w0 w) (hu : Rd w0 (.slice A ss.length c) 1 ss.length (ss.map strV)) (hv : Rd w0 (.slice A' ss.length c') 1 ss.length (ss.map strV)) :
    Calls Tryz.prog 59 #[.slice A ss.length c, .slice A' ss.length c'] w fun e w' => e = .returned (.bool true) ∧ Below w.heap.size w w' := by
  have hu2 := hu.below hb0
  have hv2 := hv.below hb0
  have HU := Lib.hid hu2
  have HV := Lib.hid hv2
  have hbd := hu.bound
  clear hu hv hu2 hv2 hb0
  obtain ⟨n, hn⟩ : ∃ n, n = ss.length := ⟨_, rfl⟩
  rw [← hn] at hbd ⊢
  have HN := Lib.hid hn
  clear hn
  go_enter Tryz.func59, Tryz.ntmps59
  go_wp2
  go_loopw [5] (fun i wr => ∃ k : Nat, k ≤ n ∧ i = .int .i64 k ∧ Below w.heap.size w wr) (fun i _ => n - (intOf i).toNat)
  case atStart => exact ⟨0, by omega, rfl, Below.refl _ _⟩
  case round =>
    rename_i wr
    obtain ⟨k, hk, rfl, hb⟩ := hrel
    by_cases h1 : k < n
    · have h1' : (k : Int) < (n : Int) := by omega
      have hkn : k < ss.length := by rw [← HN.out]; exact h1
      have hU : Rd w (.slice A n c) 1 ss.length (ss.map strV) := by
        have := HU.out
        have e := HN.out
        rw [← e] at this ⊢
        exact this
      have hV : Rd w (.slice A' n c') 1 ss.length (ss.map strV) := by
        have := HV.out
        have e := HN.out
        rw [← e] at this ⊢
        exact this
      obtain ⟨b1, o1, rfl, hlt1, hlt1', e1⟩ := hU.text hb k hkn
      obtain ⟨b2, o2, rfl, hlt2, hlt2', e2⟩ := hV.text hb k hkn
      generalize ss[k] = s at e1 e2
      have HB := Lib.hid hb
      clear hkn hU hV hb
      go_wp2
      go_region
      all_goals go_wp2
      all_goals go_roundw
      case rel => exact ⟨k + 1, by omega, by go_num, by have := HB.out; exact zw⟩
      case measure => simp only [intOf]; omega
    · have h1' : ¬ (k : Int) < (n : Int) := by omega
      go_wp2
      go_returns
      exact ⟨rfl, hb⟩
/-- EqNode says yes to two trees that read alike. -/
def EqR (T : DT) : Prop := ∀ (w0 w : World) (x0 x1 x2 x3 x4 x5 y0 y1 y2 y3 y4 y5 : Value), Below w0.heap.size w0 w → RRep w0 T [x0, x1, x2, x3, x4, x5] → RRep w0 T [y0, y1, y2, y3, y4, y5] →
  Calls Tryz.prog 24 #[.agg #[x0, x1, x2, x3, x4, x5], .agg #[y0, y1, y2, y3, y4, y5]] w fun e w' => e = .returned (.bool true) ∧ Below w.heap.size w w'
set_option maxRecDepth 100000 in
set_option maxHeartbeats 8000000 in
theorem eqR_step (kd nn u : Int) (s : List UInt8) (ks : List (List UInt8)) (l : List DT) (ih : ∀ t ∈ l, EqR t) : EqR (.mk kd nn u s ks l) := by
  intro w0 w x0 x1 x2 x3 x4 x5 y0 y1 y2 y3 y4 y5 hb0 hx hy
  obtain ⟨A1, c1, A2, c2, xs, hx1, hx2, hx3, hx4⟩ := hx.form
  obtain ⟨B1, d1, B2, d2, ys, hy1, hy2, hy3, hy4⟩ := hy.form
  simp only [List.cons.injEq, and_true] at hx1 hy1
  obtain ⟨rfl, rfl, rfl, rfl, rfl, rfl⟩ := hx1
  obtain ⟨rfl, rfl, rfl, rfl, rfl, rfl⟩ := hy1
  have HT := Lib.hid (fun (W : World) (hW : Below w.heap.size w W) => eqtextsR_true ks _ _ _ _ w0 W (hb0.trans (hW.mono hb0.size)) hx2 hy2)
  have HX := Lib.hid (And.intro hx3 hx4)
  have HY := Lib.hid (And.intro hy3 hy4)
  have HI := Lib.hid ih
  have HB0 := Lib.hid hb0
  have hbd := hx3.bound
  clear hx hy hx2 hx3 hx4 hy2 hy3 hy4 ih hb0
  unfold strV
  obtain ⟨m, hm⟩ : ∃ m, m = l.length := ⟨_, rfl⟩
  rw [← hm] at hbd ⊢
  have HM := Lib.hid hm
  clear hm
  generalize hq : ks.length = q
  rw [hq] at HT
  clear hq
  go_enter Tryz.func24, Tryz.ntmps24
  go_upto_region 3 with (go_at_call 59; refine (HT.out _ zw).mono ?_; rintro e w1 ⟨rfl, hb1⟩; obtain ⟨hc1, hf1, hl1⟩ := bcell hb1; (try simp only [zdz] at hc1 hf1 hl1); have hz1 := hb1.size; (try simp only [zsz] at hz1); (try have g0 : w.heap.size < w1.heap.size := by omega); (try have g1 : w.heap.size + 1 < w1.heap.size := by omega); (try have g2 : w.heap.size + 2 < w1.heap.size := by omega); (try have gb : b < w1.heap.size := by omega); (try have g3 : w.heap.size + 3 < w1.heap.size := by omega); (try have hbb : Below w.heap.size w w1 := zw); (try obtain ⟨hco, hfo, _⟩ := bcell hbb); (try have hb1 := hb1))
  refine wp_named (fun wn => Below w.heap.size w wn ∧ w.heap.size + 1 < wn.heap.size ∧ wn.cell? ⟨w.heap.size, 5, none⟩ = some (.slice A2 m c2) ∧ wn.cell? ⟨w.heap.size + 1, 5, none⟩ = some (.slice B2 m d2)) ⟨by exact zw, by omega, by go_simp, by go_simp⟩ ?_
  clear hb1 hc1 hf1 hl1 hz1 g0 g1 hbb hco hfo
  rintro wn ⟨hb, hX, z0, z1⟩
  go_wp2_with fail
  go_loopw [5] (fun i wr => ∃ k : Nat, k ≤ m ∧ i = .int .i64 k ∧ Below w.heap.size w wr ∧ Below wn.heap.size wn wr) (fun i _ => m - (intOf i).toNat)
  case atStart => exact ⟨0, by omega, rfl, hb, Below.refl _ _⟩
  case round =>
    rename_i wr
    obtain ⟨k, hk, rfl, hbr, hbn⟩ := hrel
    have y0 := (hbn.cell (p := ⟨w.heap.size, 5, none⟩) (by show w.heap.size < _; omega)).trans z0
    have y1 := (hbn.cell (p := ⟨w.heap.size + 1, 5, none⟩) hX).trans z1
    have gw := hbn.size
    have gX0 : w.heap.size < wr.heap.size := by have := hbn.size; omega
    have gX : w.heap.size + 1 < wr.heap.size := by have := hbn.size; omega
    by_cases h1 : k < m
    · have h1' : (k : Int) < (m : Int) := by omega
      have hkl : k < l.length := by rw [← HM.out]; exact h1
      have hBr : Below w0.heap.size w0 wr := HB0.out.trans (hbr.mono HB0.out.size)
      obtain ⟨g, o1, a0, a1, a2, a3, a4, m1, a5, a6, m2, a7, hA2, hg0, hg, hA, p0, p1, p2, p3, p4, p5⟩ := HX.out.2.kid HX.out.1 hBr k hkl
      obtain ⟨g', o2, b0, b1, b2, b3, b4, n1, b5, b6, n2, b7, hB2, hg0', hg', hB, q0, q1, q2, q3, q4, q5⟩ := HY.out.2.kid HY.out.1 hBr k hkl
      subst hA2 hB2
      have HE := Lib.hid (fun (W : World) (hW : Below wr.heap.size wr W) => HI.out _ (List.getElem_mem hkl) w0 W _ _ _ _ _ _ _ _ _ _ _ _ (hBr.trans (hW.mono hBr.size)) hA hB)
      clear hA hB HX HY hkl hBr
      go_wp2
      go_region_held3 (fun w' => w'.cell? ⟨w.heap.size, 5, none⟩ = some (.slice (some ⟨g, o1, none⟩) m c2) ∧ w'.cell? ⟨w.heap.size + 1, 5, none⟩ = some (.slice (some ⟨g', o2, none⟩) m d2) ∧ w'.cell? ⟨g, o1 + k * 6, none⟩ = some (.int .i64 a0) ∧ w'.cell? ⟨g, o1 + k * 6 + 1, none⟩ = some (.int .i64 a1) ∧ w'.cell? ⟨g, o1 + k * 6 + 2, none⟩ = some (.int .u64 a2) ∧ w'.cell? ⟨g, o1 + k * 6 + 3, none⟩ = some (.string a3) ∧ w'.cell? ⟨g, o1 + k * 6 + 4, none⟩ = some (.slice a4 m1 a5) ∧ w'.cell? ⟨g, o1 + k * 6 + 5, none⟩ = some (.slice a6 m2 a7) ∧ w'.cell? ⟨g', o2 + k * 6, none⟩ = some (.int .i64 b0) ∧ w'.cell? ⟨g', o2 + k * 6 + 1, none⟩ = some (.int .i64 b1) ∧ w'.cell? ⟨g', o2 + k * 6 + 2, none⟩ = some (.int .u64 b2) ∧ w'.cell? ⟨g', o2 + k * 6 + 3, none⟩ = some (.string b3) ∧ w'.cell? ⟨g', o2 + k * 6 + 4, none⟩ = some (.slice b4 n1 b5) ∧ w'.cell? ⟨g', o2 + k * 6 + 5, none⟩ = some (.slice b6 n2 b7)) (first | (with_reducible exact ⟨y0, y1, p0, p1, p2, p3, p4, p5, q0, q1, q2, q3, q4, q5⟩) | (with_reducible exact ks) | (refine ⟨?_, ?_, ?_, ?_, ?_, ?_, ?_, ?_, ?_, ?_, ?_, ?_, ?_, ?_⟩ <;> go_keep)) (((go_at_call 24; refine (HE.out _ zw).mono ?_; rintro e w1 ⟨rfl, hb1⟩; obtain ⟨hc1, hf1, hl1⟩ := bcell hb1; (try simp only [zdz] at hc1 hf1 hl1); have hz1 := hb1.size; (try simp only [zsz] at hz1); (try have g0 : w.heap.size < w1.heap.size := by omega); (try have g1 : w.heap.size + 1 < w1.heap.size := by omega); (try have g2 : w.heap.size + 2 < w1.heap.size := by omega); (try have gb : b < w1.heap.size := by omega); (try have g3 : w.heap.size + 3 < w1.heap.size := by omega); (try have hbb : Below w.heap.size w w1 := zw); (try obtain ⟨hco, hfo, _⟩ := bcell hbb); (try have hb1 := hb1)); (have ks : w1.cell? ⟨w.heap.size, 5, none⟩ = some (.slice (some ⟨g, o1, none⟩) m c2) ∧ w1.cell? ⟨w.heap.size + 1, 5, none⟩ = some (.slice (some ⟨g', o2, none⟩) m d2) ∧ w1.cell? ⟨g, o1 + k * 6, none⟩ = some (.int .i64 a0) ∧ w1.cell? ⟨g, o1 + k * 6 + 1, none⟩ = some (.int .i64 a1) ∧ w1.cell? ⟨g, o1 + k * 6 + 2, none⟩ = some (.int .u64 a2) ∧ w1.cell? ⟨g, o1 + k * 6 + 3, none⟩ = some (.string a3) ∧ w1.cell? ⟨g, o1 + k * 6 + 4, none⟩ = some (.slice a4 m1 a5) ∧ w1.cell? ⟨g, o1 + k * 6 + 5, none⟩ = some (.slice a6 m2 a7) ∧ w1.cell? ⟨g', o2 + k * 6, none⟩ = some (.int .i64 b0) ∧ w1.cell? ⟨g', o2 + k * 6 + 1, none⟩ = some (.int .i64 b1) ∧ w1.cell? ⟨g', o2 + k * 6 + 2, none⟩ = some (.int .u64 b2) ∧ w1.cell? ⟨g', o2 + k * 6 + 3, none⟩ = some (.string b3) ∧ w1.cell? ⟨g', o2 + k * 6 + 4, none⟩ = some (.slice b4 n1 b5) ∧ w1.cell? ⟨g', o2 + k * 6 + 5, none⟩ = some (.slice b6 n2 b7) := ⟨(hc1 _ _ gX0).trans y0, (hc1 _ _ gX).trans y1, (hc1 _ _ hg).trans p0, (hc1 _ _ hg).trans p1, (hc1 _ _ hg).trans p2, (hc1 _ _ hg).trans p3, (hc1 _ _ hg).trans p4, (hc1 _ _ hg).trans p5, (hc1 _ _ hg').trans q0, (hc1 _ _ hg').trans q1, (hc1 _ _ hg').trans q2, (hc1 _ _ hg').trans q3, (hc1 _ _ hg').trans q4, (hc1 _ _ hg').trans q5⟩)))
      all_goals go_wp2
      all_goals go_roundw
      case rel => exact ⟨k + 1, by omega, by go_num, by exact zw, by exact zw⟩
      case measure => simp only [intOf]; omega
    · have h1' : ¬ (k : Int) < (m : Int) := by omega
      go_wp2
      go_returns
      exact ⟨rfl, hbr⟩
theorem eqnodeR_true (T : DT) : EqR T := DT.byKids eqR_step T
end
end
end Go.Proofs.YtlblddeemkefkaaGreatDoor
