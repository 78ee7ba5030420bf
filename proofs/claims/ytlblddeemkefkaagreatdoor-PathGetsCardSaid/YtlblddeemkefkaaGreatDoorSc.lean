/- tree.Same: whether two trees are equal, however they lie in memory. -/
import Derived.Deep.RegionHeld3
import Derived.BigQuiet
import Derived.Test.YtlblddeemkefkaaGreatDoorEa
namespace Go.Proofs.YtlblddeemkefkaaGreatDoor
set_option linter.unusedVariables false
set_option linter.unusedSimpArgs false
section
open Go.RowKit
set_option maxHeartbeats 4000000 in
set_option maxRecDepth 100000 in
theorem sleq_any (p q : List (List UInt8)) (A A' : Option Addr) (c c' : Nat) (w0 w : World) (hb0 : Below w0.heap.size w0 w) (hu : Rd w0 (.slice A p.length c) 1 p.length (p.map strV)) (hv : Rd w0 (.slice A' q.length c') 1 q.length (q.map strV)) :
    Calls Tryz.prog 63 #[.slice A p.length c, .slice A' q.length c'] w fun e w' => e = .returned (.bool (decide (p = q))) ∧ Below w.heap.size w w' := by
  have hbp := hu.bound
  have hbq := hv.bound
  have HP := Lib.hid (hu.below hb0)
  have HQ := Lib.hid (hv.below hb0)
  clear hu hv hb0
  obtain ⟨n, hn⟩ : ∃ n, n = p.length := ⟨_, rfl⟩
  obtain ⟨m, hm⟩ : ∃ m, m = q.length := ⟨_, rfl⟩
  rw [← hn] at hbp ⊢
  rw [← hm] at hbq ⊢
  have HN := Lib.hid hn
  have HM := Lib.hid hm
  clear hn hm
  by_cases hnm : n = m
  · subst hnm
    obtain ⟨r, hr⟩ : ∃ r, r = decide (p = q) := ⟨_, rfl⟩
    have HR := Lib.hid hr
    rw [← hr]
    clear hr
    go_enter Tryz.func63, Tryz.ntmps63
    go_wp2_with fail
    go_loopw [13] (fun i wr => ∃ k : Nat, k ≤ n ∧ i = .int .i64 k ∧ Hid (p.take k = q.take k) ∧ Below w.heap.size w wr) (fun i _ => n - (intOf i).toNat)
    case atStart => exact ⟨0, by omega, rfl, Lib.hid rfl, Below.refl _ _⟩
    case round =>
      rename_i wr
      obtain ⟨k, hk, rfl, hT, hb⟩ := hrel
      by_cases h1 : k < n
      · have h1' : (k : Int) < (n : Int) := by omega
        have hkp : k < p.length := by rw [← HN.out]; exact h1
        have hkq : k < q.length := by rw [← HM.out]; exact h1
        have hSp : Rd w (.slice A n c) 1 p.length (p.map strV) := by
          have := HP.out
          have e := HN.out
          rw [← e] at this ⊢
          exact this
        have hSq : Rd w (.slice A' n c') 1 q.length (q.map strV) := by
          have := HQ.out
          have e := HM.out
          rw [← e] at this ⊢
          exact this
        obtain ⟨b1, o1, rfl, hlt1, hlt1', s0⟩ := hSp.text hb k hkp
        obtain ⟨b2, o2, rfl, hlt2, hlt2', t0⟩ := hSq.text hb k hkq
        have HT2 := Lib.hid (fun (h : p[k] = q[k]) => show p.take (k + 1) = q.take (k + 1) by
          rw [List.take_succ_eq_append_getElem hkp, List.take_succ_eq_append_getElem hkq, hT.out, h])
        have HNE := Lib.hid (fun (h : p[k] ≠ q[k]) => show r = false by
          rw [HR.out]
          exact decide_eq_false fun e => h (by subst e; rfl))
        obtain ⟨x, hx⟩ : ∃ x, p[k] = x := ⟨_, rfl⟩
        obtain ⟨y, hy⟩ : ∃ y, q[k] = y := ⟨_, rfl⟩
        rw [hx, hy] at HT2 HNE
        rw [hx] at s0
        rw [hy] at t0
        have HB := Lib.hid hb
        clear hSp hSq hT hx hy hkp hkq hb
        by_cases hxy : x = y
        · have HA := Lib.hid (HT2.out hxy)
          subst hxy
          clear HT2 HNE
          go_wp2_with fail
          go_region
          all_goals go_wp2
          all_goals go_roundw
          case rel => exact ⟨k + 1, by omega, by go_num, HA, by have := HB.out; exact zw⟩
          case measure => simp only [intOf]; omega
        · have HA := Lib.hid (HNE.out hxy)
          have e2 : ¬ (⟨x.toArray⟩ : ByteArray) = ⟨y.toArray⟩ := fun h => hxy (by injection h with h; simpa using h)
          have e3 : (x == y) = false := by simpa using hxy
          clear HT2 HNE hxy
          go_wp2_with fail
          go_region
          all_goals go_wp2
          all_goals go_ret
          all_goals exact ⟨by rw [HA.out]; rfl, by have := HB.out; exact zw⟩
      · have h1' : ¬ (k : Int) < (n : Int) := by omega
        have HB := Lib.hid hb
        have HA := Lib.hid (show r = true by
          rw [HR.out]
          have := hT.out
          rw [List.take_of_length_le (by rw [← HN.out]; omega), List.take_of_length_le (by rw [← HM.out]; omega)] at this
          exact decide_eq_true this)
        clear hb hT
        go_wp2_with fail
        go_ret
        exact ⟨by rw [HA.out]; rfl, HB.out⟩
  · have hr : decide (p = q) = false := decide_eq_false fun e => hnm (by rw [HN.out, HM.out, e])
    rw [hr]
    have hl : ¬ (n : Int) = (m : Int) := by omega
    clear hnm hr
    go_enter Tryz.func63, Tryz.ntmps63
    go_wp2_with fail
    go_ret
    exact ⟨rfl, Below.refl _ _⟩
/-- Same tells whether two trees are equal. -/
def SamePost (T T' : DT) (w : World) (e : Ending) (w' : World) : Prop := ∃ b, e = .returned (.bool b) ∧ (b = true ↔ T = T') ∧ Below w.heap.size w w'
def SameC (T : DT) : Prop := ∀ (T' : DT) (w0 w : World) (x0 x1 x2 x3 x4 x5 y0 y1 y2 y3 y4 y5 : Value), Below w0.heap.size w0 w → RRep w0 T [x0, x1, x2, x3, x4, x5] → RRep w0 T' [y0, y1, y2, y3, y4, y5] →
  Calls Tryz.prog 28 #[.agg #[x0, x1, x2, x3, x4, x5], .agg #[y0, y1, y2, y3, y4, y5]] w (SamePost T T' w)
def SamesPost (l l' : List DT) (w : World) (e : Ending) (w' : World) : Prop := ∃ b, e = .returned (.bool b) ∧ (b = true ↔ l = l') ∧ Below w.heap.size w w'
set_option maxHeartbeats 8000000 in
set_option maxRecDepth 100000 in
theorem eqfunc_any (l l' : List DT) (ih : ∀ t ∈ l, SameC t) (A A' : Option Addr) (c c' : Nat) (xs ys : List Value) (w0 w : World) (hb0 : Below w0.heap.size w0 w) (hx : Rd w0 (.slice A l.length c) 6 l.length xs) (hx2 : RReps w0 l xs) (hy : Rd w0 (.slice A' l'.length c') 6 l'.length ys) (hy2 : RReps w0 l' ys) :
    Calls Tryz.prog 64 #[.slice A l.length c, .slice A' l'.length c', .func (.func 28) #[] #[]] w (SamesPost l l' w) := by
  have hbp := hx.bound
  have hbq := hy.bound
  have HX := Lib.hid (And.intro hx hx2)
  have HY := Lib.hid (And.intro hy hy2)
  have HI := Lib.hid ih
  have HB0 := Lib.hid hb0
  clear hx hx2 hy hy2 ih hb0
  obtain ⟨n, hn⟩ : ∃ n, n = l.length := ⟨_, rfl⟩
  obtain ⟨m, hm⟩ : ∃ m, m = l'.length := ⟨_, rfl⟩
  rw [← hn] at hbp ⊢
  rw [← hm] at hbq ⊢
  have HN := Lib.hid hn
  have HM := Lib.hid hm
  clear hn hm
  by_cases hnm : n = m
  · subst hnm
    go_enter Tryz.func64, Tryz.ntmps64
    go_wp2_with fail
    go_loopw [17] (fun i wr => ∃ k : Nat, k ≤ n ∧ i = .int .i64 k ∧ Hid (l.take k = l'.take k) ∧ Below w.heap.size w wr) (fun i _ => n - (intOf i).toNat)
    case atStart => exact ⟨0, by omega, rfl, Lib.hid rfl, Below.refl _ _⟩
    case round =>
      rename_i wr
      obtain ⟨k, hk, rfl, hT, hb⟩ := hrel
      by_cases h1 : k < n
      · have h1' : (k : Int) < (n : Int) := by omega
        have hkp : k < l.length := by rw [← HN.out]; exact h1
        have hkq : k < l'.length := by rw [← HM.out]; exact h1
        have hBr : Below w0.heap.size w0 wr := HB0.out.trans (hb.mono HB0.out.size)
        have hX2 : Rd w0 (.slice A n c) 6 l.length xs := by
          have := HX.out.1
          have e := HN.out
          rw [← e] at this ⊢
          exact this
        have hY2 : Rd w0 (.slice A' n c') 6 l'.length ys := by
          have := HY.out.1
          have e := HM.out
          rw [← e] at this ⊢
          exact this
        obtain ⟨g, o1, a0, a1, a2, a3, a4, m1, a5, a6, m2, a7, rfl, hg0, hg, hA, p0, p1, p2, p3, p4, p5⟩ := HX.out.2.kid hX2 hBr k hkp
        obtain ⟨g', o2, b0, b1, b2, b3, b4, n1, b5, b6, n2, b7, rfl, hg0', hg', hB, q0, q1, q2, q3, q4, q5⟩ := HY.out.2.kid hY2 hBr k hkq
        have HE := Lib.hid (fun (W : World) (hW : Below wr.heap.size wr W) => HI.out _ (List.getElem_mem hkp) l'[k] w0 W _ _ _ _ _ _ _ _ _ _ _ _ (hBr.trans (hW.mono hBr.size)) hA hB)
        have HT2 := Lib.hid (fun (h : l[k] = l'[k]) => show l.take (k + 1) = l'.take (k + 1) by
          rw [List.take_succ_eq_append_getElem hkp, List.take_succ_eq_append_getElem hkq, hT.out, h])
        have HNE := Lib.hid (fun (h : l[k] ≠ l'[k]) => show ¬ l = l' from fun e => h (by subst e; rfl))
        generalize l[k] = t at *
        generalize l'[k] = t' at *
        have HB := Lib.hid hb
        clear hA hB hX2 hY2 hT hkp hkq hBr hb
        go_upto_region 6 with fail
        refine wp_named (fun wn => wn.heap[wr.heap.size]? = some (.cells #[.int .i64 a0, .int .i64 a1, .int .u64 a2, .string a3, .slice a4 m1 a5, .slice a6 m2 a7] 38 (0, 0)) ∧ Below wr.heap.size wr wn) ⟨heap_alloc_new _ _, (Below.refl _ wr).alloc (Nat.le_refl _) _⟩ ?_
        rintro wn ⟨hr1, hb1⟩
        have hg2 : g' < wn.heap.size := Nat.lt_of_lt_of_le hg' hb1.size
        have r0 := (hb1.cell (p := ⟨g', o2 + k * 6, none⟩) hg').trans q0
        have r1 := (hb1.cell (p := ⟨g', o2 + k * 6 + 1, none⟩) hg').trans q1
        have r2 := (hb1.cell (p := ⟨g', o2 + k * 6 + 2, none⟩) hg').trans q2
        have r3 := (hb1.cell (p := ⟨g', o2 + k * 6 + 3, none⟩) hg').trans q3
        have r4 := (hb1.cell (p := ⟨g', o2 + k * 6 + 4, none⟩) hg').trans q4
        have r5 := (hb1.cell (p := ⟨g', o2 + k * 6 + 5, none⟩) hg').trans q5
        have HB1 := Lib.hid (And.intro hr1 hb1)
        clear hr1 hb1 p0 p1 p2 p3 p4 p5 q0 q1 q2 q3 q4 q5
        go_upto_region 7 with fail
        refine wp_named (fun wx => wx.heap[wr.heap.size]? = some (.cells #[.int .i64 a0, .int .i64 a1, .int .u64 a2, .string a3, .slice a4 m1 a5, .slice a6 m2 a7] 38 (0, 0)) ∧ wx.heap[wn.heap.size]? = some (.cells #[.int .i64 b0, .int .i64 b1, .int .u64 b2, .string b3, .slice b4 n1 b5, .slice b6 n2 b7] 38 (0, 0)) ∧ Below wr.heap.size wr wx) ⟨below_row HB1.out.1 ((Below.refl _ wn).alloc (Nat.le_refl _) _), heap_alloc_new _ _, HB1.out.2.alloc HB1.out.2.size _⟩ ?_
        rintro wx ⟨hr1, hr2, hb1⟩
        have HC := Lib.hid (HE.out _ hb1)
        have hz1 : wr.heap.size < wx.heap.size := (Array.getElem?_eq_some_iff.1 hr1).1
        have hz2 : wn.heap.size < wx.heap.size := (Array.getElem?_eq_some_iff.1 hr2).1
        obtain ⟨s0, s1, s2, s3, s4, s5⟩ := cells6 hr1
        obtain ⟨t0, t1, t2, t3, t4, t5⟩ := cells6 hr2
        have HBX := Lib.hid hb1
        clear hr1 hr2 hb1 r0 r1 r2 r3 r4 r5 HE HB1
        go_wp2_with fail
        refine HC.out.mono ?_
        rintro e w1 ⟨b, rfl, hiff, hb1⟩
        have HW := Lib.hid (show Below w.heap.size w w1 from (HB.out.trans (HBX.out.mono HB.out.size)).trans (hb1.mono (Nat.le_trans HB.out.size HBX.out.size)))
        cases b
        · have HA := Lib.hid (show ¬ l = l' from HNE.out fun e => by have := hiff.2 e; cases this)
          clear hiff hb1 HT2 HNE HC
          go_wp2_with fail
          go_ret
          exact ⟨false, rfl, by simp [HA.out], HW.out⟩
        · have HA := Lib.hid (HT2.out (hiff.1 rfl))
          clear hiff hb1 HT2 HNE HC
          go_wp2_with fail
          go_roundw
          case rel => exact ⟨k + 1, by omega, by go_num, HA, HW.out⟩
          case measure => simp only [intOf]; omega
      · have h1' : ¬ (k : Int) < (n : Int) := by omega
        have HB := Lib.hid hb
        have HA := Lib.hid (show l = l' by
          have := hT.out
          rwa [List.take_of_length_le (by rw [← HN.out]; omega), List.take_of_length_le (by rw [← HM.out]; omega)] at this)
        clear hb hT
        go_wp2_with fail
        go_ret
        exact ⟨true, rfl, by simp [HA.out], HB.out⟩
  · have HR := Lib.hid (show ¬ l = l' from fun e => hnm (by rw [HN.out, HM.out, e]))
    have hl : ¬ (n : Int) = (m : Int) := by omega
    clear hnm
    go_enter Tryz.func64, Tryz.ntmps64
    go_wp2_with fail
    go_ret
    exact ⟨false, rfl, by simp [HR.out], Below.refl _ _⟩
set_option maxHeartbeats 8000000 in
set_option maxRecDepth 100000 in
theorem same_step (kd nn u : Int) (s : List UInt8) (ks : List (List UInt8)) (l : List DT) (ih : ∀ t ∈ l, SameC t) : SameC (.mk kd nn u s ks l) := by
  intro T' w0 w x0 x1 x2 x3 x4 x5 y0 y1 y2 y3 y4 y5 hb0 hx hy
  obtain ⟨kd', nn', u', s', ks', l'⟩ := T'
  obtain ⟨A1, c1, A2, c2, xs, hx1, hx2, hx3, hx4⟩ := hx.form
  obtain ⟨B1, d1, B2, d2, ys, hy1, hy2, hy3, hy4⟩ := hy.form
  simp only [List.cons.injEq, and_true] at hx1 hy1
  obtain ⟨rfl, rfl, rfl, rfl, rfl, rfl⟩ := hx1
  obtain ⟨rfl, rfl, rfl, rfl, rfl, rfl⟩ := hy1
  have HQ := Lib.hid (fun (W : World) (hW : Below w.heap.size w W) => sleq_any ks ks' _ _ _ _ w0 W (hb0.trans (hW.mono hb0.size)) hx2 hy2)
  have HF := Lib.hid (fun (W : World) (hW : Below w.heap.size w W) => eqfunc_any l l' ih _ _ _ _ _ _ w0 W (hb0.trans (hW.mono hb0.size)) hx3 hx4 hy3 hy4)
  clear hx hy hx2 hx3 hx4 hy2 hy3 hy4 ih hb0
  unfold strV
  generalize hq1 : ks.length = q1
  generalize hq2 : ks'.length = q2
  rw [hq1, hq2] at HQ
  generalize hm1 : l.length = m1
  generalize hm2 : l'.length = m2
  rw [hm1, hm2] at HF
  clear hq1 hq2 hm1 hm2
  by_cases e0 : kd = kd'
  · subst e0
    by_cases e1 : nn = nn'
    · subst e1
      by_cases e2 : u = u'
      · subst e2
        by_cases e3 : s = s'
        · subst e3
          by_cases e4 : ks = ks'
          · have HQ1 := Lib.hid (fun (W : World) (hW : Below w.heap.size w W) => show Calls Tryz.prog 63 #[.slice A1 q1 c1, .slice B1 q2 d1] W fun e w' => e = .returned (.bool true) ∧ Below W.heap.size W w' by
              have := HQ.out W hW
              rwa [decide_eq_true e4] at this)
            have HE4 := Lib.hid e4
            clear HQ e4
            go_enter Tryz.func28, Tryz.ntmps28
            go_wp2_with (go_at_call 63; refine (HQ1.out _ zw).mono ?_; rintro e w1 ⟨rfl, hb1⟩; obtain ⟨hc1, hf1, hl1⟩ := bcell hb1; (try simp only [zdz] at hc1 hf1 hl1); have hz1 := hb1.size; (try simp only [zsz] at hz1); (try have g0 : w.heap.size < w1.heap.size := by omega); (try have g1 : w.heap.size + 1 < w1.heap.size := by omega); (try have g2 : w.heap.size + 2 < w1.heap.size := by omega); (try have gb : b < w1.heap.size := by omega); (try have g3 : w.heap.size + 3 < w1.heap.size := by omega); (try have hbb : Below w.heap.size w w1 := zw); (try obtain ⟨hco, hfo, _⟩ := bcell hbb); (try have hb1 := hb1))
            refine (HF.out _ zw).mono ?_
            rintro e w2 ⟨b, rfl, hiff, hb2⟩
            have HBB := Lib.hid (below_call hb2 hbb (by omega))
            have HFI := Lib.hid (show b = true ↔ DT.mk kd nn u s ks l = .mk kd nn u s ks' l' by
              rw [hiff, HE4.out]
              constructor
              · intro h; rw [h]
              · intro h; cases h; rfl)
            clear hiff hb2
            go_wp2_with fail
            go_ret
            exact ⟨b, rfl, HFI.out, HBB.out⟩
          · have HQ1 := Lib.hid (fun (W : World) (hW : Below w.heap.size w W) => show Calls Tryz.prog 63 #[.slice A1 q1 c1, .slice B1 q2 d1] W fun e w' => e = .returned (.bool false) ∧ Below W.heap.size W w' by
              have := HQ.out W hW
              rwa [decide_eq_false e4] at this)
            have HE4 := Lib.hid e4
            clear HQ e4 HF
            go_enter Tryz.func28, Tryz.ntmps28
            go_wp2_with (go_at_call 63; refine (HQ1.out _ zw).mono ?_; rintro e w1 ⟨rfl, hb1⟩; obtain ⟨hc1, hf1, hl1⟩ := bcell hb1; (try simp only [zdz] at hc1 hf1 hl1); have hz1 := hb1.size; (try simp only [zsz] at hz1); (try have g0 : w.heap.size < w1.heap.size := by omega); (try have g1 : w.heap.size + 1 < w1.heap.size := by omega); (try have g2 : w.heap.size + 2 < w1.heap.size := by omega); (try have gb : b < w1.heap.size := by omega); (try have g3 : w.heap.size + 3 < w1.heap.size := by omega); (try have hbb : Below w.heap.size w w1 := zw); (try obtain ⟨hco, hfo, _⟩ := bcell hbb); (try have hb1 := hb1))
            go_ret
            exact ⟨false, rfl, by simp [HE4.out], hbb⟩
        · have HE3 := Lib.hid e3
          have e4 : ¬ (⟨s.toArray⟩ : ByteArray) = ⟨s'.toArray⟩ := fun h => e3 (by injection h with h; simpa using h)
          have e5 : (s == s') = false := by simpa using e3
          clear e3 HQ HF
          go_enter Tryz.func28, Tryz.ntmps28
          go_wp2_with fail
          go_ret
          exact ⟨false, rfl, by simp [HE3.out], by exact zw⟩
      · have HE2 := Lib.hid e2
        have e5 : (u == u') = false := by simpa using e2
        clear e2 HQ HF
        go_enter Tryz.func28, Tryz.ntmps28
        go_wp2_with fail
        go_ret
        exact ⟨false, rfl, by simp [HE2.out], by exact zw⟩
    · have HE1 := Lib.hid e1
      have e5 : (nn == nn') = false := by simpa using e1
      clear e1 HQ HF
      go_enter Tryz.func28, Tryz.ntmps28
      go_wp2_with fail
      go_ret
      exact ⟨false, rfl, by simp [HE1.out], by exact zw⟩
  · have HE0 := Lib.hid e0
    have e5 : (kd == kd') = false := by simpa using e0
    clear e0 HQ HF
    go_enter Tryz.func28, Tryz.ntmps28
    go_wp2_with fail
    go_ret
    exact ⟨false, rfl, by simp [HE0.out], by exact zw⟩
theorem same_any (T : DT) : SameC T := DT.byKids same_step T
end
end Go.Proofs.YtlblddeemkefkaaGreatDoor
