/- The walks of the reference's Leads and Get: written by wip/gen/ra.py. -/
import Derived.Test.YtlblddeemkefkaaGreatDoorSu
namespace Go.Proofs.YtlblddeemkefkaaGreatDoor
set_option linter.unusedVariables false
set_option linter.unusedSimpArgs false
section
open Go.RowKit
set_option maxRecDepth 100000 in
set_option maxHeartbeats 8000000 in
theorem rleads_any (kd nn u : Int) (t : List UInt8) (ks : List (List UInt8)) (l : List DT) (key : List UInt8) (at_ : Int) (by_ : Bool) (w : World) (x0 x1 x2 x3 x4 x5 : Value) (hx : RRep w (.mk kd nn u t ks l) [x0, x1, x2, x3, x4, x5]) :
    Calls Tryz.prog 57 #[.agg #[x0, x1, x2, x3, x4, x5], .agg #[strV key, .int .i64 at_, .bool by_]] w fun e w' => e = .returned (.int .i64 (leadsD (.mk kd nn u t ks l) (key, at_, by_))) ∧ Below w.heap.size w w' := by
  obtain ⟨A1, c1, A2, c2, xs, hcs, hk, hl, hkids⟩ := hx.form
  simp only [List.cons.injEq, and_true] at hcs
  obtain ⟨rfl, rfl, rfl, rfl, rfl, rfl⟩ := hcs
  have hbl := hl.bound
  have hbk := hk.bound
  have HK := Lib.hid hk
  clear hx hk hl hkids
  obtain ⟨r, hr⟩ : ∃ r, r = leadsD (.mk kd nn u t ks l) (key, at_, by_) := ⟨_, rfl⟩
  rw [← hr]
  unfold strV
  cases by_ with
  | false =>
    have hr2 : r = if at_ < 0 ∨ (l.length : Int) ≤ at_ then -1 else at_ := by rw [hr]; rfl
    clear HK hbk hr
    generalize l.length = m at *
    by_cases h0 : at_ < 0
    · obtain rfl : r = -1 := by rw [hr2, if_pos (.inl h0)]
      have h0' : ¬ (0 : Int) ≤ at_ := by omega
      clear hr2
      go_enter Tryz.func57, Tryz.ntmps57
      go_wp2_with fail
      go_ret
      exact ⟨rfl, by exact zw⟩
    · have h0' : (0 : Int) ≤ at_ := by omega
      by_cases h1 : (m : Int) ≤ at_
      · obtain rfl : r = -1 := by rw [hr2, if_pos (.inr h1)]
        have h1' : ¬ at_ < (m : Int) := by omega
        clear hr2
        go_enter Tryz.func57, Tryz.ntmps57
        go_wp2_with fail
        go_ret
        exact ⟨rfl, by exact zw⟩
      · obtain rfl : r = at_ := by rw [hr2, if_neg (by omega)]
        have h1' : r < (m : Int) := by omega
        clear hr2
        go_enter Tryz.func57, Tryz.ntmps57
        go_wp2_with fail
        go_ret
        exact ⟨rfl, by exact zw⟩
  | true =>
    obtain ⟨n, hn⟩ : ∃ n, n = ks.length := ⟨_, rfl⟩
    rw [← hn] at hbk ⊢
    have HN := Lib.hid hn
    obtain ⟨m, hm⟩ : ∃ m, m = l.length := ⟨_, rfl⟩
    rw [← hm] at hbl ⊢
    by_cases hkd : kd = 17
    · have hr2 : r = if idxK ks key < 0 ∨ (m : Int) ≤ idxK ks key then -1 else idxK ks key := by rw [hr, hm, hkd]; rfl
      have HRR := Lib.hid hr2
      subst hkd
      clear hr2 hr hn hm
      go_enter Tryz.func57, Tryz.ntmps57
      go_upto_region 5 with fail
      refine wp_named (fun wn => Below w.heap.size w wn ∧ wn.heap[w.heap.size]? = some (.cells #[.int .i64 17, .int .i64 nn, .int .u64 u, .string ⟨t.toArray⟩, .slice A1 n c1, .slice A2 m c2] 38 (0, 0)) ∧ wn.heap[w.heap.size + 1]? = some (.cells #[.string ⟨key.toArray⟩, .int .i64 at_, .bool true] 50 (0, 0))) ⟨by exact zw, ?_, ?_⟩ ?_
      · exact (Below.heap_alloc _ _ _ (by simp)).trans (heap_alloc_new _ _)
      · have := heap_alloc_new (w.alloc (.cells #[.int .i64 17, .int .i64 nn, .int .u64 u, .string ⟨t.toArray⟩, .slice A1 n c1, .slice A2 m c2] 38)) (.cells #[.string ⟨key.toArray⟩, .int .i64 at_, .bool true] 50)
        rw [World.size_alloc] at this
        exact this
      rintro wn ⟨hbn, hXn, hYn⟩
      have HBn := Lib.hid hbn
      have HXn := Lib.hid hXn
      have HYn := Lib.hid hYn
      clear hbn hXn hYn
      go_wp2_with fail
      go_loopw [5] (fun i wr => ∃ k : Nat, k ≤ n ∧ i = .int .i64 k ∧ Hid (key ∉ ks.take k) ∧ Below wn.heap.size wn wr) (fun i _ => n - (intOf i).toNat)
      case atStart => exact ⟨0, by omega, rfl, Lib.hid (by simp), Below.refl _ _⟩
      case round =>
        rename_i wr
        obtain ⟨k, hk, rfl, hF, hb⟩ := hrel
        have hXr := below_row HXn.out hb
        have hYr := below_row HYn.out hb
        obtain ⟨z0, z1, z2, z3, z4, z5⟩ := cells6 hXr
        have y0 : wr.cell? ⟨w.heap.size + 1, 0, none⟩ = some (.string ⟨key.toArray⟩) := cell_of_row _ _ _ _ _ _ hYr
        have HBW := Lib.hid (HBn.out.trans (hb.mono HBn.out.size))
        have HB := Lib.hid hb
        by_cases h1 : k < n
        · have h1' : (k : Int) < (n : Int) := by omega
          have hkl : k < ks.length := by rw [← HN.out]; exact h1
          have hRd : Rd w (.slice A1 n c1) 1 ks.length (ks.map strV) := by
            have := HK.out
            have e := HN.out
            rw [← e] at this ⊢
            exact this
          obtain ⟨b, o, rfl, hblt, hblr, hcell⟩ := hRd.text HBW.out k hkl
          by_cases e1 : key = ks[k]
          · have hidx : idxK ks key = k := idx_here hkl e1.symm hF.out
            rw [← e1] at hcell
            have hee : (key == key) = true := beq_self_eq_true _
            by_cases h2 : (k : Int) < (m : Int)
            · have HFIN := Lib.hid (show r = k by rw [HRR.out, hidx, if_neg (by omega)])
              clear hRd hb e1 hkl hidx hXr hYr HRR
              go_wp2_with (first | fail | go_region)
              go_ret
              exact ⟨by rw [HFIN.out]; rfl, HBW.out.drew⟩
            · have HFIN := Lib.hid (show r = -1 by rw [HRR.out, hidx, if_pos (.inr (by omega))])
              clear hRd hb e1 hkl hidx hXr hYr HRR
              go_wp2_with (first | fail | go_region)
              go_ret
              exact ⟨by rw [HFIN.out]; rfl, HBW.out.drew⟩
          · have HF2 := Lib.hid (show key ∉ ks.take (k + 1) by
              rw [List.take_succ_eq_append_getElem hkl, List.mem_append, List.mem_singleton]
              rintro (h | h)
              · exact hF.out h
              · exact e1 h)
            generalize ks[k] = x at *
            have e3 : (x == key) = false := by simpa using fun h : x = key => e1 h.symm
            have e4 : ¬ x = key := fun h => e1 h.symm
            clear e1 hRd hb hkl hF hXr hYr
            go_wp2_with (first | fail | go_region)
            go_roundw
            case rel => exact ⟨k + 1, by omega, by go_num, HF2, HB.out.drew⟩
            case measure => simp only [intOf]; omega
        · have h1' : ¬ (k : Int) < (n : Int) := by omega
          have HFIN := Lib.hid (show r = -1 by
            rw [HRR.out]
            have : idxK ks key = -1 := by
              unfold idxK
              rw [if_neg]
              have := hF.out
              rwa [List.take_of_length_le (by rw [← HN.out]; omega)] at this
            rw [this, if_pos (.inl (by omega))])
          clear hb hF hXr hYr HRR
          go_wp2_with fail
          go_ret
          exact ⟨by rw [HFIN.out]; rfl, HBW.out⟩
    · obtain rfl : r = -1 := by
        rw [hr]
        show (if leadsI (.mk kd nn u t ks l) (key, at_, true) < 0 ∨ _ then (-1 : Int) else _) = -1
        have : leadsI (.mk kd nn u t ks l) (key, at_, true) = -1 := by simp [leadsI, hkd]
        rw [this, if_pos (.inl (by omega))]
      have e1 : (kd == 17) = false := by simp [hkd]
      clear hr HK HN hn hm hkd
      go_enter Tryz.func57, Tryz.ntmps57
      go_upto_region 5 with fail
      refine wp_named (fun wn => Below w.heap.size w wn ∧ wn.heap[w.heap.size]? = some (.cells #[.int .i64 kd, .int .i64 nn, .int .u64 u, .string ⟨t.toArray⟩, .slice A1 n c1, .slice A2 m c2] 38 (0, 0))) ⟨by exact zw, ?_⟩ ?_
      · exact (Below.heap_alloc _ _ _ (by simp)).trans (heap_alloc_new _ _)
      rintro wn ⟨hbn, hXn⟩
      obtain ⟨z0, z1, z2, z3, z4, z5⟩ := cells6 hXn
      have HBn := Lib.hid hbn
      clear hbn hXn
      go_wp2_with fail
      go_loopw [5] (fun i wr => i = .int .i64 0 ∧ wr = wn) (fun i _ => 0)
      case atStart => exact ⟨rfl, rfl⟩
      case round =>
        rename_i wr
        obtain ⟨rfl, rfl⟩ := hrel
        by_cases h1 : (0 : Int) < (n : Int)
        · go_wp2_with fail
          go_ret
          exact ⟨rfl, HBn.out⟩
        · go_wp2_with fail
          go_ret
          exact ⟨rfl, HBn.out⟩
end
end Go.Proofs.YtlblddeemkefkaaGreatDoor
