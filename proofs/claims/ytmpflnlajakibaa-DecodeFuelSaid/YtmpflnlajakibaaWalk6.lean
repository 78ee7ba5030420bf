/- The walk of text.find. -/
import Derived.Test.YtmpflnlajakibaaA3
namespace Go.Proofs.Ytmpflnlajakibaa
set_option linter.unusedVariables false
set_option linter.unusedSimpArgs false
open Go.RowKit
theorem cutV_form (b o l k : Nat) : ∃ A, cutV b o l k = .slice A k k := by
  unfold cutV; split
  · rename_i h; subst h; exact ⟨_, rfl⟩
  · exact ⟨_, rfl⟩
theorem counted0_good (b o n cap : Nat) (L : List UInt8) (a k : Nat) (w : World) (D : Doc w b o n cap L) (ha : a ≤ n) (hk : wideB k = true) (hz : cntE L a k 0 = 0) :
    Calls Try.prog 136 #[.slice (some ⟨b, o, none⟩) n cap, .int .i64 a, .int .i64 k, .int .i64 0] w fun e w' => e = .returned (.tuple #[.agg #[.int .i64 a, cutV b o a (cntN L a k)], .int .i64 0]) ∧ Below w.heap.size w w' := by
  have h := counted_any b o n cap L a k 0 w D ha hk (by decide)
  rw [if_pos hz, hz] at h; exact h
theorem counted0_bad (b o n cap : Nat) (L : List UInt8) (a k : Nat) (w : World) (D : Doc w b o n cap L) (ha : a ≤ n) (hk : wideB k = true) (hz : cntE L a k 0 ≠ 0) :
    Calls Try.prog 136 #[.slice (some ⟨b, o, none⟩) n cap, .int .i64 a, .int .i64 k, .int .i64 0] w fun e w' => e = .returned (.tuple #[.agg #[.int .i64 0, .slice none 0 0], .int .i64 (cntE L a k 0)]) ∧ Below w.heap.size w w' := by
  have h := counted_any b o n cap L a k 0 w D ha hk (by decide)
  rw [if_neg hz] at h; exact h
theorem counted1_good (b o n cap : Nat) (L : List UInt8) (a k : Nat) (w : World) (D : Doc w b o n cap L) (ha : a ≤ n) (hk : wideB k = true) (hz : cntE L a k 1 = 0) :
    Calls Try.prog 136 #[.slice (some ⟨b, o, none⟩) n cap, .int .i64 a, .int .i64 k, .int .i64 1] w fun e w' => e = .returned (.tuple #[.agg #[.int .i64 a, cutV b o a (cntN L a k)], .int .i64 0]) ∧ Below w.heap.size w w' := by
  have h := counted_any b o n cap L a k 1 w D ha hk (by decide)
  rw [if_pos hz, hz] at h; exact h
theorem counted1_bad (b o n cap : Nat) (L : List UInt8) (a k : Nat) (w : World) (D : Doc w b o n cap L) (ha : a ≤ n) (hk : wideB k = true) (hz : cntE L a k 1 ≠ 0) :
    Calls Try.prog 136 #[.slice (some ⟨b, o, none⟩) n cap, .int .i64 a, .int .i64 k, .int .i64 1] w fun e w' => e = .returned (.tuple #[.agg #[.int .i64 0, .slice none 0 0], .int .i64 (cntE L a k 1)]) ∧ Below w.heap.size w w' := by
  have h := counted_any b o n cap L a k 1 w D ha hk (by decide)
  rw [if_neg hz] at h; exact h
set_option maxHeartbeats 4000000 in
theorem find_any (b o n cap : Nat) (L : List UInt8) (p q t k : Int) (bt m : Nat) (ts : List Int) (mem : Bool) (w : World) (D : Doc w b o n cap L) (hts : ts.length = m) (hm0 : 0 < m) (hm : m ≤ 8) (hr : ∀ i, i < m → 0 ≤ ts.getD i 0 ∧ ts.getD i 0 < 256)
    (hc : ∀ i, i < m → w.cell? ⟨bt, 0 + i, none⟩ = some (.int .i64 (ts.getD i 0))) (hbt : bt < w.heap.size) (hmem : legalB t = true → (idxB ts t < 0 ↔ mem = false)) :
    Calls Try.prog 112 #[.slice (some ⟨b, o, none⟩) n cap, .agg #[.int .i64 p, .int .i64 q, .int .i64 t, .int .i64 k], .slice (some ⟨bt, 0, none⟩) m m] w fun e w' =>
      e = .returned (.tuple #[.agg #[.int .i64 (findAt L p q t k mem), findV b o L p q t k mem], .int .i64 (findE L p q t k mem)]) ∧ Below w.heap.size w w' := by
  obtain ⟨hn1, hn2⟩ := D.bd
  have hlen := D.len
  have hbw := D.lt
  have Hr := Lib.hid hr; clear hr
  have Hc := Lib.hid hc; clear hc
  have Hm := Lib.hid hmem; clear hmem
  have Hts := Lib.hid hts; clear hts
  by_cases hm1 : mayE n p q t k = 0
  · obtain ⟨h1, h2, h3, h4, h5, h6, h7, h8, h9⟩ := mayE_zero hm1
    obtain ⟨t0, t1⟩ := kindOf_in h1
    have hmem := Hm.out h1
    have hwt : IntKind.u8.wrap t = t := IntWalk.u8_in _ (by omega)
    cases mem
    · have e1 : findE L p q t k false = 60 := by simp [findE, hlen, hm1]
      obtain ⟨e2, e3⟩ := find_bad (b := b) (o := o) e1 (by decide)
      rw [e1, e2, e3]; clear e1 e2 e3 hlen h1 h2 h3
      have hid := hmem.2 rfl
      clear hmem
      go_enter Try.func112, Try.ntmps112
      go_wp2_with ((first | (go_at_call 32; refine (may_any _ _ _ _ L _ _ _ _ _ (D.below zw)).mono ?_) | (go_at_call 69; refine (target_any _ _ _ _ L _ _ _ _ _ (D.below zw)).mono ?_)); rintro e w1 ⟨rfl, hb1⟩; obtain ⟨hc1, hf1, hl1⟩ := bcell hb1; (try simp only [zdz] at hc1 hf1 hl1); have hz1 := hb1.size; (try simp only [zsz] at hz1); (try have g0 : w.heap.size < w1.heap.size := by omega); (try have g1 : w.heap.size + 1 < w1.heap.size := by omega); (try have g2 : w.heap.size + 2 < w1.heap.size := by omega); (try have gb : b < w1.heap.size := by omega); (try have g3 : w.heap.size + 3 < w1.heap.size := by omega); (try have hbb : Below w.heap.size w w1 := zw); (try obtain ⟨hco, hfo, _⟩ := bcell hbb); (try have hb1 := hb1))
      go_region_with (first | (go_at_call 134; refine (asBytes_pos bt 0 m m ts _ Hts.out hm0 hm Hr.out (fun i hi => (Below.cell (w := w) (B := w.heap.size) (p := ⟨bt, 0 + i, none⟩) zw hbt).trans (Hc.out i hi)) (by simp only [World.size_alloc, World.size_setCell, World.size_drew]; omega)).mono ?_; rintro e w1 ⟨g, cg, rfl, hcg, hgg, hb1⟩; obtain ⟨hc1, hf1, hl1⟩ := bcell hb1; (try simp only [World.size_drew, World.cell?_drew, World.frozen?_drew] at hc1 hf1 hl1); have hz1 := hb1.size; simp only [World.size_drew] at hz1; (try have g0 : w.heap.size < w1.heap.size := by omega); (try have g1 : w.heap.size + 1 < w1.heap.size := by omega); (try have g2 : w.heap.size + 2 < w1.heap.size := by omega); (try have gb : b < w1.heap.size := by omega); (try have g3 : w.heap.size + 3 < w1.heap.size := by omega); (try have hbb : Below w.heap.size w w1 := zw); (try obtain ⟨hco, hfo, _⟩ := bcell hbb); (try have hb1 := hb1)) | (go_at_call 133; refine (idx_any _ _ _ ts _ _ Hts.out hcg).mono ?_; rintro e w1 ⟨rfl, rfl⟩))
      clear hwt
      all_goals go_wp2_with (first | (go_at_call 69; refine (target_any _ _ _ _ L _ _ _ _ _ (D.below zw)).mono ?_; rintro e w1 ⟨rfl, hb1⟩; obtain ⟨hc1, hf1, hl1⟩ := bcell hb1; (try simp only [zdz] at hc1 hf1 hl1); have hz1 := hb1.size; (try simp only [zsz] at hz1); (try have g0 : w.heap.size < w1.heap.size := by omega); (try have g1 : w.heap.size + 1 < w1.heap.size := by omega); (try have g2 : w.heap.size + 2 < w1.heap.size := by omega); (try have gb : b < w1.heap.size := by omega); (try have g3 : w.heap.size + 3 < w1.heap.size := by omega); (try have hbb : Below w.heap.size w w1 := zw); (try obtain ⟨hco, hfo, _⟩ := bcell hbb); (try have hb1 := hb1)))
      all_goals (refine bodyPost_ret (v := .tuple #[.agg #[.int .i64 0, .slice none 0 0], .int .i64 60]) (by simp [results, Try.results112, go_sem, *]) rfl ?_)
      all_goals exact ⟨rfl, by exact zw⟩
    · have hid : 0 ≤ idxB ts t := by
        by_cases h : idxB ts t < 0
        · have := hmem.1 h; contradiction
        · omega
      clear hmem
      by_cases ht' : targetE L p q t k ≠ 0
      · have e1 : findE L p q t k true = targetE L p q t k := by simp [findE, hlen, hm1, ht']
        obtain ⟨e2, e3⟩ := find_bad (b := b) (o := o) e1 ht'
        have ht'' : (targetE L p q t k != 0) = true := by simpa using ht'
        rw [e1, e2, e3]; clear e1 e2 e3 hlen h1 h2 h3 ht'
        go_enter Try.func112, Try.ntmps112
        go_wp2_with ((first | (go_at_call 32; refine (may_any _ _ _ _ L _ _ _ _ _ (D.below zw)).mono ?_) | (go_at_call 69; refine (target_any _ _ _ _ L _ _ _ _ _ (D.below zw)).mono ?_)); rintro e w1 ⟨rfl, hb1⟩; obtain ⟨hc1, hf1, hl1⟩ := bcell hb1; (try simp only [zdz] at hc1 hf1 hl1); have hz1 := hb1.size; (try simp only [zsz] at hz1); (try have g0 : w.heap.size < w1.heap.size := by omega); (try have g1 : w.heap.size + 1 < w1.heap.size := by omega); (try have g2 : w.heap.size + 2 < w1.heap.size := by omega); (try have gb : b < w1.heap.size := by omega); (try have g3 : w.heap.size + 3 < w1.heap.size := by omega); (try have hbb : Below w.heap.size w w1 := zw); (try obtain ⟨hco, hfo, _⟩ := bcell hbb); (try have hb1 := hb1))
        go_region_with (first | (go_at_call 134; refine (asBytes_pos bt 0 m m ts _ Hts.out hm0 hm Hr.out (fun i hi => (Below.cell (w := w) (B := w.heap.size) (p := ⟨bt, 0 + i, none⟩) zw hbt).trans (Hc.out i hi)) (by simp only [World.size_alloc, World.size_setCell, World.size_drew]; omega)).mono ?_; rintro e w1 ⟨g, cg, rfl, hcg, hgg, hb1⟩; obtain ⟨hc1, hf1, hl1⟩ := bcell hb1; (try simp only [World.size_drew, World.cell?_drew, World.frozen?_drew] at hc1 hf1 hl1); have hz1 := hb1.size; simp only [World.size_drew] at hz1; (try have g0 : w.heap.size < w1.heap.size := by omega); (try have g1 : w.heap.size + 1 < w1.heap.size := by omega); (try have g2 : w.heap.size + 2 < w1.heap.size := by omega); (try have gb : b < w1.heap.size := by omega); (try have g3 : w.heap.size + 3 < w1.heap.size := by omega); (try have hbb : Below w.heap.size w w1 := zw); (try obtain ⟨hco, hfo, _⟩ := bcell hbb); (try have hb1 := hb1)) | (go_at_call 133; refine (idx_any _ _ _ ts _ _ Hts.out hcg).mono ?_; rintro e w1 ⟨rfl, rfl⟩))
        clear hwt
        all_goals go_wp2_with (first | (go_at_call 69; refine (target_any _ _ _ _ L _ _ _ _ _ (D.below zw)).mono ?_; rintro e w1 ⟨rfl, hb1⟩; obtain ⟨hc1, hf1, hl1⟩ := bcell hb1; (try simp only [zdz] at hc1 hf1 hl1); have hz1 := hb1.size; (try simp only [zsz] at hz1); (try have g0 : w.heap.size < w1.heap.size := by omega); (try have g1 : w.heap.size + 1 < w1.heap.size := by omega); (try have g2 : w.heap.size + 2 < w1.heap.size := by omega); (try have gb : b < w1.heap.size := by omega); (try have g3 : w.heap.size + 3 < w1.heap.size := by omega); (try have hbb : Below w.heap.size w w1 := zw); (try obtain ⟨hco, hfo, _⟩ := bcell hbb); (try have hb1 := hb1)))
        all_goals (refine bodyPost_ret (v := .tuple #[.agg #[.int .i64 0, .slice none 0 0], .int .i64 (targetE L p q t k)]) (by simp [results, Try.results112, go_sem, *]) rfl ?_)
        all_goals exact ⟨rfl, by exact zw⟩
      have ht : targetE L p q t k = 0 := by simpa using ht'
      clear ht'
      obtain ⟨_, hin, hv0, hv1⟩ := targetE_zero ht
      obtain ⟨a, ha⟩ := Int.eq_ofNat_of_zero_le hv0
      have han : a ≤ n := by omega
      obtain ⟨k', rfl⟩ := Int.eq_ofNat_of_zero_le (show 0 ≤ k by omega)
      have hkw : wideB k' = true := h3
      by_cases h4' : t = 4
      · subst h4'
        have hN : findN L p q 4 k' = zeroAt L a - a := by simp [findN, ha]
        by_cases hz : zeroAt L a < n
        · have e1 : findE L p q 4 k' true = 0 := by simp [findE, hlen, hm1, ht, keyE, ha, hz]
          have e2 : findAt L p q 4 k' true = a := by simp [findAt, e1, ha]
          have e3 : findV b o L p q 4 k' true = cutV b o a (zeroAt L a - a) := by simp [findV, e1, ha, hN]
          rw [e1, e2, e3]; clear e1 e2 e3 hlen h1 h2 h3 hN hin hkw
          obtain ⟨A, hA⟩ := cutV_form b o a (zeroAt L a - a)
          go_enter Try.func112, Try.ntmps112
          go_wp2_with ((first | (go_at_call 32; refine (may_any _ _ _ _ L _ _ _ _ _ (D.below zw)).mono ?_) | (go_at_call 69; refine (target_any _ _ _ _ L _ _ _ _ _ (D.below zw)).mono ?_)); rintro e w1 ⟨rfl, hb1⟩; obtain ⟨hc1, hf1, hl1⟩ := bcell hb1; (try simp only [zdz] at hc1 hf1 hl1); have hz1 := hb1.size; (try simp only [zsz] at hz1); (try have g0 : w.heap.size < w1.heap.size := by omega); (try have g1 : w.heap.size + 1 < w1.heap.size := by omega); (try have g2 : w.heap.size + 2 < w1.heap.size := by omega); (try have gb : b < w1.heap.size := by omega); (try have g3 : w.heap.size + 3 < w1.heap.size := by omega); (try have hbb : Below w.heap.size w w1 := zw); (try obtain ⟨hco, hfo, _⟩ := bcell hbb); (try have hb1 := hb1))
          go_region_with (first | (go_at_call 134; refine (asBytes_pos bt 0 m m ts _ Hts.out hm0 hm Hr.out (fun i hi => (Below.cell (w := w) (B := w.heap.size) (p := ⟨bt, 0 + i, none⟩) zw hbt).trans (Hc.out i hi)) (by simp only [World.size_alloc, World.size_setCell, World.size_drew]; omega)).mono ?_; rintro e w1 ⟨g, cg, rfl, hcg, hgg, hb1⟩; obtain ⟨hc1, hf1, hl1⟩ := bcell hb1; (try simp only [World.size_drew, World.cell?_drew, World.frozen?_drew] at hc1 hf1 hl1); have hz1 := hb1.size; simp only [World.size_drew] at hz1; (try have g0 : w.heap.size < w1.heap.size := by omega); (try have g1 : w.heap.size + 1 < w1.heap.size := by omega); (try have g2 : w.heap.size + 2 < w1.heap.size := by omega); (try have gb : b < w1.heap.size := by omega); (try have g3 : w.heap.size + 3 < w1.heap.size := by omega); (try have hbb : Below w.heap.size w w1 := zw); (try obtain ⟨hco, hfo, _⟩ := bcell hbb); (try have hb1 := hb1)) | (go_at_call 133; refine (idx_any _ _ _ ts _ _ Hts.out hcg).mono ?_; rintro e w1 ⟨rfl, rfl⟩))
          clear hwt
          all_goals go_wp2_with ((first | (go_at_call 69; refine (target_any _ _ _ _ L _ _ _ _ _ (D.below zw)).mono ?_) | (go_at_call 135; refine (key_good _ _ _ _ L _ _ (D.below zw) han hz).mono ?_)); rintro e w1 ⟨rfl, hb1⟩; obtain ⟨hc1, hf1, hl1⟩ := bcell hb1; (try simp only [zdz] at hc1 hf1 hl1); have hz1 := hb1.size; (try simp only [zsz] at hz1); (try have g0 : w.heap.size < w1.heap.size := by omega); (try have g1 : w.heap.size + 1 < w1.heap.size := by omega); (try have g2 : w.heap.size + 2 < w1.heap.size := by omega); (try have gb : b < w1.heap.size := by omega); (try have g3 : w.heap.size + 3 < w1.heap.size := by omega); (try have hbb : Below w.heap.size w w1 := zw); (try obtain ⟨hco, hfo, _⟩ := bcell hbb); (try have hb1 := hb1))
          all_goals (refine bodyPost_ret (v := .tuple #[.agg #[.int .i64 a, .slice A (zeroAt L a - a) (zeroAt L a - a)], .int .i64 0]) (by simp [results, Try.results112, go_sem, *]) rfl ?_)
          all_goals exact ⟨by rw [hA], by exact zw⟩
        · have e1 : findE L p q 4 k' true = 213 := by simp [findE, hlen, hm1, ht, keyE, ha, hz]
          obtain ⟨e2, e3⟩ := find_bad (b := b) (o := o) e1 (by decide)
          rw [e1, e2, e3]; clear e1 e2 e3 hlen h1 h2 h3 hN hin hkw
          go_enter Try.func112, Try.ntmps112
          go_wp2_with ((first | (go_at_call 32; refine (may_any _ _ _ _ L _ _ _ _ _ (D.below zw)).mono ?_) | (go_at_call 69; refine (target_any _ _ _ _ L _ _ _ _ _ (D.below zw)).mono ?_)); rintro e w1 ⟨rfl, hb1⟩; obtain ⟨hc1, hf1, hl1⟩ := bcell hb1; (try simp only [zdz] at hc1 hf1 hl1); have hz1 := hb1.size; (try simp only [zsz] at hz1); (try have g0 : w.heap.size < w1.heap.size := by omega); (try have g1 : w.heap.size + 1 < w1.heap.size := by omega); (try have g2 : w.heap.size + 2 < w1.heap.size := by omega); (try have gb : b < w1.heap.size := by omega); (try have g3 : w.heap.size + 3 < w1.heap.size := by omega); (try have hbb : Below w.heap.size w w1 := zw); (try obtain ⟨hco, hfo, _⟩ := bcell hbb); (try have hb1 := hb1))
          go_region_with (first | (go_at_call 134; refine (asBytes_pos bt 0 m m ts _ Hts.out hm0 hm Hr.out (fun i hi => (Below.cell (w := w) (B := w.heap.size) (p := ⟨bt, 0 + i, none⟩) zw hbt).trans (Hc.out i hi)) (by simp only [World.size_alloc, World.size_setCell, World.size_drew]; omega)).mono ?_; rintro e w1 ⟨g, cg, rfl, hcg, hgg, hb1⟩; obtain ⟨hc1, hf1, hl1⟩ := bcell hb1; (try simp only [World.size_drew, World.cell?_drew, World.frozen?_drew] at hc1 hf1 hl1); have hz1 := hb1.size; simp only [World.size_drew] at hz1; (try have g0 : w.heap.size < w1.heap.size := by omega); (try have g1 : w.heap.size + 1 < w1.heap.size := by omega); (try have g2 : w.heap.size + 2 < w1.heap.size := by omega); (try have gb : b < w1.heap.size := by omega); (try have g3 : w.heap.size + 3 < w1.heap.size := by omega); (try have hbb : Below w.heap.size w w1 := zw); (try obtain ⟨hco, hfo, _⟩ := bcell hbb); (try have hb1 := hb1)) | (go_at_call 133; refine (idx_any _ _ _ ts _ _ Hts.out hcg).mono ?_; rintro e w1 ⟨rfl, rfl⟩))
          clear hwt
          all_goals go_wp2_with ((first | (go_at_call 69; refine (target_any _ _ _ _ L _ _ _ _ _ (D.below zw)).mono ?_) | (go_at_call 135; refine (key_bad _ _ _ _ L _ _ (D.below zw) han hz).mono ?_)); rintro e w1 ⟨rfl, hb1⟩; obtain ⟨hc1, hf1, hl1⟩ := bcell hb1; (try simp only [zdz] at hc1 hf1 hl1); have hz1 := hb1.size; (try simp only [zsz] at hz1); (try have g0 : w.heap.size < w1.heap.size := by omega); (try have g1 : w.heap.size + 1 < w1.heap.size := by omega); (try have g2 : w.heap.size + 2 < w1.heap.size := by omega); (try have gb : b < w1.heap.size := by omega); (try have g3 : w.heap.size + 3 < w1.heap.size := by omega); (try have hbb : Below w.heap.size w w1 := zw); (try obtain ⟨hco, hfo, _⟩ := bcell hbb); (try have hb1 := hb1))
          all_goals (refine bodyPost_ret (v := .tuple #[.agg #[.int .i64 0, .slice none 0 0], .int .i64 213]) (by simp [results, Try.results112, go_sem, *]) rfl ?_)
          all_goals exact ⟨rfl, by exact zw⟩
      · have g4 : (t == 4) = false := by simpa using h4'
        have hN : findN L p q t k' = cntN L a k' := by simp [findN, ha, h4']
        by_cases h5' : t = 5
        · subst h5'
          by_cases hz : cntE L a k' 1 = 0
          · have e1 : findE L p q 5 k' true = 0 := by simp [findE, hlen, hm1, ht, ha, hz]
            have e2 : findAt L p q 5 k' true = a := by simp [findAt, e1, ha]
            have e3 : findV b o L p q 5 k' true = cutV b o a (cntN L a k') := by simp [findV, e1, ha, hN]
            rw [e1, e2, e3]; clear e1 e2 e3 hlen h1 h2 h3 hN hin h4'
            obtain ⟨A, hA⟩ := cutV_form b o a (cntN L a k')
            go_enter Try.func112, Try.ntmps112
            go_wp2_with ((first | (go_at_call 32; refine (may_any _ _ _ _ L _ _ _ _ _ (D.below zw)).mono ?_) | (go_at_call 69; refine (target_any _ _ _ _ L _ _ _ _ _ (D.below zw)).mono ?_)); rintro e w1 ⟨rfl, hb1⟩; obtain ⟨hc1, hf1, hl1⟩ := bcell hb1; (try simp only [zdz] at hc1 hf1 hl1); have hz1 := hb1.size; (try simp only [zsz] at hz1); (try have g0 : w.heap.size < w1.heap.size := by omega); (try have g1 : w.heap.size + 1 < w1.heap.size := by omega); (try have g2 : w.heap.size + 2 < w1.heap.size := by omega); (try have gb : b < w1.heap.size := by omega); (try have g3 : w.heap.size + 3 < w1.heap.size := by omega); (try have hbb : Below w.heap.size w w1 := zw); (try obtain ⟨hco, hfo, _⟩ := bcell hbb); (try have hb1 := hb1))
            go_region_with (first | (go_at_call 134; refine (asBytes_pos bt 0 m m ts _ Hts.out hm0 hm Hr.out (fun i hi => (Below.cell (w := w) (B := w.heap.size) (p := ⟨bt, 0 + i, none⟩) zw hbt).trans (Hc.out i hi)) (by simp only [World.size_alloc, World.size_setCell, World.size_drew]; omega)).mono ?_; rintro e w1 ⟨g, cg, rfl, hcg, hgg, hb1⟩; obtain ⟨hc1, hf1, hl1⟩ := bcell hb1; (try simp only [World.size_drew, World.cell?_drew, World.frozen?_drew] at hc1 hf1 hl1); have hz1 := hb1.size; simp only [World.size_drew] at hz1; (try have g0 : w.heap.size < w1.heap.size := by omega); (try have g1 : w.heap.size + 1 < w1.heap.size := by omega); (try have g2 : w.heap.size + 2 < w1.heap.size := by omega); (try have gb : b < w1.heap.size := by omega); (try have g3 : w.heap.size + 3 < w1.heap.size := by omega); (try have hbb : Below w.heap.size w w1 := zw); (try obtain ⟨hco, hfo, _⟩ := bcell hbb); (try have hb1 := hb1)) | (go_at_call 133; refine (idx_any _ _ _ ts _ _ Hts.out hcg).mono ?_; rintro e w1 ⟨rfl, rfl⟩))
            clear hwt
            all_goals go_wp2_with (first | (go_at_call 69; refine (target_any _ _ _ _ L _ _ _ _ _ (D.below zw)).mono ?_; rintro e w1 ⟨rfl, hb1⟩; obtain ⟨hc1, hf1, hl1⟩ := bcell hb1; (try simp only [zdz] at hc1 hf1 hl1); have hz1 := hb1.size; (try simp only [zsz] at hz1); (try have g0 : w.heap.size < w1.heap.size := by omega); (try have g1 : w.heap.size + 1 < w1.heap.size := by omega); (try have g2 : w.heap.size + 2 < w1.heap.size := by omega); (try have gb : b < w1.heap.size := by omega); (try have g3 : w.heap.size + 3 < w1.heap.size := by omega); (try have hbb : Below w.heap.size w w1 := zw); (try obtain ⟨hco, hfo, _⟩ := bcell hbb); (try have hb1 := hb1)) | (go_at_call 136; refine (counted1_good _ _ _ _ L _ _ _ (D.below zw) han hkw hz).mono ?_; rintro e w1 ⟨rfl, hb1⟩; obtain ⟨hc1, hf1, hl1⟩ := bcell hb1; (try simp only [World.size_drew, World.cell?_drew, World.frozen?_drew] at hc1 hf1 hl1); have hz1 := hb1.size; (try simp only [World.size_alloc, World.size_setCell, World.size_drew] at hz1); (try have g0 : w.heap.size < w1.heap.size := by omega); (try have g1 : w.heap.size + 1 < w1.heap.size := by omega); (try have g2 : w.heap.size + 2 < w1.heap.size := by omega); (try have gb : b < w1.heap.size := by omega); (try have g3 : w.heap.size + 3 < w1.heap.size := by omega); (try have hbb : Below w.heap.size w w1 := zw); (try obtain ⟨hco, hfo, _⟩ := bcell hbb); (try have hb1 := hb1)))
            all_goals (refine bodyPost_ret (v := .tuple #[.agg #[.int .i64 a, .slice A (cntN L a k') (cntN L a k')], .int .i64 0]) (by simp [results, Try.results112, go_sem, *]) rfl ?_)
            all_goals exact ⟨by rw [hA], by exact zw⟩
          · have e1 : findE L p q 5 k' true = cntE L a k' 1 := by simp [findE, hlen, hm1, ht, ha]
            obtain ⟨e2, e3⟩ := find_bad (b := b) (o := o) e1 hz
            rw [e1, e2, e3]; clear e1 e2 e3 hlen h1 h2 h3 hN hin h4'
            go_enter Try.func112, Try.ntmps112
            go_wp2_with ((first | (go_at_call 32; refine (may_any _ _ _ _ L _ _ _ _ _ (D.below zw)).mono ?_) | (go_at_call 69; refine (target_any _ _ _ _ L _ _ _ _ _ (D.below zw)).mono ?_)); rintro e w1 ⟨rfl, hb1⟩; obtain ⟨hc1, hf1, hl1⟩ := bcell hb1; (try simp only [zdz] at hc1 hf1 hl1); have hz1 := hb1.size; (try simp only [zsz] at hz1); (try have g0 : w.heap.size < w1.heap.size := by omega); (try have g1 : w.heap.size + 1 < w1.heap.size := by omega); (try have g2 : w.heap.size + 2 < w1.heap.size := by omega); (try have gb : b < w1.heap.size := by omega); (try have g3 : w.heap.size + 3 < w1.heap.size := by omega); (try have hbb : Below w.heap.size w w1 := zw); (try obtain ⟨hco, hfo, _⟩ := bcell hbb); (try have hb1 := hb1))
            go_region_with (first | (go_at_call 134; refine (asBytes_pos bt 0 m m ts _ Hts.out hm0 hm Hr.out (fun i hi => (Below.cell (w := w) (B := w.heap.size) (p := ⟨bt, 0 + i, none⟩) zw hbt).trans (Hc.out i hi)) (by simp only [World.size_alloc, World.size_setCell, World.size_drew]; omega)).mono ?_; rintro e w1 ⟨g, cg, rfl, hcg, hgg, hb1⟩; obtain ⟨hc1, hf1, hl1⟩ := bcell hb1; (try simp only [World.size_drew, World.cell?_drew, World.frozen?_drew] at hc1 hf1 hl1); have hz1 := hb1.size; simp only [World.size_drew] at hz1; (try have g0 : w.heap.size < w1.heap.size := by omega); (try have g1 : w.heap.size + 1 < w1.heap.size := by omega); (try have g2 : w.heap.size + 2 < w1.heap.size := by omega); (try have gb : b < w1.heap.size := by omega); (try have g3 : w.heap.size + 3 < w1.heap.size := by omega); (try have hbb : Below w.heap.size w w1 := zw); (try obtain ⟨hco, hfo, _⟩ := bcell hbb); (try have hb1 := hb1)) | (go_at_call 133; refine (idx_any _ _ _ ts _ _ Hts.out hcg).mono ?_; rintro e w1 ⟨rfl, rfl⟩))
            clear hwt
            all_goals go_wp2_with (first | (go_at_call 69; refine (target_any _ _ _ _ L _ _ _ _ _ (D.below zw)).mono ?_; rintro e w1 ⟨rfl, hb1⟩; obtain ⟨hc1, hf1, hl1⟩ := bcell hb1; (try simp only [zdz] at hc1 hf1 hl1); have hz1 := hb1.size; (try simp only [zsz] at hz1); (try have g0 : w.heap.size < w1.heap.size := by omega); (try have g1 : w.heap.size + 1 < w1.heap.size := by omega); (try have g2 : w.heap.size + 2 < w1.heap.size := by omega); (try have gb : b < w1.heap.size := by omega); (try have g3 : w.heap.size + 3 < w1.heap.size := by omega); (try have hbb : Below w.heap.size w w1 := zw); (try obtain ⟨hco, hfo, _⟩ := bcell hbb); (try have hb1 := hb1)) | (go_at_call 136; refine (counted1_bad _ _ _ _ L _ _ _ (D.below zw) han hkw hz).mono ?_; rintro e w1 ⟨rfl, hb1⟩; obtain ⟨hc1, hf1, hl1⟩ := bcell hb1; (try simp only [World.size_drew, World.cell?_drew, World.frozen?_drew] at hc1 hf1 hl1); have hz1 := hb1.size; (try simp only [World.size_alloc, World.size_setCell, World.size_drew] at hz1); (try have g0 : w.heap.size < w1.heap.size := by omega); (try have g1 : w.heap.size + 1 < w1.heap.size := by omega); (try have g2 : w.heap.size + 2 < w1.heap.size := by omega); (try have gb : b < w1.heap.size := by omega); (try have g3 : w.heap.size + 3 < w1.heap.size := by omega); (try have hbb : Below w.heap.size w w1 := zw); (try obtain ⟨hco, hfo, _⟩ := bcell hbb); (try have hb1 := hb1)))
            all_goals (refine bodyPost_ret (v := .tuple #[.agg #[.int .i64 0, .slice none 0 0], .int .i64 (cntE L a k' 1)]) (by simp [results, Try.results112, go_sem, *]) rfl ?_)
            all_goals exact ⟨rfl, by exact zw⟩
        · have g5 : (t == 5) = false := by simpa using h5'
          by_cases hz : cntE L a k' 0 = 0
          · have e1 : findE L p q t k' true = 0 := by simp [findE, hlen, hm1, ht, ha, hz, h4', h5']
            have e2 : findAt L p q t k' true = a := by simp [findAt, e1, ha]
            have e3 : findV b o L p q t k' true = cutV b o a (cntN L a k') := by simp [findV, e1, ha, hN]
            rw [e1, e2, e3]; clear e1 e2 e3 hlen h1 h2 h3 hN hin h4' h5'
            obtain ⟨A, hA⟩ := cutV_form b o a (cntN L a k')
            go_enter Try.func112, Try.ntmps112
            go_wp2_with ((first | (go_at_call 32; refine (may_any _ _ _ _ L _ _ _ _ _ (D.below zw)).mono ?_) | (go_at_call 69; refine (target_any _ _ _ _ L _ _ _ _ _ (D.below zw)).mono ?_)); rintro e w1 ⟨rfl, hb1⟩; obtain ⟨hc1, hf1, hl1⟩ := bcell hb1; (try simp only [zdz] at hc1 hf1 hl1); have hz1 := hb1.size; (try simp only [zsz] at hz1); (try have g0 : w.heap.size < w1.heap.size := by omega); (try have g1 : w.heap.size + 1 < w1.heap.size := by omega); (try have g2 : w.heap.size + 2 < w1.heap.size := by omega); (try have gb : b < w1.heap.size := by omega); (try have g3 : w.heap.size + 3 < w1.heap.size := by omega); (try have hbb : Below w.heap.size w w1 := zw); (try obtain ⟨hco, hfo, _⟩ := bcell hbb); (try have hb1 := hb1))
            go_region_with (first | (go_at_call 134; refine (asBytes_pos bt 0 m m ts _ Hts.out hm0 hm Hr.out (fun i hi => (Below.cell (w := w) (B := w.heap.size) (p := ⟨bt, 0 + i, none⟩) zw hbt).trans (Hc.out i hi)) (by simp only [World.size_alloc, World.size_setCell, World.size_drew]; omega)).mono ?_; rintro e w1 ⟨g, cg, rfl, hcg, hgg, hb1⟩; obtain ⟨hc1, hf1, hl1⟩ := bcell hb1; (try simp only [World.size_drew, World.cell?_drew, World.frozen?_drew] at hc1 hf1 hl1); have hz1 := hb1.size; simp only [World.size_drew] at hz1; (try have g0 : w.heap.size < w1.heap.size := by omega); (try have g1 : w.heap.size + 1 < w1.heap.size := by omega); (try have g2 : w.heap.size + 2 < w1.heap.size := by omega); (try have gb : b < w1.heap.size := by omega); (try have g3 : w.heap.size + 3 < w1.heap.size := by omega); (try have hbb : Below w.heap.size w w1 := zw); (try obtain ⟨hco, hfo, _⟩ := bcell hbb); (try have hb1 := hb1)) | (go_at_call 133; refine (idx_any _ _ _ ts _ _ Hts.out hcg).mono ?_; rintro e w1 ⟨rfl, rfl⟩))
            clear hwt
            all_goals go_wp2_with (first | (go_at_call 69; refine (target_any _ _ _ _ L _ _ _ _ _ (D.below zw)).mono ?_; rintro e w1 ⟨rfl, hb1⟩; obtain ⟨hc1, hf1, hl1⟩ := bcell hb1; (try simp only [zdz] at hc1 hf1 hl1); have hz1 := hb1.size; (try simp only [zsz] at hz1); (try have g0 : w.heap.size < w1.heap.size := by omega); (try have g1 : w.heap.size + 1 < w1.heap.size := by omega); (try have g2 : w.heap.size + 2 < w1.heap.size := by omega); (try have gb : b < w1.heap.size := by omega); (try have g3 : w.heap.size + 3 < w1.heap.size := by omega); (try have hbb : Below w.heap.size w w1 := zw); (try obtain ⟨hco, hfo, _⟩ := bcell hbb); (try have hb1 := hb1)) | (go_at_call 136; refine (counted0_good _ _ _ _ L _ _ _ (D.below zw) han hkw hz).mono ?_; rintro e w1 ⟨rfl, hb1⟩; obtain ⟨hc1, hf1, hl1⟩ := bcell hb1; (try simp only [World.size_drew, World.cell?_drew, World.frozen?_drew] at hc1 hf1 hl1); have hz1 := hb1.size; (try simp only [World.size_alloc, World.size_setCell, World.size_drew] at hz1); (try have g0 : w.heap.size < w1.heap.size := by omega); (try have g1 : w.heap.size + 1 < w1.heap.size := by omega); (try have g2 : w.heap.size + 2 < w1.heap.size := by omega); (try have gb : b < w1.heap.size := by omega); (try have g3 : w.heap.size + 3 < w1.heap.size := by omega); (try have hbb : Below w.heap.size w w1 := zw); (try obtain ⟨hco, hfo, _⟩ := bcell hbb); (try have hb1 := hb1)))
            all_goals (refine bodyPost_ret (v := .tuple #[.agg #[.int .i64 a, .slice A (cntN L a k') (cntN L a k')], .int .i64 0]) (by simp [results, Try.results112, go_sem, *]) rfl ?_)
            all_goals exact ⟨by rw [hA], by exact zw⟩
          · have e1 : findE L p q t k' true = cntE L a k' 0 := by simp [findE, hlen, hm1, ht, ha, h4', h5']
            obtain ⟨e2, e3⟩ := find_bad (b := b) (o := o) e1 hz
            rw [e1, e2, e3]; clear e1 e2 e3 hlen h1 h2 h3 hN hin h4' h5'
            go_enter Try.func112, Try.ntmps112
            go_wp2_with ((first | (go_at_call 32; refine (may_any _ _ _ _ L _ _ _ _ _ (D.below zw)).mono ?_) | (go_at_call 69; refine (target_any _ _ _ _ L _ _ _ _ _ (D.below zw)).mono ?_)); rintro e w1 ⟨rfl, hb1⟩; obtain ⟨hc1, hf1, hl1⟩ := bcell hb1; (try simp only [zdz] at hc1 hf1 hl1); have hz1 := hb1.size; (try simp only [zsz] at hz1); (try have g0 : w.heap.size < w1.heap.size := by omega); (try have g1 : w.heap.size + 1 < w1.heap.size := by omega); (try have g2 : w.heap.size + 2 < w1.heap.size := by omega); (try have gb : b < w1.heap.size := by omega); (try have g3 : w.heap.size + 3 < w1.heap.size := by omega); (try have hbb : Below w.heap.size w w1 := zw); (try obtain ⟨hco, hfo, _⟩ := bcell hbb); (try have hb1 := hb1))
            go_region_with (first | (go_at_call 134; refine (asBytes_pos bt 0 m m ts _ Hts.out hm0 hm Hr.out (fun i hi => (Below.cell (w := w) (B := w.heap.size) (p := ⟨bt, 0 + i, none⟩) zw hbt).trans (Hc.out i hi)) (by simp only [World.size_alloc, World.size_setCell, World.size_drew]; omega)).mono ?_; rintro e w1 ⟨g, cg, rfl, hcg, hgg, hb1⟩; obtain ⟨hc1, hf1, hl1⟩ := bcell hb1; (try simp only [World.size_drew, World.cell?_drew, World.frozen?_drew] at hc1 hf1 hl1); have hz1 := hb1.size; simp only [World.size_drew] at hz1; (try have g0 : w.heap.size < w1.heap.size := by omega); (try have g1 : w.heap.size + 1 < w1.heap.size := by omega); (try have g2 : w.heap.size + 2 < w1.heap.size := by omega); (try have gb : b < w1.heap.size := by omega); (try have g3 : w.heap.size + 3 < w1.heap.size := by omega); (try have hbb : Below w.heap.size w w1 := zw); (try obtain ⟨hco, hfo, _⟩ := bcell hbb); (try have hb1 := hb1)) | (go_at_call 133; refine (idx_any _ _ _ ts _ _ Hts.out hcg).mono ?_; rintro e w1 ⟨rfl, rfl⟩))
            clear hwt
            all_goals go_wp2_with (first | (go_at_call 69; refine (target_any _ _ _ _ L _ _ _ _ _ (D.below zw)).mono ?_; rintro e w1 ⟨rfl, hb1⟩; obtain ⟨hc1, hf1, hl1⟩ := bcell hb1; (try simp only [zdz] at hc1 hf1 hl1); have hz1 := hb1.size; (try simp only [zsz] at hz1); (try have g0 : w.heap.size < w1.heap.size := by omega); (try have g1 : w.heap.size + 1 < w1.heap.size := by omega); (try have g2 : w.heap.size + 2 < w1.heap.size := by omega); (try have gb : b < w1.heap.size := by omega); (try have g3 : w.heap.size + 3 < w1.heap.size := by omega); (try have hbb : Below w.heap.size w w1 := zw); (try obtain ⟨hco, hfo, _⟩ := bcell hbb); (try have hb1 := hb1)) | (go_at_call 136; refine (counted0_bad _ _ _ _ L _ _ _ (D.below zw) han hkw hz).mono ?_; rintro e w1 ⟨rfl, hb1⟩; obtain ⟨hc1, hf1, hl1⟩ := bcell hb1; (try simp only [World.size_drew, World.cell?_drew, World.frozen?_drew] at hc1 hf1 hl1); have hz1 := hb1.size; (try simp only [World.size_alloc, World.size_setCell, World.size_drew] at hz1); (try have g0 : w.heap.size < w1.heap.size := by omega); (try have g1 : w.heap.size + 1 < w1.heap.size := by omega); (try have g2 : w.heap.size + 2 < w1.heap.size := by omega); (try have gb : b < w1.heap.size := by omega); (try have g3 : w.heap.size + 3 < w1.heap.size := by omega); (try have hbb : Below w.heap.size w w1 := zw); (try obtain ⟨hco, hfo, _⟩ := bcell hbb); (try have hb1 := hb1)))
            all_goals (refine bodyPost_ret (v := .tuple #[.agg #[.int .i64 0, .slice none 0 0], .int .i64 (cntE L a k' 0)]) (by simp [results, Try.results112, go_sem, *]) rfl ?_)
            all_goals exact ⟨rfl, by exact zw⟩
  · have e1 : findE L p q t k mem = mayE n p q t k := by simp [findE, hlen, hm1]
    obtain ⟨e2, e3⟩ := find_bad (b := b) (o := o) e1 hm1
    have hm' : (mayE n p q t k != 0) = true := by simpa using hm1
    rw [e1, e2, e3]; clear e1 e2 e3 hlen hm1
    go_enter Try.func112, Try.ntmps112
    go_wp2_with ((first | (go_at_call 32; refine (may_any _ _ _ _ L _ _ _ _ _ (D.below zw)).mono ?_) | (go_at_call 69; refine (target_any _ _ _ _ L _ _ _ _ _ (D.below zw)).mono ?_)); rintro e w1 ⟨rfl, hb1⟩; obtain ⟨hc1, hf1, hl1⟩ := bcell hb1; (try simp only [zdz] at hc1 hf1 hl1); have hz1 := hb1.size; (try simp only [zsz] at hz1); (try have g0 : w.heap.size < w1.heap.size := by omega); (try have g1 : w.heap.size + 1 < w1.heap.size := by omega); (try have g2 : w.heap.size + 2 < w1.heap.size := by omega); (try have gb : b < w1.heap.size := by omega); (try have g3 : w.heap.size + 3 < w1.heap.size := by omega); (try have hbb : Below w.heap.size w w1 := zw); (try obtain ⟨hco, hfo, _⟩ := bcell hbb); (try have hb1 := hb1))
    (refine bodyPost_ret (v := .tuple #[.agg #[.int .i64 0, .slice none 0 0], .int .i64 (mayE n p q t k)]) (by simp [results, Try.results112, go_sem, *]) rfl ?_)
    exact ⟨rfl, by exact zw⟩
end Go.Proofs.Ytmpflnlajakibaa
