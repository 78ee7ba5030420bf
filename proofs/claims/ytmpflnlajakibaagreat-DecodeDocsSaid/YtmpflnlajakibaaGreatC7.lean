/- The walks of the reference's Str and Blob. The kinds. -/
import Derived.Test.YtmpflnlajakibaaGreatC6
import Derived.Test.YtmpflnlajakibaaGreatRef7
namespace Go.Proofs.YtmpflnlajakibaaGreat
set_option linter.unusedVariables false
set_option linter.unusedSimpArgs false
set_option linter.unusedSectionVars false
open Go.RowKit
theorem cntE_facts {L : List UInt8} {a k z : Nat} (h : cntE L a k z = 0) : a % k = 0 ∧ ¬ a < k ∧ cntN L a k ≤ L.length ∧ a + cntN L a k + z ≤ L.length ∧ (z = 1 → L.getD (a + cntN L a k) 0 = 0) := by
  unfold cntE at h
  split at h
  · omega
  · split at h
    · omega
    · split at h
      · omega
      · split at h
        · omega
        · rename_i h1 h2 h3 h4
          refine ⟨by omega, h2, by omega, by omega, fun hz => ?_⟩
          by_cases h5 : L.getD (a + cntN L a k) 0 = 0
          · exact h5
          · exact absurd ⟨hz, h5⟩ h4
section
variable (b o n cap : Nat) (L : List UInt8) (w : World)
set_option maxHeartbeats 4000000 in
theorem rtplace_ok (p q t k : Int) (D : Doc w b o n cap L) (ht5 : t = 5 ∨ t = 25) (hf : findE L p q t k true = 0) :
    Calls Tryz.prog 91 #[.slice (some ⟨b, o, none⟩) n cap, .agg #[.int .i64 p, .int .i64 q, .int .i64 t, .int .i64 k]] w fun e w' =>
      e = .returned (.tuple #[.int .i64 (targetV L p q t k), .int .i64 (findN L p q t k), .int .i64 0]) ∧ Below w.heap.size w w' := by
  obtain ⟨hn1, hn2⟩ := D.bd
  have hlen := D.len
  have hbw := D.lt
  obtain ⟨ht, -, -⟩ := findE_zero hf
  obtain ⟨hm, -, g1, g2⟩ := targetE_zero ht
  rw [hlen] at hm
  obtain ⟨m1, m2, m3, m4, m5, m6, m7, m8, m9⟩ := mayE_zero hm
  obtain ⟨a, ha⟩ := Int.eq_ofNat_of_zero_le g1
  obtain ⟨kk, rfl⟩ := Int.eq_ofNat_of_zero_le (show 0 ≤ k by omega)
  have h4 : t ≠ 4 := by omega
  have hf2 : cntE L a kk (if t = 5 then 1 else 0) = 0 := by
    rw [← hf]; simp [findE, hlen, hm, ht, ha, h4]
  have hN : findN L p q t kk = cntN L a kk := by simp [findN, h4, ha]
  obtain ⟨c1, c2, c3, c4, c5⟩ := cntE_facts hf2
  rw [hlen] at c3 c4
  have hT := Lib.hid (fun W (hW : Doc W b o n cap L) => rtarget_any b o n cap L p q t kk W hW)
  have hM := Lib.hid (fun W (hW : Doc W b o n cap L) => rmay_any b o n cap L p q t kk W hW)
  rw [ht, ha] at hT
  rw [hm] at hM
  rw [hN, ha]
  have hal : ((a : Int) % kk != 0) = false := by
    simp only [bne_eq_false_iff_eq]; rw [← Int.natCast_emod]; omega
  have hv : loadV L ((a : Int) - kk) kk = cntN L a kk := by
    have := loadV_nonneg L ((a : Int) - kk) kk
    unfold cntN; omega
  have hL := Lib.hid (fun W (hW : Doc W b o n cap L) => rload_any b o n cap L ((a : Int) - kk) kk W hW)
  rw [hv] at hL
  have he : loadE L ((a : Int) - kk) kk = 0 := loadE_zero m3 (by omega) (by rw [hlen]; omega)
  rw [he] at hL
  have hby := fun (h : t = 5) => D.byte (a + cntN L a kk) (by rw [if_pos h] at c4; omega)
  clear hf hf2 hN ht hm he hv
  generalize cntN L a kk = v at *
  have hwl : IntKind.u64.wrap ((n : Int) - a) = n - a := IntWalk.u64_in _ (by omega)
  have hcv : IntKind.i64.wrap (v : Int) = v := IntWalk.i64_in _ (by omega)
  have h3' : ¬ (n : Int) - a < v := by omega
  have hak : ¬ (a : Int) < kk := by omega
  rcases ht5 with rfl | rfl
  · have hwm : IntKind.u64.wrap ((v : Int) + 1) = v + 1 := IntWalk.u64_in _ (by omega)
    rw [if_pos rfl] at c4
    have h4' : ¬ (n : Int) - a < v + 1 := by omega
    have hby := hby rfl
    rw [c5 rfl] at hby
    have hby' : w.cell? ⟨b, o + (a + v), none⟩ = some (.int .u8 0) := hby
    have hwa : IntKind.i64.wrap ((a : Int) + v) = a + v := IntWalk.i64_in _ (by omega)
    have b0 : (0 : Int) ≤ (a : Int) + v := by omega
    have b1 : (a : Int) + v < n := by omega
    have b2 : ((a : Int) + v).toNat = a + v := by omega
    clear hby c1 c2 c3 c4 c5 ha g1 g2 hlen
    go_enter Tryz.func91, Tryz.ntmps91
    go_wp2_with (first | ((first | (go_at_call 16; refine (hM.out _ (D.below zw)).mono ?_) | (go_at_call 104; refine (hT.out _ (D.below zw)).mono ?_)); rintro e w1 ⟨rfl, hb1⟩; obtain ⟨hc1, hf1, hl1⟩ := bcell hb1; (try simp only [zdz] at hc1 hf1 hl1); have hz1 := hb1.size; (try simp only [zsz] at hz1); (try have g0 : w.heap.size < w1.heap.size := by omega); (try have g1 : w.heap.size + 1 < w1.heap.size := by omega); (try have g2 : w.heap.size + 2 < w1.heap.size := by omega); (try have gb : b < w1.heap.size := by omega); (try have g3 : w.heap.size + 3 < w1.heap.size := by omega); (try have hbb : Below w.heap.size w w1 := zw); (try obtain ⟨hco, hfo, _⟩ := bcell hbb); (try have hb1 := hb1)) | (go_at_call 65; refine (hL.out _ (D.below zw)).mono ?_; rintro e w1 ⟨rfl, rfl⟩))
    go_returns
    exact ⟨rfl, by exact zw⟩
  · have hwm : IntKind.u64.wrap ((v : Int) + 0) = v := IntWalk.u64_in _ (by omega)
    clear hby c1 c2 c3 c4 c5 ha g1 g2 hlen
    go_enter Tryz.func91, Tryz.ntmps91
    go_wp2_with (first | ((first | (go_at_call 16; refine (hM.out _ (D.below zw)).mono ?_) | (go_at_call 104; refine (hT.out _ (D.below zw)).mono ?_)); rintro e w1 ⟨rfl, hb1⟩; obtain ⟨hc1, hf1, hl1⟩ := bcell hb1; (try simp only [zdz] at hc1 hf1 hl1); have hz1 := hb1.size; (try simp only [zsz] at hz1); (try have g0 : w.heap.size < w1.heap.size := by omega); (try have g1 : w.heap.size + 1 < w1.heap.size := by omega); (try have g2 : w.heap.size + 2 < w1.heap.size := by omega); (try have gb : b < w1.heap.size := by omega); (try have g3 : w.heap.size + 3 < w1.heap.size := by omega); (try have hbb : Below w.heap.size w w1 := zw); (try obtain ⟨hco, hfo, _⟩ := bcell hbb); (try have hb1 := hb1)) | (go_at_call 65; refine (hL.out _ (D.below zw)).mono ?_; rintro e w1 ⟨rfl, rfl⟩))
    go_returns
    exact ⟨rfl, by exact zw⟩
set_option maxHeartbeats 4000000 in
theorem rof_any (p q t k : Int) (D : Doc w b o n cap L) (ht5 : t = 5 ∨ t = 25) :
    Calls Tryz.prog 68 #[.slice (some ⟨b, o, none⟩) n cap, .agg #[.int .i64 p, .int .i64 q, .int .i64 t, .int .i64 k], .int .i64 t, .int .i64 t] w fun e w' =>
      e = .returned (.tuple #[strV (findS L p q t k true), .int .i64 (findE L p q t k true)]) ∧ Below w.heap.size w w' := by
  obtain ⟨hn1, hn2⟩ := D.bd
  have hlen := D.len
  have hbw := D.lt
  have hle := D.le
  by_cases hf : findE L p q t k true = 0
  · obtain ⟨ht, f2, f3⟩ := findE_zero hf
    obtain ⟨hm, -, g1, g2⟩ := targetE_zero ht
    rw [hlen] at hm
    obtain ⟨a, ha⟩ := Int.eq_ofNat_of_zero_le g1
    have e2 : findS L p q t k true = window L a (findN L p q t k) := by unfold findS; rw [if_pos hf, ha]; rfl
    have hP := Lib.hid (fun W (hW : Doc W b o n cap L) => rtplace_ok b o n cap L W p q t k hW ht5 hf)
    have hM := Lib.hid (fun W (hW : Doc W b o n cap L) => rmay_any b o n cap L p q t k W hW)
    rw [hm] at hM
    rw [ha] at hP
    rw [e2, hf]
    rw [ha] at f2 g2
    obtain ⟨m1, m2, m3, m4, m5, m6, m7, m8, m9⟩ := mayE_zero hm
    have han : a < n := by omega
    generalize findN L p q t k = v at *
    have f2' : a + v ≤ n := by rw [← hlen]; exact f2
    have Hc := Lib.hid (fun W (hW : Doc W b o n cap L) c => conv_part b o n cap L W hW a v c f2')
    have hsl : ∀ W : World, (Instr.slice 22 (.slice (some ⟨b, o, none⟩) n cap) (some (.int .i64 a)) (some (.int .i64 ((a : Int) + v))) none).run Tryz.prog W = .ok (.slice (some ⟨b, o + a, none⟩) v (cap - a)) W := fun W => by
      rw [slice_run b o n cap _ _ a (a + v) (by omega) (by omega) (by omega) (by omega), if_neg (by omega), Nat.add_sub_cancel_left]
    have hwr : IntKind.i64.wrap ((a : Int) + v) = a + v := IntWalk.i64_in _ (by omega)
    clear e2 hf hlen f2 f3 ht ha g1 g2 hm m1 m2 m3 m4 m5 m6 m7 m8 m9
    rcases ht5 with rfl | rfl
    all_goals go_enter Tryz.func68, Tryz.ntmps68
    all_goals go_wp2_with (first | (go_at_call 16; refine (hM.out _ (D.below zw)).mono ?_; rintro e w1 ⟨rfl, hb1⟩; obtain ⟨hc1, hf1, hl1⟩ := bcell hb1; (try simp only [zdz] at hc1 hf1 hl1); have hz1 := hb1.size; (try simp only [zsz] at hz1); (try have g0 : w.heap.size < w1.heap.size := by omega); (try have g1 : w.heap.size + 1 < w1.heap.size := by omega); (try have g2 : w.heap.size + 2 < w1.heap.size := by omega); (try have gb : b < w1.heap.size := by omega); (try have g3 : w.heap.size + 3 < w1.heap.size := by omega); (try have hbb : Below w.heap.size w w1 := zw); (try obtain ⟨hco, hfo, _⟩ := bcell hbb); (try have hb1 := hb1)) | (go_at_call 91; refine (hP.out _ (D.below zw)).mono ?_; rintro e w1 ⟨rfl, hb1⟩; obtain ⟨hc1, hf1, hl1⟩ := bcell hb1; (try simp only [zdz] at hc1 hf1 hl1); have hz1 := hb1.size; (try simp only [zsz] at hz1); (try have g0 : w.heap.size < w1.heap.size := by omega); (try have g1 : w.heap.size + 1 < w1.heap.size := by omega); (try have g2 : w.heap.size + 2 < w1.heap.size := by omega); (try have gb : b < w1.heap.size := by omega); (try have g3 : w.heap.size + 3 < w1.heap.size := by omega); (try have hbb : Below w.heap.size w w1 := zw); (try obtain ⟨hco, hfo, _⟩ := bcell hbb); (try have hb1 := hb1)) | ((with_reducible refine conv_to (o := ⟨some 46, .convert 22 9 (.tmp 45), _, _, _, _⟩) ?_ 22 9 (.tmp 45) ?_ (.slice (some ⟨b, o + a, none⟩) v (cap - a)) (strV (window L a v)) ?_ ?_ ?_); rfl; rfl; rfl; (exact Hc.out _ (D.below zw) _)))
    all_goals go_returns
    all_goals exact ⟨rfl, by exact zw⟩
  · have e1 : findS L p q t k true = [] := by simp [findS, hf]
    have hP := Lib.hid (fun W (hW : Doc W b o n cap L) => rtplace_any b o n cap L p q t k W hW ht5)
    rw [e1]
    by_cases hm : mayE n p q t k = 0
    · have hf1 : (findE L p q t k true != 0) = true := by simpa using hf
      clear e1 hf
      rcases ht5 with rfl | rfl
      all_goals go_enter Tryz.func68, Tryz.ntmps68
      all_goals go_wp2_with (first | (go_at_call 16; refine (rmay_any _ _ _ _ L _ _ _ _ _ (D.below zw)).mono ?_; rintro e w1 ⟨rfl, hb1⟩; obtain ⟨hc1, hf1, hl1⟩ := bcell hb1; (try simp only [zdz] at hc1 hf1 hl1); have hz1 := hb1.size; (try simp only [zsz] at hz1); (try have g0 : w.heap.size < w1.heap.size := by omega); (try have g1 : w.heap.size + 1 < w1.heap.size := by omega); (try have g2 : w.heap.size + 2 < w1.heap.size := by omega); (try have gb : b < w1.heap.size := by omega); (try have g3 : w.heap.size + 3 < w1.heap.size := by omega); (try have hbb : Below w.heap.size w w1 := zw); (try obtain ⟨hco, hfo, _⟩ := bcell hbb); (try have hb1 := hb1)) | (go_at_call 91; refine (hP.out _ (D.below zw)).mono ?_; rintro e w1 ⟨⟨x1, x2, rfl⟩, hb1⟩; obtain ⟨hc1, hf1', hl1⟩ := bcell hb1))
      all_goals go_returns
      all_goals exact ⟨rfl, by exact zw⟩
    · have hf1 : (mayE n p q t k != 0) = true := by simpa using hm
      have e2 : findE L p q t k true = mayE n p q t k := by simp [findE, hlen, hm]
      rw [e2]
      clear e1 e2 hf hm hP
      go_enter Tryz.func68, Tryz.ntmps68
      go_wp2_with (first | (go_at_call 16; refine (rmay_any _ _ _ _ L _ _ _ _ _ (D.below zw)).mono ?_; rintro e w1 ⟨rfl, hb1⟩; obtain ⟨hc1, hf1, hl1⟩ := bcell hb1; (try simp only [zdz] at hc1 hf1 hl1); have hz1 := hb1.size; (try simp only [zsz] at hz1); (try have g0 : w.heap.size < w1.heap.size := by omega); (try have g1 : w.heap.size + 1 < w1.heap.size := by omega); (try have g2 : w.heap.size + 2 < w1.heap.size := by omega); (try have gb : b < w1.heap.size := by omega); (try have g3 : w.heap.size + 3 < w1.heap.size := by omega); (try have hbb : Below w.heap.size w w1 := zw); (try obtain ⟨hco, hfo, _⟩ := bcell hbb); (try have hb1 := hb1)))
      go_returns
      exact ⟨rfl, by exact zw⟩
theorem rstr_any (p q k : Int) (D : Doc w b o n cap L) :
    Calls Tryz.prog 46 #[.slice (some ⟨b, o, none⟩) n cap, .agg #[.int .i64 p, .int .i64 q, .int .i64 5, .int .i64 k]] w fun e w' =>
      e = .returned (.tuple #[strV (findS L p q 5 k true), .int .i64 (findE L p q 5 k true)]) ∧ Below w.heap.size w w' := by
  have hbw := D.lt
  go_enter Tryz.func46, Tryz.ntmps46
  go_wp2_with (go_at_call 68; refine (rof_any b o n cap L _ p q 5 k (D.below zw) (.inl rfl)).mono ?_; rintro e w1 ⟨rfl, hb1⟩; obtain ⟨hc1, hf1, hl1⟩ := bcell hb1; (try simp only [zdz] at hc1 hf1 hl1); have hz1 := hb1.size; (try simp only [zsz] at hz1); (try have g0 : w.heap.size < w1.heap.size := by omega); (try have g1 : w.heap.size + 1 < w1.heap.size := by omega); (try have g2 : w.heap.size + 2 < w1.heap.size := by omega); (try have gb : b < w1.heap.size := by omega); (try have g3 : w.heap.size + 3 < w1.heap.size := by omega); (try have hbb : Below w.heap.size w w1 := zw); (try obtain ⟨hco, hfo, _⟩ := bcell hbb); (try have hb1 := hb1))
  go_returns
  exact ⟨rfl, by exact zw⟩
theorem rblob_any (p q k : Int) (D : Doc w b o n cap L) :
    Calls Tryz.prog 47 #[.slice (some ⟨b, o, none⟩) n cap, .agg #[.int .i64 p, .int .i64 q, .int .i64 25, .int .i64 k]] w fun e w' =>
      e = .returned (.tuple #[strV (findS L p q 25 k true), .int .i64 (findE L p q 25 k true)]) ∧ Below w.heap.size w w' := by
  have hbw := D.lt
  go_enter Tryz.func47, Tryz.ntmps47
  go_wp2_with (go_at_call 68; refine (rof_any b o n cap L _ p q 25 k (D.below zw) (.inr rfl)).mono ?_; rintro e w1 ⟨rfl, hb1⟩; obtain ⟨hc1, hf1, hl1⟩ := bcell hb1; (try simp only [zdz] at hc1 hf1 hl1); have hz1 := hb1.size; (try simp only [zsz] at hz1); (try have g0 : w.heap.size < w1.heap.size := by omega); (try have g1 : w.heap.size + 1 < w1.heap.size := by omega); (try have g2 : w.heap.size + 2 < w1.heap.size := by omega); (try have gb : b < w1.heap.size := by omega); (try have g3 : w.heap.size + 3 < w1.heap.size := by omega); (try have hbb : Below w.heap.size w w1 := zw); (try obtain ⟨hco, hfo, _⟩ := bcell hbb); (try have hb1 := hb1))
  go_returns
  exact ⟨rfl, by exact zw⟩
end
/-- The kinds. -/
def kindRow : Array Value := (kindsD.map (Value.int .i64)).toArray
set_option maxRecDepth 100000 in
set_option maxHeartbeats 1000000 in
theorem refkinds_any (w : World) : Calls Tryz.prog 64 #[] w fun e w' => e = .returned (.agg kindRow) ∧ Below w.heap.size w w' := by
  go_enter Tryz.func64, Tryz.ntmps64
  go_wp2_with (first | (refine build_to rfl 92 _ rfl kindRow (by as_aux_lemma => kernel_rfl) ?_) | (refine wpList_store_row rfl 92 (.tmp 0) (.tmp 1) rfl w.heap.size kindRow rfl rfl 92 _ (heap_alloc_new _ _) (by as_aux_lemma => kernel_rfl) (by as_aux_lemma => kernel_rfl) (by as_aux_lemma => kernel_rfl) ?_))
  refine bodyPost_ret (results_cell_row rfl _ _ w.heap.size 92 kindRow (0, 0) _ rfl (setRow_heap _ _ _ _ _ _ (heap_alloc_new _ _)) Tryz.underlying92 rfl (by as_aux_lemma => kernel_rfl)) rfl ⟨rfl, ?_⟩
  exact ((Below.refl _ _).alloc (Nat.le_refl _) _).setRow (Nat.le_refl _) _
theorem kindRow_index (t : Int) (h0 : 0 ≤ t) (h : t < 37) (w : World) :
    (Instr.index 92 (.agg kindRow) (.int .i64 t)).run Tryz.prog w = .ok (.int .i64 (kindD t)) w := by
  have : t = 0 ∨ t = 1 ∨ t = 2 ∨ t = 3 ∨ t = 4 ∨ t = 5 ∨ t = 6 ∨ t = 7 ∨ t = 8 ∨ t = 9 ∨ t = 10 ∨ t = 11 ∨ t = 12 ∨ t = 13 ∨ t = 14 ∨ t = 15 ∨ t = 16 ∨ t = 17 ∨ t = 18 ∨ t = 19 ∨ t = 20 ∨ t = 21 ∨ t = 22 ∨ t = 23 ∨ t = 24 ∨ t = 25 ∨ t = 26 ∨ t = 27 ∨ t = 28 ∨ t = 29 ∨ t = 30 ∨ t = 31 ∨ t = 32 ∨ t = 33 ∨ t = 34 ∨ t = 35 ∨ t = 36 := by omega
  rcases this with rfl | rfl | rfl | rfl | rfl | rfl | rfl | rfl | rfl | rfl | rfl | rfl | rfl | rfl | rfl | rfl | rfl | rfl | rfl | rfl | rfl | rfl | rfl | rfl | rfl | rfl | rfl | rfl | rfl | rfl | rfl | rfl | rfl | rfl | rfl | rfl | rfl
  all_goals (show _ = _; kernel_rfl)
theorem refkind_any (p q t k : Int) (ht : legalB t = true) (w : World) : Calls Tryz.prog 35 #[.agg #[.int .i64 p, .int .i64 q, .int .i64 t, .int .i64 k]] w fun e w' => e = .returned (.int .i64 (kindD t)) ∧ Below w.heap.size w w' := by
  obtain ⟨h0, h1⟩ := kindOf_in ht
  have hi := kindRow_index t h0 h1
  have HK := fun W => Lib.hid (refkinds_any W)
  go_enter Tryz.func35, Tryz.ntmps35
  go_wp2_with (go_at_call 26; refine (legal_any _ _).mono ?_; rintro e w1 ⟨rfl, hb1⟩; obtain ⟨hc1, hf1, hl1⟩ := bcell hb1; (try simp only [zdz] at hc1 hf1 hl1); have hz1 := hb1.size; (try simp only [zsz] at hz1); (try have g0 : w.heap.size < w1.heap.size := by omega); (try have g1 : w.heap.size + 1 < w1.heap.size := by omega); (try have g2 : w.heap.size + 2 < w1.heap.size := by omega); (try have gb : b < w1.heap.size := by omega); (try have g3 : w.heap.size + 3 < w1.heap.size := by omega); (try have hbb : Below w.heap.size w w1 := zw); (try obtain ⟨hco, hfo, _⟩ := bcell hbb); (try have hb1 := hb1))
  go_region_with (go_at_call 64; refine ((HK _).out).mono ?_; rintro e w1 ⟨rfl, hb1⟩; obtain ⟨hc1, hf1, hl1⟩ := bcell hb1; (try simp only [zdz] at hc1 hf1 hl1); have hz1 := hb1.size; (try simp only [zsz] at hz1); (try have g0 : w.heap.size < w1.heap.size := by omega); (try have g1 : w.heap.size + 1 < w1.heap.size := by omega); (try have g2 : w.heap.size + 2 < w1.heap.size := by omega); (try have gb : b < w1.heap.size := by omega); (try have g3 : w.heap.size + 3 < w1.heap.size := by omega); (try have hbb : Below w.heap.size w w1 := zw); (try obtain ⟨hco, hfo, _⟩ := bcell hbb); (try have hb1 := hb1))
  all_goals go_wp2
  all_goals go_returns
  all_goals exact ⟨rfl, by exact zw⟩
set_option maxHeartbeats 4000000 in
theorem rkind_any (p q t k : Int) (ht : legalB t = true) (w : World) : Calls Tryz.prog 40 #[.agg #[.int .i64 p, .int .i64 q, .int .i64 t, .int .i64 k]] w fun e w' => e = .returned (.int .i64 (kindD t)) ∧ Below w.heap.size w w' := by
  obtain ⟨h0, h1⟩ := kindOf_in ht
  have h37 : t = 0 ∨ t = 1 ∨ t = 2 ∨ t = 3 ∨ t = 4 ∨ t = 5 ∨ t = 6 ∨ t = 7 ∨ t = 8 ∨ t = 9 ∨ t = 10 ∨ t = 11 ∨ t = 12 ∨ t = 13 ∨ t = 14 ∨ t = 15 ∨ t = 16 ∨ t = 17 ∨ t = 18 ∨ t = 19 ∨ t = 20 ∨ t = 21 ∨ t = 22 ∨ t = 23 ∨ t = 24 ∨ t = 25 ∨ t = 26 ∨ t = 27 ∨ t = 28 ∨ t = 29 ∨ t = 30 ∨ t = 31 ∨ t = 32 ∨ t = 33 ∨ t = 34 ∨ t = 35 ∨ t = 36 := by omega
  rcases h37 with rfl | rfl | rfl | rfl | rfl | rfl | rfl | rfl | rfl | rfl | rfl | rfl | rfl | rfl | rfl | rfl | rfl | rfl | rfl | rfl | rfl | rfl | rfl | rfl | rfl | rfl | rfl | rfl | rfl | rfl | rfl | rfl | rfl | rfl | rfl | rfl | rfl
  all_goals first | (revert ht; decide) | skip
  all_goals clear ht h0 h1
  all_goals go_enter Tryz.func40, Tryz.ntmps40
  all_goals go_wp2
  all_goals go_returns
  all_goals exact ⟨rfl, by exact zw⟩
end Go.Proofs.YtmpflnlajakibaaGreat
