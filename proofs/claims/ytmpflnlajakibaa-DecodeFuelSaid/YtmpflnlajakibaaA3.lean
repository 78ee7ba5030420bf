/- The walks of text. The walks of text.find and what is read by it. -/
import Derived.Test.YtmpflnlajakibaaA2
import Derived.Test.YtmpflnlajakibaaShelf
import Derived.Test.YtmpflnlajakibaaA1
namespace Go.Proofs.Ytmpflnlajakibaa
set_option linter.unusedVariables false
set_option linter.unusedSimpArgs false
section
open Go.RowKit
theorem end_any (b o n cap : Nat) (L : List UInt8) (a : Nat) (w : World) (D : Doc w b o n cap L) (ha : a ≤ n) :
    Calls Try.prog 141 #[.slice (some ⟨b, o, none⟩) n cap, .int .i64 a] w fun e w' => e = .returned (.tuple #[.int .i64 (zeroAt L a), .bool (decide (zeroAt L a < n))]) ∧ w = w' := by
  obtain ⟨hn1, hn2⟩ := D.bd
  have Hn := Lib.hid D.len
  go_enter Try.func141, Try.ntmps141
  go_wp2
  go_step3
  go_wp2
  go_step3
  go_wp2
  go_loop [6] (fun i => ∃ k : Nat, k ≤ n ∧ i = .int .i64 k ∧ zeroAt L a = zeroAt L k) (fun i => n - (intOf i).toNat)
  case atStart => exact ⟨a, ha, rfl, rfl⟩
  case round =>
    obtain ⟨k, hk, rfl, hz⟩ := hrel
    have Hz := Lib.hid hz; clear hz
    by_cases hlt : k < n
    · have hlk : k < L.length := by rw [Hn.out]; exact hlt
      have hc := D.at_ k hlk
      have hlt' : (k : Int) < (n : Int) := by omega
      by_cases h0 : L[k] = 0
      · have hz0 := Lib.hid (zeroAt_hit hlk h0)
        have h0' : (L[k].toNat : Int) = 0 := by rw [h0]; rfl
        rw [h0'] at hc
        clear h0 h0'
        go_wp2
        go_ret2
        refine ⟨?_, rfl⟩
        rw [Hz.out, hz0.out]
        simp [hlt]
      · have hz0 := Lib.hid (zeroAt_step hlk h0)
        have h0' : ((L[k].toNat : Int) == 0) = false := by
          simp only [beq_eq_false_iff_ne, ne_eq]; intro h; apply h0; apply UInt8.toNat_inj.1; show L[k].toNat = 0; omega
        clear h0
        go_wp2
        go_round
        case rel => exact ⟨k + 1, by omega, by go_num, by rw [Hz.out, hz0.out]⟩
        case measure => simp only [intOf]; omega
    · have hlt' : ¬ (k : Int) < (n : Int) := by omega
      have hz0 := Lib.hid (zeroAt_end (L := L) (a := k) (by rw [Hn.out]; omega))
      go_wp2
      go_ret2
      refine ⟨?_, rfl⟩
      rw [Hz.out, hz0.out]
      simp [hlt]
/-- text.key: the error. -/
def keyE (L : List UInt8) (a : Nat) : Int := if zeroAt L a < L.length then 0 else 213
theorem key_bad (b o n cap : Nat) (L : List UInt8) (a : Nat) (w : World) (D : Doc w b o n cap L) (ha : a ≤ n) (hz : ¬ zeroAt L a < n) :
    Calls Try.prog 135 #[.slice (some ⟨b, o, none⟩) n cap, .int .i64 a] w fun e w' => e = .returned (.tuple #[.agg #[.int .i64 0, .slice none 0 0], .int .i64 213]) ∧ Below w.heap.size w w' := by
  have hbw := D.lt
  go_enter Try.func135, Try.ntmps135
  go_wp2_with (go_at_call 141; refine (end_any _ _ _ _ L _ _ (D.below zw) ha).mono ?_; rintro e w1 ⟨rfl, rfl⟩)
  (refine bodyPost_ret (v := .tuple #[.agg #[.int .i64 0, .slice none 0 0], .int .i64 213]) (by simp [results, Try.results135, go_sem, *]) rfl ?_)
  exact ⟨rfl, by exact zw⟩
theorem key_good (b o n cap : Nat) (L : List UInt8) (a : Nat) (w : World) (D : Doc w b o n cap L) (ha : a ≤ n) (hz : zeroAt L a < n) :
    Calls Try.prog 135 #[.slice (some ⟨b, o, none⟩) n cap, .int .i64 a] w fun e w' => e = .returned (.tuple #[.agg #[.int .i64 a, cutV b o a (zeroAt L a - a)], .int .i64 0]) ∧ Below w.heap.size w w' := by
  obtain ⟨hn1, hn2⟩ := D.bd
  have hle := D.le
  have hbw := D.lt
  have hge := zeroAt_ge L a
  have hE := fun (w : World) (D : Doc w b o n cap L) => end_any b o n cap L a w D ha
  have HE := Lib.hid hE; clear hE
  generalize zeroAt L a = z at *
  by_cases hza : z = a
  · subst hza
    have e1 : cutV b o z (z - z) = .slice (some ⟨b, o, none⟩) 0 0 := by simp [cutV]
    rw [e1]; clear e1
    go_enter Try.func135, Try.ntmps135
    go_wp2_with (go_at_call 141; refine (HE.out _ (D.below zw)).mono ?_; rintro e w1 ⟨rfl, rfl⟩)
    (refine bodyPost_ret (v := .tuple #[.agg #[.int .i64 z, .slice (some ⟨b, o, none⟩) 0 0], .int .i64 0]) (by simp [results, Try.results135, go_sem, *]) rfl ?_)
    exact ⟨rfl, by exact zw⟩
  · have e1 : cutV b o a (z - a) = .slice (some ⟨b, o + a, none⟩) (z - a) (z - a) := by unfold cutV; rw [if_neg (by omega)]
    have haz : a < z := by omega
    rw [e1]; clear e1 hza
    go_enter Try.func135, Try.ntmps135
    go_wp2_with (go_at_call 141; refine (HE.out _ (D.below zw)).mono ?_; rintro e w1 ⟨rfl, rfl⟩)
    (refine bodyPost_ret (v := .tuple #[.agg #[.int .i64 a, .slice (some ⟨b, o + a, none⟩) (z - a) (z - a)], .int .i64 0]) (by simp [results, Try.results135, go_sem, *]) rfl ?_)
    exact ⟨rfl, by exact zw⟩
/-- text.counted: the length found, and the error. -/
def cntN (L : List UInt8) (a k : Nat) : Nat := (loadV L ((a : Int) - k) k).toNat
def cntE (L : List UInt8) (a k z : Nat) : Int :=
  if a % k ≠ 0 then 212 else if a < k then 211 else if L.length < cntN L a k ∨ L.length < a + cntN L a k + z then 211
  else if z = 1 ∧ L.getD (a + cntN L a k) 0 ≠ 0 then 213 else 0
theorem make0 (w : World) : (Instr.makeSlice 22 (.int .i64 0) (.int .i64 0)).run Try.prog w = .ok (.slice (some ⟨w.heap.size, 0, none⟩) 0 0) (w.alloc (.cells #[] 5)) := by kernel_rfl
theorem make1 (w : World) : (Instr.makeSlice 22 (.int .i64 1) (.int .i64 1)).run Try.prog w = .ok (.slice (some ⟨w.heap.size, 0, none⟩) 1 1) (w.alloc (.cells #[.int .u8 0] 5)) := by kernel_rfl
theorem eq00_any (p1 p2 : Option Addr) (c d : Nat) (w : World) : Calls Try.prog 142 #[.slice p1 0 c, .slice p2 0 d] w fun e w' => e = .returned (.bool true) ∧ w = w' :=
  (Try.bytes_Equal_all p1 p2 0 c 0 d [] [] w rfl rfl (by unfold Lib.BytesIn; cases p1 <;> simp) (by unfold Lib.BytesIn; cases p2 <;> simp)).mono fun e w' h => ⟨h.1, h.2.symm⟩
theorem eq11_any (b x g c d : Nat) (w : World) (u : UInt8) (h1 : w.cell? ⟨b, x, none⟩ = some (.int .u8 (u.toNat : Int))) (h2 : w.cell? ⟨g, 0, none⟩ = some (.int .u8 0)) :
    Calls Try.prog 142 #[.slice (some ⟨b, x, none⟩) 1 c, .slice (some ⟨g, 0, none⟩) 1 d] w fun e w' => e = .returned (.bool (u == 0)) ∧ w = w' := by
  refine (Try.bytes_Equal_all _ _ 1 c 1 d [(u.toNat : Int)] [0] w rfl rfl (fun _ => ⟨b, x, rfl, fun i hi => ?_⟩) (fun _ => ⟨g, 0, rfl, fun i hi => ?_⟩)).mono fun e w' h => ⟨?_, h.2.symm⟩
  · obtain rfl : i = 0 := by omega
    exact h1
  · obtain rfl : i = 0 := by omega
    exact h2
  · rw [h.1]
    have : Lib.bytesOf [(u.toNat : Int)] = [u] := by simp [Lib.bytesOf]
    rw [this]
    by_cases hu : u = 0
    · subst hu; rfl
    · have h0 : (u == 0) = false := by simpa using hu
      rw [h0]
      congr 2
      simp only [beq_eq_false_iff_ne, ne_eq, Lib.bytesOf, List.map_cons, List.map_nil, List.cons.injEq, and_true]
      simpa using hu
set_option maxHeartbeats 4000000 in
theorem counted_any (b o n cap : Nat) (L : List UInt8) (a k z : Nat) (w : World) (D : Doc w b o n cap L) (ha : a ≤ n) (hk : wideB k = true) (hz : z = 0 ∨ z = 1) :
    Calls Try.prog 136 #[.slice (some ⟨b, o, none⟩) n cap, .int .i64 a, .int .i64 k, .int .i64 z] w fun e w' =>
      (e = .returned (.tuple #[if cntE L a k z = 0 then .agg #[.int .i64 a, cutV b o a (cntN L a k)] else .agg #[.int .i64 0, .slice none 0 0], .int .i64 (cntE L a k z)])) ∧ Below w.heap.size w w' := by
  obtain ⟨hn1, hn2⟩ := D.bd
  have hle := D.le
  have hmax : n ≤ maxLen := Nat.le_trans D.le D.max
  have hbw := D.lt
  have hlen := D.len
  have hkb := wideB_bd hk
  by_cases h1 : a % k = 0
  · by_cases h2 : a < k
    · have e1 : cntE L a k z = 211 := by simp [cntE, h1, h2]
      rw [e1, if_neg (by decide)]; clear e1 hlen hz
      go_enter Try.func136, Try.ntmps136
      go_wp2
      (refine bodyPost_ret (v := .tuple #[.agg #[.int .i64 0, .slice none 0 0], .int .i64 211]) (by simp [results, Try.results136, go_sem, *]) rfl ?_)
      exact ⟨rfl, by exact zw⟩
    · obtain ⟨v, hv⟩ := Int.eq_ofNat_of_zero_le (loadV_nonneg L ((a : Int) - k) k)
      have hv1 := loadV_lt L ((a : Int) - k) k
      have hV : cntN L a k = v := by unfold cntN; rw [hv]; rfl
      by_cases h3 : n < v
      · have e1 : cntE L a k z = 211 := by simp [cntE, h1, h2, hV, hlen, h3]
        have h3' : (n : Int) < v := by omega
        rw [e1, if_neg (by decide)]; clear e1 hlen hz h3 hV
        go_enter Try.func136, Try.ntmps136
        go_wp2_with (first | (go_at_call 79; refine (load_any _ _ _ _ L _ _ _ (D.below zw)).mono ?_; rintro e w1 ⟨rfl, hb1⟩; obtain ⟨hc1, hf1, hl1⟩ := bcell hb1; (try simp only [zdz] at hc1 hf1 hl1); have hz1 := hb1.size; (try simp only [zsz] at hz1); (try have g0 : w.heap.size < w1.heap.size := by omega); (try have g1 : w.heap.size + 1 < w1.heap.size := by omega); (try have g2 : w.heap.size + 2 < w1.heap.size := by omega); (try have gb : b < w1.heap.size := by omega); (try have g3 : w.heap.size + 3 < w1.heap.size := by omega); (try have hbb : Below w.heap.size w w1 := zw); (try obtain ⟨hco, hfo, _⟩ := bcell hbb); (try have hb1 := hb1)) | (go_at_call 63; refine (inside_any _ _ _ hmax _ _ _).mono ?_; rintro e w1 ⟨rfl, rfl⟩))
        (refine bodyPost_ret (v := .tuple #[.agg #[.int .i64 0, .slice none 0 0], .int .i64 211]) (by simp [results, Try.results136, go_sem, *]) rfl ?_)
        exact ⟨rfl, by exact zw⟩
      · have h3' : ¬ (n : Int) < v := by omega
        by_cases h4 : n < a + v + z
        · have e1 : cntE L a k z = 211 := by simp [cntE, h1, h2, hV, hlen, h4]
          have h4' : insideB n a ((v : Int) + z) = false := by
            simp only [insideB, Bool.and_eq_false_iff, decide_eq_false_iff_not]; omega
          have hzz : z ≤ 1 := by omega
          rw [e1, if_neg (by decide)]; clear e1 hlen hz h3 h4 hV
          go_enter Try.func136, Try.ntmps136
          go_wp2_with (first | (go_at_call 79; refine (load_any _ _ _ _ L _ _ _ (D.below zw)).mono ?_; rintro e w1 ⟨rfl, hb1⟩; obtain ⟨hc1, hf1, hl1⟩ := bcell hb1; (try simp only [zdz] at hc1 hf1 hl1); have hz1 := hb1.size; (try simp only [zsz] at hz1); (try have g0 : w.heap.size < w1.heap.size := by omega); (try have g1 : w.heap.size + 1 < w1.heap.size := by omega); (try have g2 : w.heap.size + 2 < w1.heap.size := by omega); (try have gb : b < w1.heap.size := by omega); (try have g3 : w.heap.size + 3 < w1.heap.size := by omega); (try have hbb : Below w.heap.size w w1 := zw); (try obtain ⟨hco, hfo, _⟩ := bcell hbb); (try have hb1 := hb1)) | (go_at_call 63; refine (inside_any _ _ _ hmax _ _ _).mono ?_; rintro e w1 ⟨rfl, rfl⟩))
          (refine bodyPost_ret (v := .tuple #[.agg #[.int .i64 0, .slice none 0 0], .int .i64 211]) (by simp [results, Try.results136, go_sem, *]) rfl ?_)
          exact ⟨rfl, by exact zw⟩
        · have h4' : insideB n a ((v : Int) + z) = true := by
            simp only [insideB, Bool.and_eq_true, decide_eq_true_eq]; omega
          have hwr : IntKind.i64.wrap ((a : Int) + v) = a + v := IntWalk.i64_in _ (by omega)
          have b1 : (0 : Int) ≤ (a : Int) + v := by omega
          have b2 : (a : Int) + v ≤ cap := by omega
          rcases hz with rfl | rfl
          · have e1 : cntE L a k 0 = 0 := by simp [cntE, h1, h2, hV, hlen, h3]; omega
            rw [e1, if_pos rfl, hV]; clear e1 hV
            have hm0 := make0
            simp only [Int.natCast_zero, Int.add_zero, Nat.add_zero] at h4' h4 ⊢
            obtain ⟨pa, hsl⟩ : ∃ pa, ∀ w : World, (Instr.slice 22 (.slice (some ⟨b, o, none⟩) n cap) (some (.int .i64 ((a : Int) + v))) (some (.int .i64 ((a : Int) + v))) none).run Try.prog w = .ok (.slice pa 0 (cap - (a + v))) w :=
              ⟨_, fun w => by rw [slice_run b o n cap _ _ (a + v) (a + v) (by omega) (by omega) (by omega) (by omega), Nat.sub_self]⟩
            clear hlen
            go_enter Try.func136, Try.ntmps136
            go_wp2_with (first | (go_at_call 79; refine (load_any _ _ _ _ L _ _ _ (D.below zw)).mono ?_; rintro e w1 ⟨rfl, hb1⟩; obtain ⟨hc1, hf1, hl1⟩ := bcell hb1; (try simp only [zdz] at hc1 hf1 hl1); have hz1 := hb1.size; (try simp only [zsz] at hz1); (try have g0 : w.heap.size < w1.heap.size := by omega); (try have g1 : w.heap.size + 1 < w1.heap.size := by omega); (try have g2 : w.heap.size + 2 < w1.heap.size := by omega); (try have gb : b < w1.heap.size := by omega); (try have g3 : w.heap.size + 3 < w1.heap.size := by omega); (try have hbb : Below w.heap.size w w1 := zw); (try obtain ⟨hco, hfo, _⟩ := bcell hbb); (try have hb1 := hb1)) | (go_at_call 63; refine (inside_any _ _ _ hmax _ _ _).mono ?_; rintro e w1 ⟨rfl, rfl⟩))
            go_region_with (go_at_call 142; refine (eq00_any _ _ _ _ _).mono ?_; rintro e w2 ⟨rfl, rfl⟩)
            clear hwr hsl
            all_goals go_wp2
            · (refine bodyPost_ret (v := .tuple #[.agg #[.int .i64 a, .slice (some ⟨b, o, none⟩) 0 0], .int .i64 0]) (by simp [results, Try.results136, go_sem, *]) rfl ?_)
              exact ⟨by simp [cutV, *], by exact zw⟩
            · (refine bodyPost_ret (v := .tuple #[.agg #[.int .i64 a, .slice (some ⟨b, o + a, none⟩) v v], .int .i64 0]) (by simp [results, Try.results136, go_sem, *]) rfl ?_)
              exact ⟨by simp [cutV, *], by exact zw⟩
          · have hby := D.byte (a + v) (by omega)
            have hm1 := make1
            have hwr1 : IntKind.i64.wrap ((a : Int) + v + 1) = a + v + 1 := IntWalk.i64_in _ (by omega)
            obtain ⟨pa, hsl⟩ : ∃ pa : Option Addr, pa = some ⟨b, o + (a + v), none⟩ ∧ ∀ w : World, (Instr.slice 22 (.slice (some ⟨b, o, none⟩) n cap) (some (.int .i64 ((a : Int) + v))) (some (.int .i64 ((a : Int) + v + 1))) none).run Try.prog w = .ok (.slice (some ⟨b, o + (a + v), none⟩) 1 (cap - (a + v))) w :=
              ⟨_, rfl, fun w => by rw [slice_run b o n cap _ _ (a + v) (a + v + 1) (by omega) (by omega) (by omega) (by omega), if_neg (by omega), Nat.add_sub_cancel_left]⟩
            have hsl := hsl.2
            clear hlen
            have hlen' := D.len
            simp only [Int.natCast_one] at h4'
            have hcE : cntE L a k 1 = if L.getD (a + v) 0 = 0 then 0 else 213 := by
              unfold cntE; rw [hV, if_neg (by omega), if_neg h2, if_neg (by omega)]
              by_cases hu : L.getD (a + v) 0 = 0
              · rw [if_neg (by rw [hu]; simp), if_pos hu]
              · rw [if_pos ⟨rfl, hu⟩, if_neg hu]
            generalize L.getD (a + v) 0 = u at *
            by_cases hu : u = 0
            · have e1 : cntE L a k 1 = 0 := by rw [hcE, if_pos hu]
              have hu' : (u == 0) = true := by simpa using hu
              rw [e1, if_pos rfl, hV]; clear e1 hV hlen' hu hcE
              go_enter Try.func136, Try.ntmps136
              go_wp2_with (first | (go_at_call 79; refine (load_any _ _ _ _ L _ _ _ (D.below zw)).mono ?_; rintro e w1 ⟨rfl, hb1⟩; obtain ⟨hc1, hf1, hl1⟩ := bcell hb1; (try simp only [zdz] at hc1 hf1 hl1); have hz1 := hb1.size; (try simp only [zsz] at hz1); (try have g0 : w.heap.size < w1.heap.size := by omega); (try have g1 : w.heap.size + 1 < w1.heap.size := by omega); (try have g2 : w.heap.size + 2 < w1.heap.size := by omega); (try have gb : b < w1.heap.size := by omega); (try have g3 : w.heap.size + 3 < w1.heap.size := by omega); (try have hbb : Below w.heap.size w w1 := zw); (try obtain ⟨hco, hfo, _⟩ := bcell hbb); (try have hb1 := hb1)) | (go_at_call 63; refine (inside_any _ _ _ hmax _ _ _).mono ?_; rintro e w1 ⟨rfl, rfl⟩))
              go_region_with (go_at_call 142; refine (eq11_any _ _ _ _ _ _ u (by go_simp) (by go_simp)).mono ?_; rintro e w2 ⟨rfl, rfl⟩)
              clear hwr hsl hwr1
              all_goals go_wp2
              · (refine bodyPost_ret (v := .tuple #[.agg #[.int .i64 a, .slice (some ⟨b, o, none⟩) 0 0], .int .i64 0]) (by simp [results, Try.results136, go_sem, *]) rfl ?_)
                exact ⟨by simp [cutV, *], by exact zw⟩
              · (refine bodyPost_ret (v := .tuple #[.agg #[.int .i64 a, .slice (some ⟨b, o + a, none⟩) v v], .int .i64 0]) (by simp [results, Try.results136, go_sem, *]) rfl ?_)
                exact ⟨by simp [cutV, *], by exact zw⟩
            · have e1 : cntE L a k 1 = 213 := by rw [hcE, if_neg hu]
              have hu' : (u == 0) = false := by simpa using hu
              rw [e1, if_neg (by decide)]; clear e1 hV hlen' hu hcE
              go_enter Try.func136, Try.ntmps136
              go_wp2_with (first | (go_at_call 79; refine (load_any _ _ _ _ L _ _ _ (D.below zw)).mono ?_; rintro e w1 ⟨rfl, hb1⟩; obtain ⟨hc1, hf1, hl1⟩ := bcell hb1; (try simp only [zdz] at hc1 hf1 hl1); have hz1 := hb1.size; (try simp only [zsz] at hz1); (try have g0 : w.heap.size < w1.heap.size := by omega); (try have g1 : w.heap.size + 1 < w1.heap.size := by omega); (try have g2 : w.heap.size + 2 < w1.heap.size := by omega); (try have gb : b < w1.heap.size := by omega); (try have g3 : w.heap.size + 3 < w1.heap.size := by omega); (try have hbb : Below w.heap.size w w1 := zw); (try obtain ⟨hco, hfo, _⟩ := bcell hbb); (try have hb1 := hb1)) | (go_at_call 63; refine (inside_any _ _ _ hmax _ _ _).mono ?_; rintro e w1 ⟨rfl, rfl⟩))
              go_region_with (go_at_call 142; refine (eq11_any _ _ _ _ _ _ u (by go_simp) (by go_simp)).mono ?_; rintro e w2 ⟨rfl, rfl⟩)
              clear hwr hsl hwr1
              all_goals go_wp2
              (refine bodyPost_ret (v := .tuple #[.agg #[.int .i64 0, .slice none 0 0], .int .i64 213]) (by simp [results, Try.results136, go_sem, *]) rfl ?_)
              exact ⟨rfl, by exact zw⟩
  · have e1 : cntE L a k z = 212 := by simp [cntE, h1]
    have h1' : (((a : Int) % (k : Int)) != 0) = true := by simp; omega
    rw [e1, if_neg (by decide)]; clear e1 hlen hz
    go_enter Try.func136, Try.ntmps136
    go_wp2
    (refine bodyPost_ret (v := .tuple #[.agg #[.int .i64 0, .slice none 0 0], .int .i64 212]) (by simp [results, Try.results136, go_sem, *]) rfl ?_)
    exact ⟨rfl, by exact zw⟩
end
section
open Go.RowKit
def AsBytes (w : World) (m : Nat) (ts : List Int) (e : Ending) (w' : World) : Prop :=
  ∃ v', e = .returned v' ∧ w'.ownsRow w.heap.size 5 1 v' m (ts.map (Value.int .u8)) ∧ Below w.heap.size w w'
set_option maxHeartbeats 1000000 in
theorem asBytes_any (bt ot m cm : Nat) (ts : List Int) (w : World) (hts : ts.length = m) (hm : m ≤ 8) (hr : ∀ i, i < m → 0 ≤ ts.getD i 0 ∧ ts.getD i 0 < 256)
    (hc : ∀ i, i < m → w.cell? ⟨bt, ot + i, none⟩ = some (.int .i64 (ts.getD i 0))) (hbt : bt < w.heap.size) :
    Calls Try.prog 134 #[.slice (some ⟨bt, ot, none⟩) m cm] w (AsBytes w m ts) := by
  have Hts := Lib.hid hts; clear hts
  have Hr := Lib.hid hr; clear hr
  have Hc := Lib.hid hc; clear hc
  obtain ⟨i0, hi, hz0, hz1, hz2⟩ := info_parts info_u8
  go_enter Try.func134, Try.ntmps134
  go_wp2
  go_loopw [2, 4, 7] (fun v x i wr => ∃ k : Nat, k ≤ m ∧ i = .int .i64 k ∧ wr.ownsRow w.heap.size 5 1 v k ((ts.map (Value.int .u8)).take k) ∧ Below w.heap.size w wr) (fun _ _ i _ => m - (intOf i).toNat)
  case atStart => exact ⟨0, Nat.zero_le _, rfl, World.ownsRow_nil _ _ _ _, Below.refl _ _⟩
  case round =>
    rename_i wr
    obtain ⟨k, hk, rfl, hown, hb⟩ := hrel
    by_cases hlt : k < m
    · have hck : wr.cell? ⟨bt, ot + k, none⟩ = some (.int .i64 (ts.getD k 0)) := by rw [hb.cell hbt]; exact Hc.out k hlt
      obtain ⟨r1, r2⟩ := Hr.out k hlt
      have hlt' : (k : Int) < (m : Int) := by omega
      have hsz := hb.size
      generalize hx : ts.getD k 0 = x at *
      have Hx := Lib.hid hx; clear hx
      go_wp2_with (at_builtin; refine wpList_append_own _ rfl _ _ 22 rfl w.heap.size 5 i0 (.int .u8 0) 1 1 Try.underlying22 hi hz0 hz1 hz2 rfl (by decide) _ _ _ rfl (hown.alloc _) ⟨wr.heap.size, 0, none⟩ 1 1 [.int .u8 x] rfl rfl (cell_one_new _ _ _) ?_ ?_ ?_ ?_ ?_)
      · intro u hu; simp at hu; subst hu; rfl
      · unfold maxLen; omega
      · omega
      · simp; omega
      · intro v' w1 hown1 hg _
        have hob := hown.lt
        go_wp2
        go_roundw
        case rel =>
          refine ⟨k + 1, by omega, by go_num, ?_, (hb.alloc hsz _).grown hg (by simp; omega) (fun q hq => (hob q hq).1)⟩
          have hlk : k < (ts.map (Value.int .u8)).length := by simp [Hts.out, hlt]
          rw [take_snoc _ k hlk]
          have : (ts.map (Value.int .u8))[k] = .int .u8 x := by
            rw [List.getElem_map, ← Hx.out, List.getD_eq_getElem?_getD, List.getElem?_eq_getElem (by rw [Hts.out]; exact hlt)]; rfl
          rw [this]
          exact hown1
        case measure => simp only [intOf]; omega
    · have hlt' : ¬ (k : Int) < (m : Int) := by omega
      have Hk := Lib.hid (show k = m by omega)
      go_wp2
      go_returns
      refine ⟨_, rfl, ?_, hb⟩
      rw [List.take_of_length_le (by simp [Hts.out, Hk.out]), Hk.out] at hown
      exact hown
def AsBytesPos (w : World) (m : Nat) (ts : List Int) (e : Ending) (w' : World) : Prop :=
  ∃ g cg, e = .returned (.slice (some ⟨g, 0, none⟩) m cg) ∧ (∀ i, i < m → w'.cell? ⟨g, 0 + i, none⟩ = some (.int .u8 (ts.getD i 0))) ∧ w.heap.size ≤ g ∧ Below w.heap.size w w'
theorem asBytes_pos (bt ot m cm : Nat) (ts : List Int) (w : World) (hts : ts.length = m) (h0 : 0 < m) (hm : m ≤ 8) (hr : ∀ i, i < m → 0 ≤ ts.getD i 0 ∧ ts.getD i 0 < 256)
    (hc : ∀ i, i < m → w.cell? ⟨bt, ot + i, none⟩ = some (.int .i64 (ts.getD i 0))) (hbt : bt < w.heap.size) :
    Calls Try.prog 134 #[.slice (some ⟨bt, ot, none⟩) m cm] w (AsBytesPos w m ts) := by
  refine (asBytes_any bt ot m cm ts w hts hm hr hc hbt).mono ?_
  rintro e w' ⟨v', rfl, hown, hb⟩
  have hown' := hown
  rcases hown with ⟨hl, ⟨_, h⟩ | ⟨g, cg, cur, rfl, hg, hh, hle, hcm, hsz, htake⟩⟩
  · omega
  · refine ⟨g, cg, rfl, fun i hi => ?_, hg, hb⟩
    rw [Nat.zero_add, hown'.cellAt i (by omega), List.getElem?_map, List.getD_eq_getElem?_getD, List.getElem?_eq_getElem (by omega)]; rfl
/-- text.find -/
def findE (L : List UInt8) (p q t k : Int) (mem : Bool) : Int :=
  if mayE L.length p q t k ≠ 0 then mayE L.length p q t k else if mem = false then 60 else if targetE L p q t k ≠ 0 then targetE L p q t k
  else if t = 4 then keyE L (targetV L p q t k).toNat else cntE L (targetV L p q t k).toNat k.toNat (if t = 5 then 1 else 0)
def findN (L : List UInt8) (p q t k : Int) : Nat :=
  if t = 4 then zeroAt L (targetV L p q t k).toNat - (targetV L p q t k).toNat else cntN L (targetV L p q t k).toNat k.toNat
def findAt (L : List UInt8) (p q t k : Int) (mem : Bool) : Int := if findE L p q t k mem = 0 then targetV L p q t k else 0
def findV (b o : Nat) (L : List UInt8) (p q t k : Int) (mem : Bool) : Value :=
  if findE L p q t k mem = 0 then cutV b o (targetV L p q t k).toNat (findN L p q t k) else .slice none 0 0
theorem find_bad {b o : Nat} {L : List UInt8} {p q t k : Int} {mem : Bool} {x : Int} (h : findE L p q t k mem = x) (hx : x ≠ 0) : findAt L p q t k mem = 0 ∧ findV b o L p q t k mem = .slice none 0 0 := by
  subst h; simp [findAt, findV, hx]
def idxB (ts : List Int) (x : Int) : Int := Lib.indexByte (Lib.bytesOf ts) x.toNat.toUInt8
theorem idx_any (g m cg : Nat) (ts : List Int) (x : Int) (w : World) (hts : ts.length = m) (hc : ∀ i, i < m → w.cell? ⟨g, 0 + i, none⟩ = some (.int .u8 (ts.getD i 0))) :
    Calls Try.prog 133 #[.slice (some ⟨g, 0, none⟩) m cg, .int .u8 x] w fun e w' => e = .returned (.int .i64 (idxB ts x)) ∧ w = w' :=
  (Try.bytes_IndexByte g 0 m cg ts x w hts hc).mono fun e w' h => ⟨h.1, h.2.symm⟩
end
end Go.Proofs.Ytmpflnlajakibaa
