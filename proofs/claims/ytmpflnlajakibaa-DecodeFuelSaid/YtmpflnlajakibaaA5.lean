/- The walks of list.find, Span, Len, At. The walk of list.At at an element. -/
import Derived.Test.YtmpflnlajakibaaList4
import Derived.Test.YtmpflnlajakibaaList5
namespace Go.Proofs.Ytmpflnlajakibaa
set_option linter.unusedVariables false
set_option linter.unusedSimpArgs false
section
open Go.RowKit
theorem lfind_may (b o n cap : Nat) (L : List UInt8) (p q t k : Int) (w : World) (D : Doc w b o n cap L) (hm1 : mayE n p q t k ≠ 0) :
    Calls Try.prog 38 #[.slice (some ⟨b, o, none⟩) n cap, .agg #[.int .i64 p, .int .i64 q, .int .i64 t, .int .i64 k]] w fun e w' =>
      e = .returned (.tuple #[lfindV b o n cap L p q t k, .int .i64 (lfindE L p q t k)]) ∧ Below w.heap.size w w' := by
  have hlen := D.len
  have hbw := D.lt
  have e1 : lfindE L p q t k = mayE n p q t k := by simp [lfindE, hlen, hm1]
  have e2 := lfind_bad (b := b) (o := o) (n := n) (cap := cap) e1 hm1
  have hm' : (mayE n p q t k != 0) = true := by simpa using hm1
  rw [e1, e2]; clear e1 e2 hlen hm1
  go_enter Try.func38, Try.ntmps38
  go_wp2_with (go_at_call 32; refine (may_any _ _ _ _ L _ _ _ _ _ (D.below zw)).mono ?_; rintro e w1 ⟨rfl, hb1⟩; obtain ⟨hc1, hf1, hl1⟩ := bcell hb1; (try simp only [zdz] at hc1 hf1 hl1); have hz1 := hb1.size; (try simp only [zsz] at hz1); (try have g0 : w.heap.size < w1.heap.size := by omega); (try have g1 : w.heap.size + 1 < w1.heap.size := by omega); (try have g2 : w.heap.size + 2 < w1.heap.size := by omega); (try have gb : b < w1.heap.size := by omega); (try have g3 : w.heap.size + 3 < w1.heap.size := by omega); (try have hbb : Below w.heap.size w w1 := zw); (try obtain ⟨hco, hfo, _⟩ := bcell hbb); (try have hb1 := hb1))
  (refine bodyPost_ret (v := .tuple #[.agg #[.slice none 0 0, .int .i64 0, .int .i64 0, .int .i64 0, .int .i64 0, .int .i64 0, .int .i64 0, .int .i64 0, .int .i64 0], .int .i64 (mayE n p q t k)]) (by simp [results, Try.results38, go_sem, *]) rfl ?_)
  exact ⟨rfl, by exact zw⟩
theorem lfind_any (b o n cap : Nat) (L : List UInt8) (p q t k : Int) (w : World) (D : Doc w b o n cap L) :
    Calls Try.prog 38 #[.slice (some ⟨b, o, none⟩) n cap, .agg #[.int .i64 p, .int .i64 q, .int .i64 t, .int .i64 k]] w fun e w' =>
      e = .returned (.tuple #[lfindV b o n cap L p q t k, .int .i64 (lfindE L p q t k)]) ∧ Below w.heap.size w w' := by
  by_cases hm1 : mayE n p q t k = 0
  · rcases layouts t (mayE_zero hm1).1 with ⟨g1, g2, g3⟩ | ⟨g1, g0, g2, x, g3⟩ | ⟨g1, g0, g2, x, g3⟩
    · exact lfind_none b o n cap L p q t k w D hm1 g1 g2 g3
    · exact lfind_len b o n cap L p q t k w D hm1 x g1 g0 g2 g3
    · exact lfind_fix b o n cap L p q t k w D hm1 x g1 g0 g2 g3
  · exact lfind_may b o n cap L p q t k w D hm1
/-- The parts of the vector that list.find finds (0 where it fails). -/
def lFrom (L : List UInt8) (p q t k : Int) : Int := if lfindE L p q t k = 0 then targetV L p q t k - aheadOf t * k else 0
def lAt (L : List UInt8) (p q t k : Int) : Int := if lfindE L p q t k = 0 then targetV L p q t k else 0
def lTo (L : List UInt8) (p q t k : Int) : Int := if lfindE L p q t k = 0 then targetV L p q t k + lcnt L (targetV L p q t k) t k * eachOf t k else 0
def lCnt (L : List UInt8) (p q t k : Int) : Int := if lfindE L p q t k = 0 then lcnt L (targetV L p q t k) t k else 0
theorem lfindV_parts (b o n cap : Nat) (L : List UInt8) (p q t k : Int) : ∃ A m c x1 x2 x3 x4, lfindV b o n cap L p q t k =
    .agg #[.slice A m c, .int .i64 x1, .int .i64 x2, .int .i64 x3, .int .i64 x4, .int .i64 (lFrom L p q t k), .int .i64 (lAt L p q t k), .int .i64 (lTo L p q t k), .int .i64 (lCnt L p q t k)] := by
  by_cases h : lfindE L p q t k = 0
  · exact ⟨some ⟨b, o, none⟩, n, cap, p, q, t, k, by simp only [lfindV, lFrom, lAt, lTo, lCnt, h, if_true]⟩
  · exact ⟨none, 0, 0, 0, 0, 0, 0, by simp only [lfindV, lFrom, lAt, lTo, lCnt, h, if_false]⟩
theorem span_any (b o n cap : Nat) (L : List UInt8) (p q t k : Int) (w : World) (D : Doc w b o n cap L) :
    Calls Try.prog 103 #[.slice (some ⟨b, o, none⟩) n cap, .agg #[.int .i64 p, .int .i64 q, .int .i64 t, .int .i64 k]] w fun e w' =>
      e = .returned (.tuple #[.int .i64 (lFrom L p q t k), .int .i64 (lAt L p q t k), .int .i64 (lTo L p q t k), .int .i64 (lfindE L p q t k)]) ∧ Below w.heap.size w w' := by
  have hbw := D.lt
  obtain ⟨A, m, c, x1, x2, x3, x4, hV⟩ := lfindV_parts b o n cap L p q t k
  go_enter Try.func103, Try.ntmps103
  go_wp2_with (go_at_call 38; refine (lfind_any _ _ _ _ L _ _ _ _ _ (D.below zw)).mono ?_; rintro e w1 ⟨rfl, hb1⟩; obtain ⟨hc1, hf1, hl1⟩ := bcell hb1; (try simp only [zdz] at hc1 hf1 hl1); have hz1 := hb1.size; (try simp only [zsz] at hz1); (try have g0 : w.heap.size < w1.heap.size := by omega); (try have g1 : w.heap.size + 1 < w1.heap.size := by omega); (try have g2 : w.heap.size + 2 < w1.heap.size := by omega); (try have gb : b < w1.heap.size := by omega); (try have g3 : w.heap.size + 3 < w1.heap.size := by omega); (try have hbb : Below w.heap.size w w1 := zw); (try obtain ⟨hco, hfo, _⟩ := bcell hbb); (try have hb1 := hb1))
  go_region
  all_goals go_wp2
  all_goals (refine bodyPost_ret (v := .tuple #[.int .i64 (lFrom L p q t k), .int .i64 (lAt L p q t k), .int .i64 (lTo L p q t k), .int .i64 (lfindE L p q t k)]) (by simp [results, Try.results103, go_sem]) rfl ?_)
  all_goals exact ⟨rfl, by exact zw⟩
theorem len_any (b o n cap : Nat) (L : List UInt8) (p q t k : Int) (w : World) (D : Doc w b o n cap L) :
    Calls Try.prog 22 #[.slice (some ⟨b, o, none⟩) n cap, .agg #[.int .i64 p, .int .i64 q, .int .i64 t, .int .i64 k]] w fun e w' =>
      e = .returned (.tuple #[.int .i64 (lCnt L p q t k), .int .i64 (lfindE L p q t k)]) ∧ Below w.heap.size w w' := by
  have hbw := D.lt
  obtain ⟨A, m, c, x1, x2, x3, x4, hV⟩ := lfindV_parts b o n cap L p q t k
  go_enter Try.func22, Try.ntmps22
  go_wp2_with (go_at_call 38; refine (lfind_any _ _ _ _ L _ _ _ _ _ (D.below zw)).mono ?_; rintro e w1 ⟨rfl, hb1⟩; obtain ⟨hc1, hf1, hl1⟩ := bcell hb1; (try simp only [zdz] at hc1 hf1 hl1); have hz1 := hb1.size; (try simp only [zsz] at hz1); (try have g0 : w.heap.size < w1.heap.size := by omega); (try have g1 : w.heap.size + 1 < w1.heap.size := by omega); (try have g2 : w.heap.size + 2 < w1.heap.size := by omega); (try have gb : b < w1.heap.size := by omega); (try have g3 : w.heap.size + 3 < w1.heap.size := by omega); (try have hbb : Below w.heap.size w w1 := zw); (try obtain ⟨hco, hfo, _⟩ := bcell hbb); (try have hb1 := hb1))
  go_returns
  exact ⟨rfl, by exact zw⟩
/-- list.At: the byte of an element's tag, the error, the reference. -/
def tagY (L : List UInt8) (p q t k i : Int) : UInt8 := L.getD (lAt L p q t k + lCnt L p q t k * k + i).toNat 0
def latE (L : List UInt8) (p q t k i : Int) : Int :=
  if lfindE L p q t k ≠ 0 then lfindE L p q t k else if i < 0 ∨ lCnt L p q t k ≤ i then 6 else if tagB t then unpackE (tagY L p q t k i) else 0
def latP (L : List UInt8) (p q t k i : Int) : Int := if latE L p q t k i = 0 then lAt L p q t k + i * k else 0
def latQ (L : List UInt8) (p q t k i : Int) : Int := if latE L p q t k i = 0 then k else 0
def latT (L : List UInt8) (p q t k i : Int) : Int := if latE L p q t k i = 0 then (if tagB t then unpackT (tagY L p q t k i) else elemOf t) else 0
def latW (L : List UInt8) (p q t k i : Int) : Int := if latE L p q t k i = 0 then (if tagB t then unpackW (tagY L p q t k i) else k) else 0
def latV (L : List UInt8) (p q t k i : Int) : Value := .agg #[.int .i64 (latP L p q t k i), .int .i64 (latQ L p q t k i), .int .i64 (latT L p q t k i), .int .i64 (latW L p q t k i)]
theorem lat_bad {L : List UInt8} {p q t k i x : Int} (h : latE L p q t k i = x) (hx : x ≠ 0) : latV L p q t k i = .agg #[.int .i64 0, .int .i64 0, .int .i64 0, .int .i64 0] := by
  subst h; simp [latV, latP, latQ, latT, latW, hx]
set_option maxHeartbeats 2000000 in
theorem lat_err (b o n cap : Nat) (L : List UInt8) (p q t k i : Int) (w : World) (D : Doc w b o n cap L) (h : lfindE L p q t k ≠ 0 ∨ i < 0 ∨ lCnt L p q t k ≤ i) :
    Calls Try.prog 23 #[.slice (some ⟨b, o, none⟩) n cap, .agg #[.int .i64 p, .int .i64 q, .int .i64 t, .int .i64 k], .int .i64 i] w fun e w' =>
      e = .returned (.tuple #[latV L p q t k i, .int .i64 (latE L p q t k i)]) ∧ Below w.heap.size w w' := by
  have hbw := D.lt
  obtain ⟨A, m, c, x1, x2, x3, x4, hV⟩ := lfindV_parts b o n cap L p q t k
  by_cases he : lfindE L p q t k = 0
  · have e1 := Lib.hid (show latE L p q t k i = 6 by unfold latE; rw [if_neg (by rw [he]; decide), if_pos (by rcases h with h | h; exact absurd he h; exact h)])
    have e2 := Lib.hid (lat_bad e1.out (by decide))
    by_cases hi : i < 0
    · clear h
      go_enter Try.func23, Try.ntmps23
      go_wp2_with (go_at_call 38; refine (lfind_any _ _ _ _ L _ _ _ _ _ (D.below zw)).mono ?_; rintro e w1 ⟨rfl, hb1⟩; obtain ⟨hc1, hf1, hl1⟩ := bcell hb1; (try simp only [zdz] at hc1 hf1 hl1); have hz1 := hb1.size; (try simp only [zsz] at hz1); (try have g0 : w.heap.size < w1.heap.size := by omega); (try have g1 : w.heap.size + 1 < w1.heap.size := by omega); (try have g2 : w.heap.size + 2 < w1.heap.size := by omega); (try have gb : b < w1.heap.size := by omega); (try have g3 : w.heap.size + 3 < w1.heap.size := by omega); (try have hbb : Below w.heap.size w w1 := zw); (try obtain ⟨hco, hfo, _⟩ := bcell hbb); (try have hb1 := hb1))
      (refine bodyPost_ret (v := .tuple #[.agg #[.int .i64 0, .int .i64 0, .int .i64 0, .int .i64 0], .int .i64 6]) (by simp [results, Try.results23, go_sem, *]) rfl ?_)
      exact ⟨by rw [e1.out, e2.out], by exact zw⟩
    · have hc : lCnt L p q t k ≤ i := by rcases h with h | h | h; exact absurd he h; exact absurd h hi; exact h
      clear h
      go_enter Try.func23, Try.ntmps23
      go_wp2_with (go_at_call 38; refine (lfind_any _ _ _ _ L _ _ _ _ _ (D.below zw)).mono ?_; rintro e w1 ⟨rfl, hb1⟩; obtain ⟨hc1, hf1, hl1⟩ := bcell hb1; (try simp only [zdz] at hc1 hf1 hl1); have hz1 := hb1.size; (try simp only [zsz] at hz1); (try have g0 : w.heap.size < w1.heap.size := by omega); (try have g1 : w.heap.size + 1 < w1.heap.size := by omega); (try have g2 : w.heap.size + 2 < w1.heap.size := by omega); (try have gb : b < w1.heap.size := by omega); (try have g3 : w.heap.size + 3 < w1.heap.size := by omega); (try have hbb : Below w.heap.size w w1 := zw); (try obtain ⟨hco, hfo, _⟩ := bcell hbb); (try have hb1 := hb1))
      (refine bodyPost_ret (v := .tuple #[.agg #[.int .i64 0, .int .i64 0, .int .i64 0, .int .i64 0], .int .i64 6]) (by simp [results, Try.results23, go_sem, *]) rfl ?_)
      exact ⟨by rw [e1.out, e2.out], by exact zw⟩
  · have e1 := Lib.hid (show latE L p q t k i = lfindE L p q t k by unfold latE; rw [if_pos he])
    have e2 := Lib.hid (lat_bad e1.out he)
    have he' : (lfindE L p q t k != 0) = true := by simpa using he
    clear h he
    go_enter Try.func23, Try.ntmps23
    go_wp2_with (go_at_call 38; refine (lfind_any _ _ _ _ L _ _ _ _ _ (D.below zw)).mono ?_; rintro e w1 ⟨rfl, hb1⟩; obtain ⟨hc1, hf1, hl1⟩ := bcell hb1; (try simp only [zdz] at hc1 hf1 hl1); have hz1 := hb1.size; (try simp only [zsz] at hz1); (try have g0 : w.heap.size < w1.heap.size := by omega); (try have g1 : w.heap.size + 1 < w1.heap.size := by omega); (try have g2 : w.heap.size + 2 < w1.heap.size := by omega); (try have gb : b < w1.heap.size := by omega); (try have g3 : w.heap.size + 3 < w1.heap.size := by omega); (try have hbb : Below w.heap.size w w1 := zw); (try obtain ⟨hco, hfo, _⟩ := bcell hbb); (try have hb1 := hb1))
    (refine bodyPost_ret (v := .tuple #[.agg #[.int .i64 0, .int .i64 0, .int .i64 0, .int .i64 0], .int .i64 (lfindE L p q t k)]) (by simp [results, Try.results23, go_sem, *]) rfl ?_)
    exact ⟨by rw [e1.out, e2.out], by exact zw⟩
end
section
open Go.RowKit
theorem shape_f2 (a b c d : Value) (w : World) : (Instr.field 88 (.agg #[a, b, c, d]) 2).run Try.prog w = .ok c w := by kernel_rfl
attribute [go_sem] shape_f2
theorem lfindE_zero {L : List UInt8} {p q t k : Int} (h : lfindE L p q t k = 0) : targetE L p q t k = 0 ∧ vectorB t = true ∧ 0 ≤ lFrom L p q t k ∧ lAt L p q t k = targetV L p q t k ∧ 0 ≤ lAt L p q t k ∧ 0 ≤ lCnt L p q t k ∧ lCnt L p q t k ≤ L.length ∧
    lAt L p q t k + lCnt L p q t k * (k + tagsOf t) ≤ L.length ∧ lAt L p q t k ≤ p ∧ lAt L p q t k % k = 0 ∧ lFrom L p q t k = lAt L p q t k - aheadOf t * k := by
  have e1 : lFrom L p q t k = targetV L p q t k - aheadOf t * k := by simp [lFrom, h]
  have e2 : lAt L p q t k = targetV L p q t k := by simp [lAt, h]
  have e3 : lCnt L p q t k = lcnt L (targetV L p q t k) t k := by simp [lCnt, h]
  have c := (lcnt_bd L (targetV L p q t k) t k).1
  rw [e1, e2, e3]
  unfold lfindE at h
  split at h
  · contradiction
  · split at h
    · omega
    · rename_i hv
      split at h
      · contradiction
      · rename_i ht
        have ht : targetE L p q t k = 0 := by simpa using ht
        obtain ⟨_, _, t0, t1⟩ := targetE_zero ht
        split at h
        · omega
        · rename_i hal
          split at h
          · omega
          · rename_i hf
            split at h
            · omega
            · rename_i hn
              unfold eachOf at hn
              exact ⟨ht, by simpa using hv, by omega, rfl, t0, c, by omega, by omega, t1, by simpa using hal, rfl⟩
set_option maxRecDepth 100000 in
set_option maxHeartbeats 4000000 in
theorem lat_typed (b o n cap : Nat) (L : List UInt8) (p q t k i : Int) (w : World) (D : Doc w b o n cap L) (he : lfindE L p q t k = 0) (hi0 : 0 ≤ i) (hi1 : i < lCnt L p q t k) (g1 : tagB t = false) :
    Calls Try.prog 23 #[.slice (some ⟨b, o, none⟩) n cap, .agg #[.int .i64 p, .int .i64 q, .int .i64 t, .int .i64 k], .int .i64 i] w fun e w' =>
      e = .returned (.tuple #[.agg #[.int .i64 (lAt L p q t k + i * k), .int .i64 k, .int .i64 (elemOf t), .int .i64 k], .int .i64 0]) ∧ Below w.heap.size w w' := by
  obtain ⟨hn1, hn2⟩ := D.bd
  have hlen := D.len
  have hbw := D.lt
  obtain ⟨hT, hvec, hF, -, hA0, hC0, hC1, hC2, hA1, -, -⟩ := lfindE_zero he
  obtain ⟨hm0, -, -, -⟩ := targetE_zero hT
  obtain ⟨h1, h2, h3, h4, h5, h6, h7, h8, h9⟩ := mayE_zero hm0
  obtain ⟨t0, t1⟩ := kindOf_in h1
  have hix := shapes_index t t0 t1
  have hV : lfindV b o n cap L p q t k = .agg #[.slice (some ⟨b, o, none⟩) n cap, .int .i64 p, .int .i64 q, .int .i64 t, .int .i64 k, .int .i64 (lFrom L p q t k), .int .i64 (lAt L p q t k), .int .i64 (lTo L p q t k), .int .i64 (lCnt L p q t k)] := by
    simp only [lfindV, lFrom, lAt, lTo, lCnt, he, if_true]
  have g2 : elemFn t = .func (.func 72) #[] #[] := by
    have hv : vecB t = true := by simpa [vectorB, g1] using hvec
    simp [elemFn, g1, hv, fnV]
  obtain ⟨f0, hf0⟩ : ∃ f, manyFn t = .func (.func f) #[] #[] := by
    rcases layouts t h1 with ⟨g, _⟩ | ⟨_, _, g, _⟩ | ⟨_, _, g, _⟩
    · rw [g] at hvec; contradiction
    · exact ⟨_, g⟩
    · exact ⟨_, g⟩
  rw [hf0, g2] at hix
  clear h1 h2 h3 hT hvec
  go_enter Try.func23, Try.ntmps23
  go_upto_region 6 with (go_at_call 38; refine (lfind_any _ _ _ _ L _ _ _ _ _ (D.below zw)).mono ?_; rintro e w1 ⟨rfl, hb1⟩; obtain ⟨hc1, hf1, hl1⟩ := bcell hb1; (try simp only [zdz] at hc1 hf1 hl1); have hz1 := hb1.size; (try simp only [zsz] at hz1); (try have g0 : w.heap.size < w1.heap.size := by omega); (try have g1 : w.heap.size + 1 < w1.heap.size := by omega); (try have g2 : w.heap.size + 2 < w1.heap.size := by omega); (try have gb : b < w1.heap.size := by omega); (try have g3 : w.heap.size + 3 < w1.heap.size := by omega); (try have hbb : Below w.heap.size w w1 := zw); (try obtain ⟨hco, hfo, _⟩ := bcell hbb); (try have hb1 := hb1))
  obtain ⟨G, hG⟩ : ∃ G, G = w1.heap.size := ⟨_, rfl⟩
  obtain ⟨wg, hwg⟩ : ∃ wg, wg = w1.alloc (.cells #[.slice (some ⟨b, o, none⟩) n cap, .int .i64 p, .int .i64 q, .int .i64 t, .int .i64 k, .int .i64 (lFrom L p q t k), .int .i64 (lAt L p q t k), .int .i64 (lTo L p q t k), .int .i64 (lCnt L p q t k)] 82) := ⟨_, rfl⟩
  rw [← hwg, ← hG]
  have v0 : wg.cell? ⟨G, 0, none⟩ = some (.slice (some ⟨b, o, none⟩) n cap) := by rw [hwg, hG]; go_simp
  have v1 : wg.cell? ⟨G, 1, none⟩ = some (.int .i64 p) := by rw [hwg, hG]; go_simp
  have v2 : wg.cell? ⟨G, 2, none⟩ = some (.int .i64 q) := by rw [hwg, hG]; go_simp
  have v3 : wg.cell? ⟨G, 3, none⟩ = some (.int .i64 t) := by rw [hwg, hG]; go_simp
  have v4 : wg.cell? ⟨G, 4, none⟩ = some (.int .i64 k) := by rw [hwg, hG]; go_simp
  have v5 : wg.cell? ⟨G, 5, none⟩ = some (.int .i64 (lFrom L p q t k)) := by rw [hwg, hG]; go_simp
  have v6 : wg.cell? ⟨G, 6, none⟩ = some (.int .i64 (lAt L p q t k)) := by rw [hwg, hG]; go_simp
  have v7 : wg.cell? ⟨G, 7, none⟩ = some (.int .i64 (lTo L p q t k)) := by rw [hwg, hG]; go_simp
  have v8 : wg.cell? ⟨G, 8, none⟩ = some (.int .i64 (lCnt L p q t k)) := by rw [hwg, hG]; go_simp
  have v9 : wg.cell? ⟨w.heap.size, 2, none⟩ = some (.int .i64 t) := by rw [hwg]; go_simp
  have z0 : wg.cell? ⟨w.heap.size + 1, 0, none⟩ = some (.int .i64 0) := by rw [hwg]; go_simp
  have y0 : wg.frozen? ⟨w.heap.size + 1, 0, none⟩ = false := by rw [hwg]; go_simp
  have z1 : wg.cell? ⟨w.heap.size + 1, 1, none⟩ = some (.int .i64 0) := by rw [hwg]; go_simp
  have y1 : wg.frozen? ⟨w.heap.size + 1, 1, none⟩ = false := by rw [hwg]; go_simp
  have z2 : wg.cell? ⟨w.heap.size + 1, 2, none⟩ = some (.int .i64 0) := by rw [hwg]; go_simp
  have y2 : wg.frozen? ⟨w.heap.size + 1, 2, none⟩ = false := by rw [hwg]; go_simp
  have z3 : wg.cell? ⟨w.heap.size + 1, 3, none⟩ = some (.int .i64 0) := by rw [hwg]; go_simp
  have y3 : wg.frozen? ⟨w.heap.size + 1, 3, none⟩ = false := by rw [hwg]; go_simp
  have hGz : G < wg.heap.size := by rw [hwg, hG]; simp
  have hGw : w.heap.size + 2 ≤ G := by omega
  have hG0 : w.heap.size < wg.heap.size := by omega
  have d0 : wg.drew.cell? ⟨G, 0, none⟩ = _ := v0
  have d1 : wg.drew.cell? ⟨G, 1, none⟩ = _ := v1
  have d2 : wg.drew.cell? ⟨G, 2, none⟩ = _ := v2
  have d3 : wg.drew.cell? ⟨G, 3, none⟩ = _ := v3
  have d4 : wg.drew.cell? ⟨G, 4, none⟩ = _ := v4
  have d5 : wg.drew.cell? ⟨G, 5, none⟩ = _ := v5
  have d6 : wg.drew.cell? ⟨G, 6, none⟩ = _ := v6
  have d7 : wg.drew.cell? ⟨G, 7, none⟩ = _ := v7
  have d8 : wg.drew.cell? ⟨G, 8, none⟩ = _ := v8
  have d9 : wg.drew.cell? ⟨w.heap.size, 2, none⟩ = _ := v9
  have hn1 : ¬ (w.heap.size + 1 = G) := by omega
  have hn2 : ¬ (G = w.heap.size + 1) := by omega
  have hG1 : w.heap.size + 1 < wg.heap.size := by omega
  have hGb : b < wg.heap.size := by omega
  have hbg : Below w.heap.size w wg := by rw [hwg]; exact zw
  clear hwg hG hc1 hf1 hl1 hb1
  go_region_held3 (fun w' => w'.cell? ⟨G, 0, none⟩ = some (.slice (some ⟨b, o, none⟩) n cap) ∧ w'.cell? ⟨G, 1, none⟩ = some (.int .i64 p) ∧ w'.cell? ⟨G, 2, none⟩ = some (.int .i64 q) ∧ w'.cell? ⟨G, 3, none⟩ = some (.int .i64 t) ∧ w'.cell? ⟨G, 4, none⟩ = some (.int .i64 k) ∧ w'.cell? ⟨G, 5, none⟩ = some (.int .i64 (lFrom L p q t k)) ∧ w'.cell? ⟨G, 6, none⟩ = some (.int .i64 (lAt L p q t k)) ∧ w'.cell? ⟨G, 7, none⟩ = some (.int .i64 (lTo L p q t k)) ∧ w'.cell? ⟨G, 8, none⟩ = some (.int .i64 (lCnt L p q t k)) ∧ w'.cell? ⟨w.heap.size, 2, none⟩ = some (.int .i64 t)) (first | (with_reducible exact ⟨d0, d1, d2, d3, d4, d5, d6, d7, d8, d9⟩) | (with_reducible exact ⟨p0, p1, p2, p3, p4, p5, p6, p7, p8, p9⟩) | (with_reducible exact ⟨q0, q1, q2, q3, q4, q5, q6, q7, q8, q9⟩) | (refine ⟨?_, ?_, ?_, ?_, ?_, ?_, ?_, ?_, ?_, ?_⟩ <;> go_simp)) (first | (go_at_call 39; refine (shapes_any _).mono ?_; rintro e w1 ⟨rfl, hb1⟩; obtain ⟨hc1, hf1, hl1⟩ := bcell hb1; (try simp only [World.size_drew, World.cell?_drew, World.frozen?_drew] at hc1 hf1 hl1); have hz1 := hb1.size; (try simp only [World.size_alloc, World.size_setCell, World.size_drew] at hz1); (try have g0 : w.heap.size < w1.heap.size := by omega); (try have g1 : w.heap.size + 1 < w1.heap.size := by omega); (try have g2 : w.heap.size + 2 < w1.heap.size := by omega); (try have gb : b < w1.heap.size := by omega); (try have g3 : w.heap.size + 3 < w1.heap.size := by omega); (try have hbb : Below w.heap.size w w1 := zw); (try obtain ⟨hco, hfo, _⟩ := bcell hbb); (try have hb1 := hb1); have p0 := (hc1 G 0 (by omega)).trans v0; have p1 := (hc1 G 1 (by omega)).trans v1; have p2 := (hc1 G 2 (by omega)).trans v2; have p3 := (hc1 G 3 (by omega)).trans v3; have p4 := (hc1 G 4 (by omega)).trans v4; have p5 := (hc1 G 5 (by omega)).trans v5; have p6 := (hc1 G 6 (by omega)).trans v6; have p7 := (hc1 G 7 (by omega)).trans v7; have p8 := (hc1 G 8 (by omega)).trans v8; have p9 := (hc1 w.heap.size 2 (by omega)).trans v9) | (go_at_call 72; refine (ltyped_any _ _ _ p q t k _ _ _ _ _ _ hA0 (by omega) h7 h8 hi0 (by omega)).mono ?_; rintro e w1 ⟨rfl, hb1⟩; obtain ⟨hc1, hf1, hl1⟩ := bcell hb1; (try simp only [World.size_drew, World.cell?_drew, World.frozen?_drew] at hc1 hf1 hl1); have hz1 := hb1.size; (try simp only [World.size_alloc, World.size_setCell, World.size_drew] at hz1); (try have g0 : w.heap.size < w1.heap.size := by omega); (try have g1 : w.heap.size + 1 < w1.heap.size := by omega); (try have g2 : w.heap.size + 2 < w1.heap.size := by omega); (try have gb : b < w1.heap.size := by omega); (try have g3 : w.heap.size + 3 < w1.heap.size := by omega); (try have hbb : Below w.heap.size w w1 := zw); (try obtain ⟨hco, hfo, _⟩ := bcell hbb); (try have hb1 := hb1); have q0 := (hc1 G 0 (by omega)).trans p0; have q1 := (hc1 G 1 (by omega)).trans p1; have q2 := (hc1 G 2 (by omega)).trans p2; have q3 := (hc1 G 3 (by omega)).trans p3; have q4 := (hc1 G 4 (by omega)).trans p4; have q5 := (hc1 G 5 (by omega)).trans p5; have q6 := (hc1 G 6 (by omega)).trans p6; have q7 := (hc1 G 7 (by omega)).trans p7; have q8 := (hc1 G 8 (by omega)).trans p8; have q9 := (hc1 w.heap.size 2 (by omega)).trans p9))
  go_wp2
  (refine bodyPost_ret (v := .tuple #[.agg #[.int .i64 (lAt L p q t k + i * k), .int .i64 k, .int .i64 (elemOf t), .int .i64 k], .int .i64 0]) (by simp [results, Try.results23, go_sem, *]) rfl ?_)
  exact ⟨rfl, by exact zw⟩
set_option maxRecDepth 100000 in
set_option maxHeartbeats 4000000 in
theorem lat_tagged_good (b o n cap : Nat) (L : List UInt8) (p q t k i : Int) (w : World) (D : Doc w b o n cap L) (he : lfindE L p q t k = 0) (hi0 : 0 ≤ i) (hi1 : i < lCnt L p q t k) (g1 : tagB t = true) (hl : legalB (((tagY L p q t k i).toNat : Int) / 4) = true) :
    Calls Try.prog 23 #[.slice (some ⟨b, o, none⟩) n cap, .agg #[.int .i64 p, .int .i64 q, .int .i64 t, .int .i64 k], .int .i64 i] w fun e w' =>
      e = .returned (.tuple #[.agg #[.int .i64 (lAt L p q t k + i * k), .int .i64 k, .int .i64 (unpackT (tagY L p q t k i)), .int .i64 (unpackW (tagY L p q t k i))], .int .i64 0]) ∧ Below w.heap.size w w' := by
  obtain ⟨hn1, hn2⟩ := D.bd
  have hlen := D.len
  have hbw := D.lt
  obtain ⟨hT, hvec, hF, -, hA0, hC0, hC1, hC2, hA1, -, -⟩ := lfindE_zero he
  obtain ⟨hm0, -, -, -⟩ := targetE_zero hT
  obtain ⟨h1, h2, h3, h4, h5, h6, h7, h8, h9⟩ := mayE_zero hm0
  obtain ⟨t0, t1⟩ := kindOf_in h1
  have hix := shapes_index t t0 t1
  have hV : lfindV b o n cap L p q t k = .agg #[.slice (some ⟨b, o, none⟩) n cap, .int .i64 p, .int .i64 q, .int .i64 t, .int .i64 k, .int .i64 (lFrom L p q t k), .int .i64 (lAt L p q t k), .int .i64 (lTo L p q t k), .int .i64 (lCnt L p q t k)] := by
    simp only [lfindV, lFrom, lAt, lTo, lCnt, he, if_true]
  have g2 : elemFn t = .func (.func 74) #[] #[] := by simp [elemFn, g1, fnV]
  have g3 : tagsOf t = 1 := by simp [tagsOf, g1]
  rw [g3] at hC2
  have hlin : lAt L p q t k + lCnt L p q t k * k + i < n := by
    have := Int.mul_add (lCnt L p q t k) k 1
    omega
  clear g3
  obtain ⟨f0, hf0⟩ : ∃ f, manyFn t = .func (.func f) #[] #[] := by
    rcases layouts t h1 with ⟨g, _⟩ | ⟨_, _, g, _⟩ | ⟨_, _, g, _⟩
    · rw [g] at hvec; contradiction
    · exact ⟨_, g⟩
    · exact ⟨_, g⟩
  rw [hf0, g2] at hix
  clear h1 h2 h3 hT hvec
  go_enter Try.func23, Try.ntmps23
  go_upto_region 6 with (go_at_call 38; refine (lfind_any _ _ _ _ L _ _ _ _ _ (D.below zw)).mono ?_; rintro e w1 ⟨rfl, hb1⟩; obtain ⟨hc1, hf1, hl1⟩ := bcell hb1; (try simp only [zdz] at hc1 hf1 hl1); have hz1 := hb1.size; (try simp only [zsz] at hz1); (try have g0 : w.heap.size < w1.heap.size := by omega); (try have g1 : w.heap.size + 1 < w1.heap.size := by omega); (try have g2 : w.heap.size + 2 < w1.heap.size := by omega); (try have gb : b < w1.heap.size := by omega); (try have g3 : w.heap.size + 3 < w1.heap.size := by omega); (try have hbb : Below w.heap.size w w1 := zw); (try obtain ⟨hco, hfo, _⟩ := bcell hbb); (try have hb1 := hb1))
  obtain ⟨G, hG⟩ : ∃ G, G = w1.heap.size := ⟨_, rfl⟩
  obtain ⟨wg, hwg⟩ : ∃ wg, wg = w1.alloc (.cells #[.slice (some ⟨b, o, none⟩) n cap, .int .i64 p, .int .i64 q, .int .i64 t, .int .i64 k, .int .i64 (lFrom L p q t k), .int .i64 (lAt L p q t k), .int .i64 (lTo L p q t k), .int .i64 (lCnt L p q t k)] 82) := ⟨_, rfl⟩
  rw [← hwg, ← hG]
  have v0 : wg.cell? ⟨G, 0, none⟩ = some (.slice (some ⟨b, o, none⟩) n cap) := by rw [hwg, hG]; go_simp
  have v1 : wg.cell? ⟨G, 1, none⟩ = some (.int .i64 p) := by rw [hwg, hG]; go_simp
  have v2 : wg.cell? ⟨G, 2, none⟩ = some (.int .i64 q) := by rw [hwg, hG]; go_simp
  have v3 : wg.cell? ⟨G, 3, none⟩ = some (.int .i64 t) := by rw [hwg, hG]; go_simp
  have v4 : wg.cell? ⟨G, 4, none⟩ = some (.int .i64 k) := by rw [hwg, hG]; go_simp
  have v5 : wg.cell? ⟨G, 5, none⟩ = some (.int .i64 (lFrom L p q t k)) := by rw [hwg, hG]; go_simp
  have v6 : wg.cell? ⟨G, 6, none⟩ = some (.int .i64 (lAt L p q t k)) := by rw [hwg, hG]; go_simp
  have v7 : wg.cell? ⟨G, 7, none⟩ = some (.int .i64 (lTo L p q t k)) := by rw [hwg, hG]; go_simp
  have v8 : wg.cell? ⟨G, 8, none⟩ = some (.int .i64 (lCnt L p q t k)) := by rw [hwg, hG]; go_simp
  have v9 : wg.cell? ⟨w.heap.size, 2, none⟩ = some (.int .i64 t) := by rw [hwg]; go_simp
  have z0 : wg.cell? ⟨w.heap.size + 1, 0, none⟩ = some (.int .i64 0) := by rw [hwg]; go_simp
  have y0 : wg.frozen? ⟨w.heap.size + 1, 0, none⟩ = false := by rw [hwg]; go_simp
  have z1 : wg.cell? ⟨w.heap.size + 1, 1, none⟩ = some (.int .i64 0) := by rw [hwg]; go_simp
  have y1 : wg.frozen? ⟨w.heap.size + 1, 1, none⟩ = false := by rw [hwg]; go_simp
  have z2 : wg.cell? ⟨w.heap.size + 1, 2, none⟩ = some (.int .i64 0) := by rw [hwg]; go_simp
  have y2 : wg.frozen? ⟨w.heap.size + 1, 2, none⟩ = false := by rw [hwg]; go_simp
  have z3 : wg.cell? ⟨w.heap.size + 1, 3, none⟩ = some (.int .i64 0) := by rw [hwg]; go_simp
  have y3 : wg.frozen? ⟨w.heap.size + 1, 3, none⟩ = false := by rw [hwg]; go_simp
  have hGz : G < wg.heap.size := by rw [hwg, hG]; simp
  have hGw : w.heap.size + 2 ≤ G := by omega
  have hG0 : w.heap.size < wg.heap.size := by omega
  have d0 : wg.drew.cell? ⟨G, 0, none⟩ = _ := v0
  have d1 : wg.drew.cell? ⟨G, 1, none⟩ = _ := v1
  have d2 : wg.drew.cell? ⟨G, 2, none⟩ = _ := v2
  have d3 : wg.drew.cell? ⟨G, 3, none⟩ = _ := v3
  have d4 : wg.drew.cell? ⟨G, 4, none⟩ = _ := v4
  have d5 : wg.drew.cell? ⟨G, 5, none⟩ = _ := v5
  have d6 : wg.drew.cell? ⟨G, 6, none⟩ = _ := v6
  have d7 : wg.drew.cell? ⟨G, 7, none⟩ = _ := v7
  have d8 : wg.drew.cell? ⟨G, 8, none⟩ = _ := v8
  have d9 : wg.drew.cell? ⟨w.heap.size, 2, none⟩ = _ := v9
  have hn1 : ¬ (w.heap.size + 1 = G) := by omega
  have hn2 : ¬ (G = w.heap.size + 1) := by omega
  have hG1 : w.heap.size + 1 < wg.heap.size := by omega
  have hGb : b < wg.heap.size := by omega
  have hbg : Below w.heap.size w wg := by rw [hwg]; exact zw
  clear hwg hG hc1 hf1 hl1 hb1
  go_region_held3 (fun w' => w'.cell? ⟨G, 0, none⟩ = some (.slice (some ⟨b, o, none⟩) n cap) ∧ w'.cell? ⟨G, 1, none⟩ = some (.int .i64 p) ∧ w'.cell? ⟨G, 2, none⟩ = some (.int .i64 q) ∧ w'.cell? ⟨G, 3, none⟩ = some (.int .i64 t) ∧ w'.cell? ⟨G, 4, none⟩ = some (.int .i64 k) ∧ w'.cell? ⟨G, 5, none⟩ = some (.int .i64 (lFrom L p q t k)) ∧ w'.cell? ⟨G, 6, none⟩ = some (.int .i64 (lAt L p q t k)) ∧ w'.cell? ⟨G, 7, none⟩ = some (.int .i64 (lTo L p q t k)) ∧ w'.cell? ⟨G, 8, none⟩ = some (.int .i64 (lCnt L p q t k)) ∧ w'.cell? ⟨w.heap.size, 2, none⟩ = some (.int .i64 t)) (first | (with_reducible exact ⟨d0, d1, d2, d3, d4, d5, d6, d7, d8, d9⟩) | (with_reducible exact ⟨p0, p1, p2, p3, p4, p5, p6, p7, p8, p9⟩) | (with_reducible exact ⟨q0, q1, q2, q3, q4, q5, q6, q7, q8, q9⟩) | (refine ⟨?_, ?_, ?_, ?_, ?_, ?_, ?_, ?_, ?_, ?_⟩ <;> go_simp)) (first | (go_at_call 39; refine (shapes_any _).mono ?_; rintro e w1 ⟨rfl, hb1⟩; obtain ⟨hc1, hf1, hl1⟩ := bcell hb1; (try simp only [World.size_drew, World.cell?_drew, World.frozen?_drew] at hc1 hf1 hl1); have hz1 := hb1.size; (try simp only [World.size_alloc, World.size_setCell, World.size_drew] at hz1); (try have g0 : w.heap.size < w1.heap.size := by omega); (try have g1 : w.heap.size + 1 < w1.heap.size := by omega); (try have g2 : w.heap.size + 2 < w1.heap.size := by omega); (try have gb : b < w1.heap.size := by omega); (try have g3 : w.heap.size + 3 < w1.heap.size := by omega); (try have hbb : Below w.heap.size w w1 := zw); (try obtain ⟨hco, hfo, _⟩ := bcell hbb); (try have hb1 := hb1); have p0 := (hc1 G 0 (by omega)).trans v0; have p1 := (hc1 G 1 (by omega)).trans v1; have p2 := (hc1 G 2 (by omega)).trans v2; have p3 := (hc1 G 3 (by omega)).trans v3; have p4 := (hc1 G 4 (by omega)).trans v4; have p5 := (hc1 G 5 (by omega)).trans v5; have p6 := (hc1 G 6 (by omega)).trans v6; have p7 := (hc1 G 7 (by omega)).trans v7; have p8 := (hc1 G 8 (by omega)).trans v8; have p9 := (hc1 w.heap.size 2 (by omega)).trans v9) | (go_at_call 74; refine (ltagged_good _ _ _ _ L p q t k _ _ _ _ _ _ (D.below zw) hA0 (by omega) h7 h8 hi0 (by omega) hC0 (by omega) hlin (tagY L p q t k i) rfl hl).mono ?_; rintro e w1 ⟨rfl, hb1⟩; obtain ⟨hc1, hf1, hl1⟩ := bcell hb1; (try simp only [World.size_drew, World.cell?_drew, World.frozen?_drew] at hc1 hf1 hl1); have hz1 := hb1.size; (try simp only [World.size_alloc, World.size_setCell, World.size_drew] at hz1); (try have g0 : w.heap.size < w1.heap.size := by omega); (try have g1 : w.heap.size + 1 < w1.heap.size := by omega); (try have g2 : w.heap.size + 2 < w1.heap.size := by omega); (try have gb : b < w1.heap.size := by omega); (try have g3 : w.heap.size + 3 < w1.heap.size := by omega); (try have hbb : Below w.heap.size w w1 := zw); (try obtain ⟨hco, hfo, _⟩ := bcell hbb); (try have hb1 := hb1); have q0 := (hc1 G 0 (by omega)).trans p0; have q1 := (hc1 G 1 (by omega)).trans p1; have q2 := (hc1 G 2 (by omega)).trans p2; have q3 := (hc1 G 3 (by omega)).trans p3; have q4 := (hc1 G 4 (by omega)).trans p4; have q5 := (hc1 G 5 (by omega)).trans p5; have q6 := (hc1 G 6 (by omega)).trans p6; have q7 := (hc1 G 7 (by omega)).trans p7; have q8 := (hc1 G 8 (by omega)).trans p8; have q9 := (hc1 w.heap.size 2 (by omega)).trans p9))
  go_wp2
  (refine bodyPost_ret (v := .tuple #[.agg #[.int .i64 (lAt L p q t k + i * k), .int .i64 k, .int .i64 (unpackT (tagY L p q t k i)), .int .i64 (unpackW (tagY L p q t k i))], .int .i64 0]) (by simp [results, Try.results23, go_sem, *]) rfl ?_)
  exact ⟨rfl, by exact zw⟩
set_option maxRecDepth 100000 in
set_option maxHeartbeats 4000000 in
theorem lat_tagged_bad (b o n cap : Nat) (L : List UInt8) (p q t k i : Int) (w : World) (D : Doc w b o n cap L) (he : lfindE L p q t k = 0) (hi0 : 0 ≤ i) (hi1 : i < lCnt L p q t k) (g1 : tagB t = true) (hl : legalB (((tagY L p q t k i).toNat : Int) / 4) = false) :
    Calls Try.prog 23 #[.slice (some ⟨b, o, none⟩) n cap, .agg #[.int .i64 p, .int .i64 q, .int .i64 t, .int .i64 k], .int .i64 i] w fun e w' =>
      e = .returned (.tuple #[.agg #[.int .i64 0, .int .i64 0, .int .i64 0, .int .i64 0], .int .i64 20]) ∧ Below w.heap.size w w' := by
  obtain ⟨hn1, hn2⟩ := D.bd
  have hlen := D.len
  have hbw := D.lt
  obtain ⟨hT, hvec, hF, -, hA0, hC0, hC1, hC2, hA1, -, -⟩ := lfindE_zero he
  obtain ⟨hm0, -, -, -⟩ := targetE_zero hT
  obtain ⟨h1, h2, h3, h4, h5, h6, h7, h8, h9⟩ := mayE_zero hm0
  obtain ⟨t0, t1⟩ := kindOf_in h1
  have hix := shapes_index t t0 t1
  have hV : lfindV b o n cap L p q t k = .agg #[.slice (some ⟨b, o, none⟩) n cap, .int .i64 p, .int .i64 q, .int .i64 t, .int .i64 k, .int .i64 (lFrom L p q t k), .int .i64 (lAt L p q t k), .int .i64 (lTo L p q t k), .int .i64 (lCnt L p q t k)] := by
    simp only [lfindV, lFrom, lAt, lTo, lCnt, he, if_true]
  have g2 : elemFn t = .func (.func 74) #[] #[] := by simp [elemFn, g1, fnV]
  have g3 : tagsOf t = 1 := by simp [tagsOf, g1]
  rw [g3] at hC2
  have hlin : lAt L p q t k + lCnt L p q t k * k + i < n := by
    have := Int.mul_add (lCnt L p q t k) k 1
    omega
  clear g3
  obtain ⟨f0, hf0⟩ : ∃ f, manyFn t = .func (.func f) #[] #[] := by
    rcases layouts t h1 with ⟨g, _⟩ | ⟨_, _, g, _⟩ | ⟨_, _, g, _⟩
    · rw [g] at hvec; contradiction
    · exact ⟨_, g⟩
    · exact ⟨_, g⟩
  rw [hf0, g2] at hix
  clear h1 h2 h3 hT hvec
  go_enter Try.func23, Try.ntmps23
  go_upto_region 6 with (go_at_call 38; refine (lfind_any _ _ _ _ L _ _ _ _ _ (D.below zw)).mono ?_; rintro e w1 ⟨rfl, hb1⟩; obtain ⟨hc1, hf1, hl1⟩ := bcell hb1; (try simp only [zdz] at hc1 hf1 hl1); have hz1 := hb1.size; (try simp only [zsz] at hz1); (try have g0 : w.heap.size < w1.heap.size := by omega); (try have g1 : w.heap.size + 1 < w1.heap.size := by omega); (try have g2 : w.heap.size + 2 < w1.heap.size := by omega); (try have gb : b < w1.heap.size := by omega); (try have g3 : w.heap.size + 3 < w1.heap.size := by omega); (try have hbb : Below w.heap.size w w1 := zw); (try obtain ⟨hco, hfo, _⟩ := bcell hbb); (try have hb1 := hb1))
  obtain ⟨G, hG⟩ : ∃ G, G = w1.heap.size := ⟨_, rfl⟩
  obtain ⟨wg, hwg⟩ : ∃ wg, wg = w1.alloc (.cells #[.slice (some ⟨b, o, none⟩) n cap, .int .i64 p, .int .i64 q, .int .i64 t, .int .i64 k, .int .i64 (lFrom L p q t k), .int .i64 (lAt L p q t k), .int .i64 (lTo L p q t k), .int .i64 (lCnt L p q t k)] 82) := ⟨_, rfl⟩
  rw [← hwg, ← hG]
  have v0 : wg.cell? ⟨G, 0, none⟩ = some (.slice (some ⟨b, o, none⟩) n cap) := by rw [hwg, hG]; go_simp
  have v1 : wg.cell? ⟨G, 1, none⟩ = some (.int .i64 p) := by rw [hwg, hG]; go_simp
  have v2 : wg.cell? ⟨G, 2, none⟩ = some (.int .i64 q) := by rw [hwg, hG]; go_simp
  have v3 : wg.cell? ⟨G, 3, none⟩ = some (.int .i64 t) := by rw [hwg, hG]; go_simp
  have v4 : wg.cell? ⟨G, 4, none⟩ = some (.int .i64 k) := by rw [hwg, hG]; go_simp
  have v5 : wg.cell? ⟨G, 5, none⟩ = some (.int .i64 (lFrom L p q t k)) := by rw [hwg, hG]; go_simp
  have v6 : wg.cell? ⟨G, 6, none⟩ = some (.int .i64 (lAt L p q t k)) := by rw [hwg, hG]; go_simp
  have v7 : wg.cell? ⟨G, 7, none⟩ = some (.int .i64 (lTo L p q t k)) := by rw [hwg, hG]; go_simp
  have v8 : wg.cell? ⟨G, 8, none⟩ = some (.int .i64 (lCnt L p q t k)) := by rw [hwg, hG]; go_simp
  have v9 : wg.cell? ⟨w.heap.size, 2, none⟩ = some (.int .i64 t) := by rw [hwg]; go_simp
  have z0 : wg.cell? ⟨w.heap.size + 1, 0, none⟩ = some (.int .i64 0) := by rw [hwg]; go_simp
  have y0 : wg.frozen? ⟨w.heap.size + 1, 0, none⟩ = false := by rw [hwg]; go_simp
  have z1 : wg.cell? ⟨w.heap.size + 1, 1, none⟩ = some (.int .i64 0) := by rw [hwg]; go_simp
  have y1 : wg.frozen? ⟨w.heap.size + 1, 1, none⟩ = false := by rw [hwg]; go_simp
  have z2 : wg.cell? ⟨w.heap.size + 1, 2, none⟩ = some (.int .i64 0) := by rw [hwg]; go_simp
  have y2 : wg.frozen? ⟨w.heap.size + 1, 2, none⟩ = false := by rw [hwg]; go_simp
  have z3 : wg.cell? ⟨w.heap.size + 1, 3, none⟩ = some (.int .i64 0) := by rw [hwg]; go_simp
  have y3 : wg.frozen? ⟨w.heap.size + 1, 3, none⟩ = false := by rw [hwg]; go_simp
  have hGz : G < wg.heap.size := by rw [hwg, hG]; simp
  have hGw : w.heap.size + 2 ≤ G := by omega
  have hG0 : w.heap.size < wg.heap.size := by omega
  have d0 : wg.drew.cell? ⟨G, 0, none⟩ = _ := v0
  have d1 : wg.drew.cell? ⟨G, 1, none⟩ = _ := v1
  have d2 : wg.drew.cell? ⟨G, 2, none⟩ = _ := v2
  have d3 : wg.drew.cell? ⟨G, 3, none⟩ = _ := v3
  have d4 : wg.drew.cell? ⟨G, 4, none⟩ = _ := v4
  have d5 : wg.drew.cell? ⟨G, 5, none⟩ = _ := v5
  have d6 : wg.drew.cell? ⟨G, 6, none⟩ = _ := v6
  have d7 : wg.drew.cell? ⟨G, 7, none⟩ = _ := v7
  have d8 : wg.drew.cell? ⟨G, 8, none⟩ = _ := v8
  have d9 : wg.drew.cell? ⟨w.heap.size, 2, none⟩ = _ := v9
  have hn1 : ¬ (w.heap.size + 1 = G) := by omega
  have hn2 : ¬ (G = w.heap.size + 1) := by omega
  have hG1 : w.heap.size + 1 < wg.heap.size := by omega
  have hGb : b < wg.heap.size := by omega
  have hbg : Below w.heap.size w wg := by rw [hwg]; exact zw
  clear hwg hG hc1 hf1 hl1 hb1
  go_region_held3 (fun w' => w'.cell? ⟨G, 0, none⟩ = some (.slice (some ⟨b, o, none⟩) n cap) ∧ w'.cell? ⟨G, 1, none⟩ = some (.int .i64 p) ∧ w'.cell? ⟨G, 2, none⟩ = some (.int .i64 q) ∧ w'.cell? ⟨G, 3, none⟩ = some (.int .i64 t) ∧ w'.cell? ⟨G, 4, none⟩ = some (.int .i64 k) ∧ w'.cell? ⟨G, 5, none⟩ = some (.int .i64 (lFrom L p q t k)) ∧ w'.cell? ⟨G, 6, none⟩ = some (.int .i64 (lAt L p q t k)) ∧ w'.cell? ⟨G, 7, none⟩ = some (.int .i64 (lTo L p q t k)) ∧ w'.cell? ⟨G, 8, none⟩ = some (.int .i64 (lCnt L p q t k)) ∧ w'.cell? ⟨w.heap.size, 2, none⟩ = some (.int .i64 t)) (first | (with_reducible exact ⟨d0, d1, d2, d3, d4, d5, d6, d7, d8, d9⟩) | (with_reducible exact ⟨p0, p1, p2, p3, p4, p5, p6, p7, p8, p9⟩) | (with_reducible exact ⟨q0, q1, q2, q3, q4, q5, q6, q7, q8, q9⟩) | (refine ⟨?_, ?_, ?_, ?_, ?_, ?_, ?_, ?_, ?_, ?_⟩ <;> go_simp)) (first | (go_at_call 39; refine (shapes_any _).mono ?_; rintro e w1 ⟨rfl, hb1⟩; obtain ⟨hc1, hf1, hl1⟩ := bcell hb1; (try simp only [World.size_drew, World.cell?_drew, World.frozen?_drew] at hc1 hf1 hl1); have hz1 := hb1.size; (try simp only [World.size_alloc, World.size_setCell, World.size_drew] at hz1); (try have g0 : w.heap.size < w1.heap.size := by omega); (try have g1 : w.heap.size + 1 < w1.heap.size := by omega); (try have g2 : w.heap.size + 2 < w1.heap.size := by omega); (try have gb : b < w1.heap.size := by omega); (try have g3 : w.heap.size + 3 < w1.heap.size := by omega); (try have hbb : Below w.heap.size w w1 := zw); (try obtain ⟨hco, hfo, _⟩ := bcell hbb); (try have hb1 := hb1); have p0 := (hc1 G 0 (by omega)).trans v0; have p1 := (hc1 G 1 (by omega)).trans v1; have p2 := (hc1 G 2 (by omega)).trans v2; have p3 := (hc1 G 3 (by omega)).trans v3; have p4 := (hc1 G 4 (by omega)).trans v4; have p5 := (hc1 G 5 (by omega)).trans v5; have p6 := (hc1 G 6 (by omega)).trans v6; have p7 := (hc1 G 7 (by omega)).trans v7; have p8 := (hc1 G 8 (by omega)).trans v8; have p9 := (hc1 w.heap.size 2 (by omega)).trans v9) | (go_at_call 74; refine (ltagged_bad _ _ _ _ L p q t k _ _ _ _ _ _ (D.below zw) hA0 (by omega) h7 h8 hi0 (by omega) hC0 (by omega) hlin (tagY L p q t k i) rfl hl).mono ?_; rintro e w1 ⟨rfl, hb1⟩; obtain ⟨hc1, hf1, hl1⟩ := bcell hb1; (try simp only [World.size_drew, World.cell?_drew, World.frozen?_drew] at hc1 hf1 hl1); have hz1 := hb1.size; (try simp only [World.size_alloc, World.size_setCell, World.size_drew] at hz1); (try have g0 : w.heap.size < w1.heap.size := by omega); (try have g1 : w.heap.size + 1 < w1.heap.size := by omega); (try have g2 : w.heap.size + 2 < w1.heap.size := by omega); (try have gb : b < w1.heap.size := by omega); (try have g3 : w.heap.size + 3 < w1.heap.size := by omega); (try have hbb : Below w.heap.size w w1 := zw); (try obtain ⟨hco, hfo, _⟩ := bcell hbb); (try have hb1 := hb1); have q0 := (hc1 G 0 (by omega)).trans p0; have q1 := (hc1 G 1 (by omega)).trans p1; have q2 := (hc1 G 2 (by omega)).trans p2; have q3 := (hc1 G 3 (by omega)).trans p3; have q4 := (hc1 G 4 (by omega)).trans p4; have q5 := (hc1 G 5 (by omega)).trans p5; have q6 := (hc1 G 6 (by omega)).trans p6; have q7 := (hc1 G 7 (by omega)).trans p7; have q8 := (hc1 G 8 (by omega)).trans p8; have q9 := (hc1 w.heap.size 2 (by omega)).trans p9))
  go_wp2
  (refine bodyPost_ret (v := .tuple #[.agg #[.int .i64 0, .int .i64 0, .int .i64 0, .int .i64 0], .int .i64 20]) (by simp [results, Try.results23, go_sem, *]) rfl ?_)
  exact ⟨rfl, by exact zw⟩
theorem lat_any (b o n cap : Nat) (L : List UInt8) (p q t k i : Int) (w : World) (D : Doc w b o n cap L) :
    Calls Try.prog 23 #[.slice (some ⟨b, o, none⟩) n cap, .agg #[.int .i64 p, .int .i64 q, .int .i64 t, .int .i64 k], .int .i64 i] w fun e w' =>
      e = .returned (.tuple #[latV L p q t k i, .int .i64 (latE L p q t k i)]) ∧ Below w.heap.size w w' := by
  by_cases h : lfindE L p q t k ≠ 0 ∨ i < 0 ∨ lCnt L p q t k ≤ i
  · exact lat_err b o n cap L p q t k i w D h
  · have he : lfindE L p q t k = 0 := by
      by_cases h' : lfindE L p q t k = 0
      · exact h'
      · exact absurd (Or.inl h') h
    have hi : ¬ (i < 0 ∨ lCnt L p q t k ≤ i) := fun h' => h (Or.inr h')
    by_cases hg : tagB t = true
    · by_cases hl : legalB (((tagY L p q t k i).toNat : Int) / 4) = true
      · have u1 : unpackE (tagY L p q t k i) = 0 := by simp [unpackE, hl]
        have e1 : latE L p q t k i = 0 := by unfold latE; rw [if_neg (by rw [he]; decide), if_neg hi, if_pos hg, u1]
        have e2 : latV L p q t k i = .agg #[.int .i64 (lAt L p q t k + i * k), .int .i64 k, .int .i64 (unpackT (tagY L p q t k i)), .int .i64 (unpackW (tagY L p q t k i))] := by
          simp only [latV, latP, latQ, latT, latW, e1, hg, if_true]
        rw [e1, e2]
        exact lat_tagged_good b o n cap L p q t k i w D he (by omega) (by omega) hg hl
      · have hl' : legalB (((tagY L p q t k i).toNat : Int) / 4) = false := by simpa using hl
        have u1 : unpackE (tagY L p q t k i) = 20 := by simp [unpackE, hl']
        have e1 : latE L p q t k i = 20 := by unfold latE; rw [if_neg (by rw [he]; decide), if_neg hi, if_pos hg, u1]
        rw [e1, lat_bad e1 (by decide)]
        exact lat_tagged_bad b o n cap L p q t k i w D he (by omega) (by omega) hg hl'
    · have hg' : tagB t = false := by simpa using hg
      have e1 : latE L p q t k i = 0 := by unfold latE; rw [if_neg (by rw [he]; decide), if_neg hi, if_neg hg]
      have e2 : latV L p q t k i = .agg #[.int .i64 (lAt L p q t k + i * k), .int .i64 k, .int .i64 (elemOf t), .int .i64 k] := by
        simp only [latV, latP, latQ, latT, latW, e1, hg', if_true]; rfl
      rw [e1, e2]
      exact lat_typed b o n cap L p q t k i w D he (by omega) (by omega) hg'
end
end Go.Proofs.Ytmpflnlajakibaa
