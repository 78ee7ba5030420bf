/- The walks of tag, width, le. The walks of ref. The walks of ref.Target, ref.Root. -/
import Derived.Test.YtmpflnlajakibaaA1
namespace Go.Proofs.Ytmpflnlajakibaa
set_option linter.unusedVariables false
set_option linter.unusedSimpArgs false
section
open Go.RowKit
theorem kinds_index (t : Int) (h0 : 0 ≤ t) (h : t < 37) (w : World) :
    (Instr.index 141 (.agg kindsCells) (.int .i64 t)).run Try.prog w = .ok (.agg #[.int .i64 (isOf t), .int .i64 (elemOf t), .int .i64 (manyOf t)]) w := by
  have : t = 0 ∨ t = 1 ∨ t = 2 ∨ t = 3 ∨ t = 4 ∨ t = 5 ∨ t = 6 ∨ t = 7 ∨ t = 8 ∨ t = 9 ∨ t = 10 ∨ t = 11 ∨ t = 12 ∨ t = 13 ∨ t = 14 ∨ t = 15 ∨ t = 16 ∨ t = 17 ∨ t = 18 ∨ t = 19 ∨ t = 20 ∨ t = 21 ∨ t = 22 ∨ t = 23 ∨ t = 24 ∨ t = 25 ∨ t = 26 ∨ t = 27 ∨ t = 28 ∨ t = 29 ∨ t = 30 ∨ t = 31 ∨ t = 32 ∨ t = 33 ∨ t = 34 ∨ t = 35 ∨ t = 36 := by omega
  rcases this with rfl | rfl | rfl | rfl | rfl | rfl | rfl | rfl | rfl | rfl | rfl | rfl | rfl | rfl | rfl | rfl | rfl | rfl | rfl | rfl | rfl | rfl | rfl | rfl | rfl | rfl | rfl | rfl | rfl | rfl | rfl | rfl | rfl | rfl | rfl | rfl | rfl
  all_goals (show _ = _; kernel_rfl)
theorem of_any (t : Int) (w : World) : Calls Try.prog 78 #[.int .i64 t] w fun e w' => e = .returned (.agg #[.int .i64 (isOf t), .int .i64 (elemOf t), .int .i64 (manyOf t)]) ∧ Below w.heap.size w w' := by
  by_cases h : t < 0 ∨ 37 ≤ t
  · rw [isOf_out h, elemOf_out h, manyOf_out h]
    rcases h with h | h
    · go_enter Try.func78, Try.ntmps78
      go_wp2
      go_returns
      exact ⟨rfl, by exact zw⟩
    · have h' : ¬ t < 0 := by omega
      go_enter Try.func78, Try.ntmps78
      go_wp2
      go_returns
      exact ⟨rfl, by exact zw⟩
  · have h1 : ¬ t < 0 := by omega
    have h2 : ¬ 37 ≤ t := by omega
    have hi := kinds_index t (by omega) (by omega)
    go_enter Try.func78, Try.ntmps78
    go_wp2_with (go_at_call 107; refine (kinds_any _).mono ?_; rintro e w1 ⟨rfl, hb1⟩; obtain ⟨hc1, hf1, hl1⟩ := bcell hb1; (try simp only [zdz] at hc1 hf1 hl1); have hz1 := hb1.size; (try simp only [zsz] at hz1); (try have g0 : w.heap.size < w1.heap.size := by omega); (try have g1 : w.heap.size + 1 < w1.heap.size := by omega); (try have g2 : w.heap.size + 2 < w1.heap.size := by omega); (try have gb : b < w1.heap.size := by omega); (try have g3 : w.heap.size + 3 < w1.heap.size := by omega); (try have hbb : Below w.heap.size w w1 := zw); (try obtain ⟨hco, hfo, _⟩ := bcell hbb); (try have hb1 := hb1))
    clear hi
    (refine bodyPost_ret (v := .agg #[.int .i64 (isOf t), .int .i64 (elemOf t), .int .i64 (manyOf t)]) (by simp [results, Try.results78, go_sem, *]) rfl ?_)
    exact ⟨rfl, by exact zw⟩
theorem kind_f0 (a b c : Value) (w : World) : (Instr.field 125 (.agg #[a, b, c]) 0).run Try.prog w = .ok a w := by kernel_rfl
attribute [go_sem] kind_f0
theorem legal_any (t : Int) (w : World) : Calls Try.prog 61 #[.int .i64 t] w fun e w' => e = .returned (.bool (legalB t)) ∧ Below w.heap.size w w' := by
  go_enter Try.func61, Try.ntmps61
  go_wp2_with (go_at_call 78; refine (of_any _ _).mono ?_; rintro e w1 ⟨rfl, hb1⟩; obtain ⟨hc1, hf1, hl1⟩ := bcell hb1; (try simp only [zdz] at hc1 hf1 hl1); have hz1 := hb1.size; (try simp only [zsz] at hz1); (try have g0 : w.heap.size < w1.heap.size := by omega); (try have g1 : w.heap.size + 1 < w1.heap.size := by omega); (try have g2 : w.heap.size + 2 < w1.heap.size := by omega); (try have gb : b < w1.heap.size := by omega); (try have g3 : w.heap.size + 3 < w1.heap.size := by omega); (try have hbb : Below w.heap.size w w1 := zw); (try obtain ⟨hco, hfo, _⟩ := bcell hbb); (try have hb1 := hb1))
  go_returns
  exact ⟨rfl, by exact zw⟩
theorem inline_any (t : Int) (w : World) : Calls Try.prog 46 #[.int .i64 t] w fun e w' => e = .returned (.bool (inlineB t)) ∧ Below w.heap.size w w' := by
  go_enter Try.func46, Try.ntmps46
  go_wp2_with (go_at_call 78; refine (of_any _ _).mono ?_; rintro e w1 ⟨rfl, hb1⟩; obtain ⟨hc1, hf1, hl1⟩ := bcell hb1; (try simp only [zdz] at hc1 hf1 hl1); have hz1 := hb1.size; (try simp only [zsz] at hz1); (try have g0 : w.heap.size < w1.heap.size := by omega); (try have g1 : w.heap.size + 1 < w1.heap.size := by omega); (try have g2 : w.heap.size + 2 < w1.heap.size := by omega); (try have gb : b < w1.heap.size := by omega); (try have g3 : w.heap.size + 3 < w1.heap.size := by omega); (try have hbb : Below w.heap.size w w1 := zw); (try obtain ⟨hco, hfo, _⟩ := bcell hbb); (try have hb1 := hb1))
  go_returns
  exact ⟨rfl, by exact zw⟩
theorem elem_any (t : Int) (w : World) : Calls Try.prog 70 #[.int .i64 t] w fun e w' => e = .returned (.tuple #[.int .i64 (elemOf t), .int .i64 (manyOf t), .bool (vecB t)]) ∧ Below w.heap.size w w' := by
  go_enter Try.func70, Try.ntmps70
  go_wp2_with (go_at_call 78; refine (of_any _ _).mono ?_; rintro e w1 ⟨rfl, hb1⟩; obtain ⟨hc1, hf1, hl1⟩ := bcell hb1; (try simp only [zdz] at hc1 hf1 hl1); have hz1 := hb1.size; (try simp only [zsz] at hz1); (try have g0 : w.heap.size < w1.heap.size := by omega); (try have g1 : w.heap.size + 1 < w1.heap.size := by omega); (try have g2 : w.heap.size + 2 < w1.heap.size := by omega); (try have gb : b < w1.heap.size := by omega); (try have g3 : w.heap.size + 3 < w1.heap.size := by omega); (try have hbb : Below w.heap.size w w1 := zw); (try obtain ⟨hco, hfo, _⟩ := bcell hbb); (try have hb1 := hb1))
  go_region
  all_goals go_wp2
  all_goals go_returns
  all_goals exact ⟨rfl, by exact zw⟩
/-- Unpack: the type, the width, the error. -/
def unpackT (c : UInt8) : Int := if legalB ((c.toNat : Int) / 4) then ((c.toNat : Int) / 4) else 0
def unpackW (c : UInt8) : Int := if legalB ((c.toNat : Int) / 4) then 2 ^ (c.toNat % 4) else 0
def unpackE (c : UInt8) : Int := if legalB ((c.toNat : Int) / 4) then 0 else 20
theorem two_pow_mod4 (n : Nat) : wrap64 (2 ^ (n % 4)) = 2 ^ (n % 4) := by
  have : n % 4 = 0 ∨ n % 4 = 1 ∨ n % 4 = 2 ∨ n % 4 = 3 := by omega
  rcases this with h | h | h | h <;> rw [h] <;> exact IntWalk.wrap64_in _ ⟨by decide, by decide⟩
theorem unpack_any (c : UInt8) (w : World) : Calls Try.prog 43 #[.int .u8 c.toNat] w fun e w' => e = .returned (.tuple #[.int .i64 (unpackT c), .int .i64 (unpackW c), .int .i64 (unpackE c)]) ∧ Below w.heap.size w w' := by
  have hlt := c.toNat_lt
  by_cases hl : legalB ((c.toNat : Int) / 4) = true
  · have e1 : unpackT c = (c.toNat : Int) / 4 := by simp [unpackT, hl]
    have e2 : unpackW c = wrap64 (2 ^ (c.toNat % 4)) := by simp [unpackW, hl, two_pow_mod4]
    have e3 : unpackE c = 0 := by simp [unpackE, hl]
    rw [e1, e2, e3]; clear e1 e2 e3
    go_enter Try.func43, Try.ntmps43
    go_wp2_with (go_at_call 61; refine (legal_any _ _).mono ?_; rintro e w1 ⟨rfl, hb1⟩; obtain ⟨hc1, hf1, hl1⟩ := bcell hb1; (try simp only [zdz] at hc1 hf1 hl1); have hz1 := hb1.size; (try simp only [zsz] at hz1); (try have g0 : w.heap.size < w1.heap.size := by omega); (try have g1 : w.heap.size + 1 < w1.heap.size := by omega); (try have g2 : w.heap.size + 2 < w1.heap.size := by omega); (try have gb : b < w1.heap.size := by omega); (try have g3 : w.heap.size + 3 < w1.heap.size := by omega); (try have hbb : Below w.heap.size w w1 := zw); (try obtain ⟨hco, hfo, _⟩ := bcell hbb); (try have hb1 := hb1))
    go_returns
    exact ⟨rfl, by exact zw⟩
  · have hl' : legalB ((c.toNat : Int) / 4) = false := by simpa using hl
    have e1 : unpackT c = 0 := by simp [unpackT, hl']
    have e2 : unpackW c = 0 := by simp [unpackW, hl']
    have e3 : unpackE c = 20 := by simp [unpackE, hl']
    rw [e1, e2, e3]; clear e1 e2 e3 hl
    go_enter Try.func43, Try.ntmps43
    go_wp2_with (go_at_call 61; refine (legal_any _ _).mono ?_; rintro e w1 ⟨rfl, hb1⟩; obtain ⟨hc1, hf1, hl1⟩ := bcell hb1; (try simp only [zdz] at hc1 hf1 hl1); have hz1 := hb1.size; (try simp only [zsz] at hz1); (try have g0 : w.heap.size < w1.heap.size := by omega); (try have g1 : w.heap.size + 1 < w1.heap.size := by omega); (try have g2 : w.heap.size + 2 < w1.heap.size := by omega); (try have gb : b < w1.heap.size := by omega); (try have g3 : w.heap.size + 3 < w1.heap.size := by omega); (try have hbb : Below w.heap.size w w1 := zw); (try obtain ⟨hco, hfo, _⟩ := bcell hbb); (try have hb1 := hb1))
    go_returns
    exact ⟨rfl, by exact zw⟩
def codeOf (n : Int) : Int := if n = 2 then 1 else if n = 4 then 2 else if n = 8 then 3 else 0
def codeE (n : Int) : Int := if wideB n then 0 else 2
theorem code_any (n : Int) (w : World) : Calls Try.prog 77 #[.int .i64 n] w fun e w' => e = .returned (.tuple #[.int .i64 (codeOf n), .int .i64 (codeE n)]) ∧ w = w' := by
  by_cases h1 : n = 1
  · subst h1; go_enter Try.func77, Try.ntmps77
    go_wp2
    go_rounds 5
    go_ret2
    exact ⟨rfl, rfl⟩
  by_cases h2 : n = 2
  · subst h2; go_enter Try.func77, Try.ntmps77
    go_wp2
    go_rounds 5
    go_ret2
    exact ⟨rfl, rfl⟩
  by_cases h4 : n = 4
  · subst h4; go_enter Try.func77, Try.ntmps77
    go_wp2
    go_rounds 5
    go_ret2
    exact ⟨rfl, rfl⟩
  by_cases h8 : n = 8
  · subst h8; go_enter Try.func77, Try.ntmps77
    go_wp2
    go_rounds 5
    go_ret2
    exact ⟨rfl, rfl⟩
  have g1 : (n == 1) = false := by simp [h1]
  have g2 : (n == 2) = false := by simp [h2]
  have g4 : (n == 4) = false := by simp [h4]
  have g8 : (n == 8) = false := by simp [h8]
  have e1 : codeOf n = 0 := by simp [codeOf, h2, h4, h8]
  have e2 : codeE n = 2 := by simp [codeE, wideB, h1, h2, h4, h8]
  rw [e1, e2]; clear e1 e2
  go_enter Try.func77, Try.ntmps77
  go_wp2
  go_rounds 6
  go_ret2
  exact ⟨rfl, rfl⟩
theorem leis_any (n : Int) (w : World) : Calls Try.prog 127 #[.int .i64 n] w fun e w' => e = .returned (.bool (wideB n)) ∧ w = w' := by
  by_cases h1 : n = 1
  · subst h1; go_enter Try.func127, Try.ntmps127
    go_wp2
    go_returns
    exact ⟨rfl, rfl⟩
  by_cases h2 : n = 2
  · subst h2; go_enter Try.func127, Try.ntmps127
    go_wp2
    go_returns
    exact ⟨rfl, rfl⟩
  by_cases h4 : n = 4
  · subst h4; go_enter Try.func127, Try.ntmps127
    go_wp2
    go_returns
    exact ⟨rfl, rfl⟩
  have g1 : (n == 1) = false := by simp [h1]
  have g2 : (n == 2) = false := by simp [h2]
  have g4 : (n == 4) = false := by simp [h4]
  have e1 : wideB n = (n == 8) := by simp [wideB, h1, h2, h4]
  rw [e1]; clear e1
  go_enter Try.func127, Try.ntmps127
  go_wp2
  all_goals go_returns
  all_goals exact ⟨rfl, rfl⟩
theorem isWidth_any (n : Int) (w : World) : Calls Try.prog 42 #[.int .i64 n] w fun e w' => e = .returned (.bool (wideB n)) ∧ w = w' := by
  have hc : (codeE n == 0) = wideB n := by unfold codeE; cases wideB n <;> rfl
  go_enter Try.func42, Try.ntmps42
  go_wp2_with (go_at_call 77; refine (code_any _ _).mono ?_; rintro e w1 ⟨rfl, rfl⟩)
  go_returns
  exact ⟨rfl, rfl⟩
def insideB (n a k : Int) : Bool := decide (0 ≤ a) && (decide (0 ≤ k) && (decide (a ≤ n) && decide (k ≤ n - a)))
theorem inside_any (v : Option Addr) (n cap : Nat) (hn : n ≤ maxLen) (a k : Int) (w : World) : Calls Try.prog 63 #[.slice v n cap, .int .i64 a, .int .i64 k] w fun e w' => e = .returned (.bool (insideB n a k)) ∧ w = w' := by
  unfold maxLen at hn
  by_cases h1 : 0 ≤ a
  · by_cases h2 : 0 ≤ k
    · by_cases h3 : a ≤ n
      · have e : insideB n a k = decide (k ≤ n - a) := by simp [insideB, h1, h2, h3]
        rw [e]; clear e
        go_enter Try.func63, Try.ntmps63
        go_wp2
        go_returns
        exact ⟨rfl, rfl⟩
      · have e : insideB n a k = false := by simp [insideB, h3]
        rw [e]; clear e
        go_enter Try.func63, Try.ntmps63
        go_wp2
        go_returns
        exact ⟨rfl, rfl⟩
    · have e : insideB n a k = false := by simp [insideB, h2]
      rw [e]; clear e
      go_enter Try.func63, Try.ntmps63
      go_wp2
      go_returns
      exact ⟨rfl, rfl⟩
  · have e : insideB n a k = false := by simp [insideB, h1]
    rw [e]; clear e
    go_enter Try.func63, Try.ntmps63
    go_wp2
    go_returns
    exact ⟨rfl, rfl⟩
/-- le.Load's inner loop. -/
theorem load1_any (b o n : Nat) (L : List UInt8) (cap p : Nat) (w : World) (hn : L.length = n) (hs : n ≤ 8) (hc : BytesAt w b o L) (hp : w.cell? ⟨p, 0, none⟩ = some (.int .u64 0)) (hf : w.frozen? ⟨p, 0, none⟩ = false) (hbp : b < p) :
    Calls Try.prog 109 #[.slice (some ⟨b, o, none⟩) n cap, .pointer (some ⟨p, 0, none⟩)] w fun e w' => e = .returned (.int .i64 0) ∧ Below p w w' ∧ w'.cell? ⟨p, 0, none⟩ = some (.int .u64 (leVal L)) ∧ w'.frozen? ⟨p, 0, none⟩ = false ∧ w'.heap.size = w.heap.size := by
  have Hn := Lib.hid hn; clear hn
  go_enter Try.func109, Try.ntmps109
  go_wp2
  go_loopw [4, 5, 8] (fun x4 x5 i wr => ∃ k : Nat, k ≤ n ∧ i = .int .i64 k ∧ Below p w wr ∧ wr.heap.size = w.heap.size ∧ wr.frozen? ⟨p, 0, none⟩ = false ∧ wr.cell? ⟨p, 0, none⟩ = some (.int .u64 (leVal (L.take k)))) (fun _ _ i _ => n - (intOf i).toNat)
  case atStart => exact ⟨0, Nat.zero_le _, rfl, Below.refl _ _, rfl, hf, by simpa [leVal] using hp⟩
  case round =>
    rename_i wr
    obtain ⟨k, hk, rfl, hb, hz, hfr, hpr⟩ := hrel
    have Hz := Lib.hid hz; clear hz
    by_cases hlt : k < n
    · have hlk : k < L.length := by rw [Hn.out]; exact hlt
      have hcell : wr.cell? ⟨b, o + k, none⟩ = some (.int .u8 (L[k].toNat : Int)) := by rw [hb.cell hbp]; exact hc k hlk
      have hlt' : (k : Int) < (n : Int) := by omega
      have hk8 : (k:Int) < 8 := by omega
      have h8k : 0 ≤ (8:Int) * k := by omega
      have hst := Lib.hid (leVal_step L k hlk (by omega))
      go_wp2
      go_region
      all_goals go_wp2
      go_roundw
      case rel =>
        refine ⟨k + 1, by omega, by go_num, ?_, ?_, ?_, ?_⟩
        · exact zw
        · simp [Hz.out]
        · simp [hfr]
        · rw [World.cell?_drew, World.cell?_setCell_same' _ _ _ (by rw [hpr]; rfl), hst.out]
      case measure => simp only [intOf]; omega
    · have hlt' : ¬ (k : Int) < (n : Int) := by omega
      go_wp2
      go_returns
      refine ⟨rfl, hb, ?_, hfr, Hz.out⟩
      rw [hpr, List.take_of_length_le (by rw [Hn.out]; omega)]
/-- le.Load -/
theorem load_any (b o n cap : Nat) (L : List UInt8) (a k : Int) (w : World) (D : Doc w b o n cap L) :
    Calls Try.prog 79 #[.slice (some ⟨b, o, none⟩) n cap, .int .i64 a, .int .i64 k] w fun e w' => e = .returned (.tuple #[.int .u64 (loadV L a k), .int .i64 (loadE L a k)]) ∧ Below w.heap.size w w' := by
  obtain ⟨hn1, hn2⟩ := D.bd
  have hlen := D.len
  have hle := D.le
  have hbw := D.lt
  by_cases hw : wideB k = true
  · have hk := wideB_bd hw
    by_cases ha : a < 0
    · have e1 : loadE L a k = 6 := by simp [loadE, hw, ha]
      have e2 : loadV L a k = 0 := by simp [loadV, e1]
      rw [e1, e2]; clear e1 e2 hlen
      go_enter Try.func79, Try.ntmps79
      go_wp2_with (first | (go_at_call 127; refine (leis_any _ _).mono ?_; rintro e w1 ⟨rfl, rfl⟩) | go_in)
      go_returns
      exact ⟨rfl, by exact zw⟩
    · by_cases ha2 : (n : Int) - k < a
      · have e1 : loadE L a k = 6 := by simp [loadE, hw, hlen, ha2]
        have e2 : loadV L a k = 0 := by simp [loadV, e1]
        rw [e1, e2]; clear e1 e2 hlen
        go_enter Try.func79, Try.ntmps79
        go_wp2_with (first | (go_at_call 127; refine (leis_any _ _).mono ?_; rintro e w1 ⟨rfl, rfl⟩) | go_in)
        go_returns
        exact ⟨rfl, by exact zw⟩
      · have e1 : loadE L a k = 0 := by simp [loadE, hw, hlen, ha2, ha]
        have e2 : loadV L a k = leVal (window L a.toNat k.toNat) := by simp [loadV, e1]
        rw [e1, e2]; clear e1 e2
        obtain ⟨i, rfl⟩ := Int.eq_ofNat_of_zero_le (show 0 ≤ a by omega)
        obtain ⟨j, rfl⟩ := Int.eq_ofNat_of_zero_le (show 0 ≤ k by omega)
        rw [Int.toNat_natCast, Int.toNat_natCast]
        have hij : i + j ≤ n := by omega
        have hwl : (window L i j).length = j := window_length (by omega)
        have hW := D.at_.win i j (by omega)
        have Hc := Lib.hid (load1_any b (o + i) j (window L i j) (cap - i) w.heap.size (w.alloc (.cells #[.int .u64 0] 40)) hwl (by omega) (fun q hq => by rw [Below.cell (B := w.heap.size) ((Below.refl _ _).alloc (Nat.le_refl _) _) (p := ⟨b, _, none⟩) hbw]; exact hW q hq) (by simp [go_sem]) (by simp [go_sem]) hbw)
        have hj1 : 1 ≤ j := by omega
        clear hlen hwl hW hk
        go_enter Try.func79, Try.ntmps79
        go_wp2_with (first | (go_at_call 127; refine (leis_any _ _).mono ?_; rintro e w1 ⟨rfl, rfl⟩) | (go_at_call 109; refine (Hc.out).mono ?_; rintro e w1 ⟨rfl, hb1, hc1, hf1, hz1⟩; have Hz := Lib.hid hz1; clear hz1) | (go_at_call 108; go_in))
        (refine bodyPost_ret (v := .tuple #[.int .u64 (leVal (window L i j)), .int .i64 0]) (by simp [results, Try.results79, go_sem, *]) rfl ?_)
        have hz := Hz.out
        simp only [World.size_alloc] at hz
        exact ⟨rfl, (((Below.refl _ _).alloc (Nat.le_refl _) _).trans hb1).setCell (by simp) _⟩
  · have hw' : wideB k = false := by simpa using hw
    have e1 : loadE L a k = 2 := by simp [loadE, hw']
    have e2 : loadV L a k = 0 := by simp [loadV, e1]
    rw [e1, e2]; clear e1 e2 hw hlen
    go_enter Try.func79, Try.ntmps79
    go_wp2_with (first | (go_at_call 127; refine (leis_any _ _).mono ?_; rintro e w1 ⟨rfl, rfl⟩) | go_in)
    go_returns
    exact ⟨rfl, by exact zw⟩
end
section
open Go.RowKit
def mayE (n p q t k : Int) : Int := if (legalB t && wideB q && wideB k) = false then 2 else if insideB n p q = false then 6 else 0
set_option maxHeartbeats 1000000 in
theorem may_any (b o n cap : Nat) (L : List UInt8) (p q t k : Int) (w : World) (D : Doc w b o n cap L) :
    Calls Try.prog 32 #[.slice (some ⟨b, o, none⟩) n cap, .agg #[.int .i64 p, .int .i64 q, .int .i64 t, .int .i64 k]] w fun e w' => e = .returned (.int .i64 (mayE n p q t k)) ∧ Below w.heap.size w w' := by
  obtain ⟨hn1, hn2⟩ := D.bd
  have hmax : n ≤ maxLen := Nat.le_trans D.le D.max
  have hbw := D.lt
  by_cases h1 : legalB t = true
  · by_cases h2 : wideB q = true
    · by_cases h3 : wideB k = true
      · by_cases h4 : insideB n p q = true
        · have e1 : mayE n p q t k = 0 := by simp [mayE, h1, h2, h3, h4]
          rw [e1]; clear e1
          go_enter Try.func32, Try.ntmps32
          go_wp2
          refine wp_loop_rounds 3 ?_
          rw [rounds_succ]
          go_wp2_with (first | (go_at_call 61; refine (legal_any _ _).mono ?_; rintro e w1 ⟨rfl, hb1⟩; obtain ⟨hc1, hf1, hl1⟩ := bcell hb1; (try simp only [zdz] at hc1 hf1 hl1); have hz1 := hb1.size; (try simp only [zsz] at hz1); (try have g0 : w.heap.size < w1.heap.size := by omega); (try have g1 : w.heap.size + 1 < w1.heap.size := by omega); (try have g2 : w.heap.size + 2 < w1.heap.size := by omega); (try have gb : b < w1.heap.size := by omega); (try have g3 : w.heap.size + 3 < w1.heap.size := by omega); (try have hbb : Below w.heap.size w w1 := zw); (try obtain ⟨hco, hfo, _⟩ := bcell hbb); (try have hb1 := hb1)) | (go_at_call 42; refine (isWidth_any _ _).mono ?_; rintro e w1 ⟨rfl, rfl⟩) | (go_at_call 63; refine (inside_any _ _ _ hmax _ _ _).mono ?_; rintro e w1 ⟨rfl, rfl⟩) | (go_at_call 60; go_in) | (go_at_call 62; go_in))
          rw [rounds_succ]
          go_wp2_with (first | (go_at_call 61; refine (legal_any _ _).mono ?_; rintro e w1 ⟨rfl, hb1⟩; obtain ⟨hc1, hf1, hl1⟩ := bcell hb1; (try simp only [zdz] at hc1 hf1 hl1); have hz1 := hb1.size; (try simp only [zsz] at hz1); (try have g0 : w.heap.size < w1.heap.size := by omega); (try have g1 : w.heap.size + 1 < w1.heap.size := by omega); (try have g2 : w.heap.size + 2 < w1.heap.size := by omega); (try have gb : b < w1.heap.size := by omega); (try have g3 : w.heap.size + 3 < w1.heap.size := by omega); (try have hbb : Below w.heap.size w w1 := zw); (try obtain ⟨hco, hfo, _⟩ := bcell hbb); (try have hb1 := hb1)) | (go_at_call 42; refine (isWidth_any _ _).mono ?_; rintro e w1 ⟨rfl, rfl⟩) | (go_at_call 63; refine (inside_any _ _ _ hmax _ _ _).mono ?_; rintro e w1 ⟨rfl, rfl⟩) | (go_at_call 60; go_in) | (go_at_call 62; go_in))
          rw [rounds_succ]
          go_wp2_with (first | (go_at_call 61; refine (legal_any _ _).mono ?_; rintro e w1 ⟨rfl, hb1⟩; obtain ⟨hc1, hf1, hl1⟩ := bcell hb1; (try simp only [zdz] at hc1 hf1 hl1); have hz1 := hb1.size; (try simp only [zsz] at hz1); (try have g0 : w.heap.size < w1.heap.size := by omega); (try have g1 : w.heap.size + 1 < w1.heap.size := by omega); (try have g2 : w.heap.size + 2 < w1.heap.size := by omega); (try have gb : b < w1.heap.size := by omega); (try have g3 : w.heap.size + 3 < w1.heap.size := by omega); (try have hbb : Below w.heap.size w w1 := zw); (try obtain ⟨hco, hfo, _⟩ := bcell hbb); (try have hb1 := hb1)) | (go_at_call 42; refine (isWidth_any _ _).mono ?_; rintro e w1 ⟨rfl, rfl⟩) | (go_at_call 63; refine (inside_any _ _ _ hmax _ _ _).mono ?_; rintro e w1 ⟨rfl, rfl⟩) | (go_at_call 60; go_in) | (go_at_call 62; go_in))
          go_returns
          exact ⟨rfl, by exact zw⟩
        · have h4' : insideB n p q = false := by simpa using h4
          have e1 : mayE n p q t k = 6 := by simp [mayE, h1, h2, h3, h4']
          rw [e1]; clear e1 h4
          go_enter Try.func32, Try.ntmps32
          go_wp2
          refine wp_loop_rounds 3 ?_
          rw [rounds_succ]
          go_wp2_with (first | (go_at_call 61; refine (legal_any _ _).mono ?_; rintro e w1 ⟨rfl, hb1⟩; obtain ⟨hc1, hf1, hl1⟩ := bcell hb1; (try simp only [zdz] at hc1 hf1 hl1); have hz1 := hb1.size; (try simp only [zsz] at hz1); (try have g0 : w.heap.size < w1.heap.size := by omega); (try have g1 : w.heap.size + 1 < w1.heap.size := by omega); (try have g2 : w.heap.size + 2 < w1.heap.size := by omega); (try have gb : b < w1.heap.size := by omega); (try have g3 : w.heap.size + 3 < w1.heap.size := by omega); (try have hbb : Below w.heap.size w w1 := zw); (try obtain ⟨hco, hfo, _⟩ := bcell hbb); (try have hb1 := hb1)) | (go_at_call 42; refine (isWidth_any _ _).mono ?_; rintro e w1 ⟨rfl, rfl⟩) | (go_at_call 63; refine (inside_any _ _ _ hmax _ _ _).mono ?_; rintro e w1 ⟨rfl, rfl⟩) | (go_at_call 60; go_in) | (go_at_call 62; go_in))
          rw [rounds_succ]
          go_wp2_with (first | (go_at_call 61; refine (legal_any _ _).mono ?_; rintro e w1 ⟨rfl, hb1⟩; obtain ⟨hc1, hf1, hl1⟩ := bcell hb1; (try simp only [zdz] at hc1 hf1 hl1); have hz1 := hb1.size; (try simp only [zsz] at hz1); (try have g0 : w.heap.size < w1.heap.size := by omega); (try have g1 : w.heap.size + 1 < w1.heap.size := by omega); (try have g2 : w.heap.size + 2 < w1.heap.size := by omega); (try have gb : b < w1.heap.size := by omega); (try have g3 : w.heap.size + 3 < w1.heap.size := by omega); (try have hbb : Below w.heap.size w w1 := zw); (try obtain ⟨hco, hfo, _⟩ := bcell hbb); (try have hb1 := hb1)) | (go_at_call 42; refine (isWidth_any _ _).mono ?_; rintro e w1 ⟨rfl, rfl⟩) | (go_at_call 63; refine (inside_any _ _ _ hmax _ _ _).mono ?_; rintro e w1 ⟨rfl, rfl⟩) | (go_at_call 60; go_in) | (go_at_call 62; go_in))
          go_returns
          exact ⟨rfl, by exact zw⟩
      · have h3' : wideB k = false := by simpa using h3
        have e1 : mayE n p q t k = 2 := by simp [mayE, h3']
        rw [e1]; clear e1 h3
        go_enter Try.func32, Try.ntmps32
        go_wp2
        refine wp_loop_rounds 3 ?_
        rw [rounds_succ]
        go_wp2_with (first | (go_at_call 61; refine (legal_any _ _).mono ?_; rintro e w1 ⟨rfl, hb1⟩; obtain ⟨hc1, hf1, hl1⟩ := bcell hb1; (try simp only [zdz] at hc1 hf1 hl1); have hz1 := hb1.size; (try simp only [zsz] at hz1); (try have g0 : w.heap.size < w1.heap.size := by omega); (try have g1 : w.heap.size + 1 < w1.heap.size := by omega); (try have g2 : w.heap.size + 2 < w1.heap.size := by omega); (try have gb : b < w1.heap.size := by omega); (try have g3 : w.heap.size + 3 < w1.heap.size := by omega); (try have hbb : Below w.heap.size w w1 := zw); (try obtain ⟨hco, hfo, _⟩ := bcell hbb); (try have hb1 := hb1)) | (go_at_call 42; refine (isWidth_any _ _).mono ?_; rintro e w1 ⟨rfl, rfl⟩) | (go_at_call 63; refine (inside_any _ _ _ hmax _ _ _).mono ?_; rintro e w1 ⟨rfl, rfl⟩) | (go_at_call 60; go_in) | (go_at_call 62; go_in))
        go_returns
        exact ⟨rfl, by exact zw⟩
    · have h2' : wideB q = false := by simpa using h2
      have e1 : mayE n p q t k = 2 := by simp [mayE, h2']
      rw [e1]; clear e1 h2
      go_enter Try.func32, Try.ntmps32
      go_wp2
      refine wp_loop_rounds 3 ?_
      rw [rounds_succ]
      go_wp2_with (first | (go_at_call 61; refine (legal_any _ _).mono ?_; rintro e w1 ⟨rfl, hb1⟩; obtain ⟨hc1, hf1, hl1⟩ := bcell hb1; (try simp only [zdz] at hc1 hf1 hl1); have hz1 := hb1.size; (try simp only [zsz] at hz1); (try have g0 : w.heap.size < w1.heap.size := by omega); (try have g1 : w.heap.size + 1 < w1.heap.size := by omega); (try have g2 : w.heap.size + 2 < w1.heap.size := by omega); (try have gb : b < w1.heap.size := by omega); (try have g3 : w.heap.size + 3 < w1.heap.size := by omega); (try have hbb : Below w.heap.size w w1 := zw); (try obtain ⟨hco, hfo, _⟩ := bcell hbb); (try have hb1 := hb1)) | (go_at_call 42; refine (isWidth_any _ _).mono ?_; rintro e w1 ⟨rfl, rfl⟩) | (go_at_call 63; refine (inside_any _ _ _ hmax _ _ _).mono ?_; rintro e w1 ⟨rfl, rfl⟩) | (go_at_call 60; go_in) | (go_at_call 62; go_in))
      go_returns
      exact ⟨rfl, by exact zw⟩
  · have h1' : legalB t = false := by simpa using h1
    have e1 : mayE n p q t k = 2 := by simp [mayE, h1']
    rw [e1]; clear e1 h1
    go_enter Try.func32, Try.ntmps32
    go_wp2
    refine wp_loop_rounds 3 ?_
    rw [rounds_succ]
    go_wp2_with (first | (go_at_call 61; refine (legal_any _ _).mono ?_; rintro e w1 ⟨rfl, hb1⟩; obtain ⟨hc1, hf1, hl1⟩ := bcell hb1; (try simp only [zdz] at hc1 hf1 hl1); have hz1 := hb1.size; (try simp only [zsz] at hz1); (try have g0 : w.heap.size < w1.heap.size := by omega); (try have g1 : w.heap.size + 1 < w1.heap.size := by omega); (try have g2 : w.heap.size + 2 < w1.heap.size := by omega); (try have gb : b < w1.heap.size := by omega); (try have g3 : w.heap.size + 3 < w1.heap.size := by omega); (try have hbb : Below w.heap.size w w1 := zw); (try obtain ⟨hco, hfo, _⟩ := bcell hbb); (try have hb1 := hb1)) | (go_at_call 42; refine (isWidth_any _ _).mono ?_; rintro e w1 ⟨rfl, rfl⟩) | (go_at_call 63; refine (inside_any _ _ _ hmax _ _ _).mono ?_; rintro e w1 ⟨rfl, rfl⟩) | (go_at_call 60; go_in) | (go_at_call 62; go_in))
    go_returns
    exact ⟨rfl, by exact zw⟩
end
section
open Go.RowKit
theorem mayE_zero {n p q t k : Int} (h : mayE n p q t k = 0) : legalB t = true ∧ wideB q = true ∧ wideB k = true ∧ 0 ≤ p ∧ 1 ≤ q ∧ q ≤ 8 ∧ 1 ≤ k ∧ k ≤ 8 ∧ p + q ≤ n := by
  unfold mayE at h
  split at h
  · omega
  · rename_i h1
    split at h
    · omega
    · rename_i h2
      simp only [Bool.not_eq_false, Bool.and_eq_true] at h1
      simp only [insideB, Bool.not_eq_false, Bool.and_eq_true, decide_eq_true_eq] at h2
      obtain ⟨⟨a, b⟩, c⟩ := h1
      have := wideB_bd b; have := wideB_bd c
      exact ⟨a, b, c, by omega, by omega, by omega, by omega, by omega, by omega⟩
def targetE (L : List UInt8) (p q t k : Int) : Int :=
  if mayE L.length p q t k ≠ 0 then mayE L.length p q t k else if inlineB t then 60 else if p < loadV L p q then 211 else 0
def targetV (L : List UInt8) (p q t k : Int) : Int := if targetE L p q t k = 0 then p - loadV L p q else 0
theorem loadE_zero {L : List UInt8} {p q : Int} (h1 : wideB q = true) (h2 : 0 ≤ p) (h3 : p + q ≤ L.length) : loadE L p q = 0 := by
  unfold loadE; rw [if_neg (by simp [h1]), if_neg (by omega)]
theorem targetE_zero {L : List UInt8} {p q t k : Int} (h : targetE L p q t k = 0) : mayE L.length p q t k = 0 ∧ inlineB t = false ∧ 0 ≤ targetV L p q t k ∧ targetV L p q t k ≤ p := by
  have hv : targetV L p q t k = p - loadV L p q := by simp [targetV, h]
  have h0 := loadV_nonneg L p q
  unfold targetE at h
  split at h
  · contradiction
  · rename_i h1
    split at h
    · omega
    · rename_i h2
      split at h
      · omega
      · exact ⟨by simpa using h1, by simpa using h2, by omega, by omega⟩
set_option maxHeartbeats 1000000 in
theorem target_any (b o n cap : Nat) (L : List UInt8) (p q t k : Int) (w : World) (D : Doc w b o n cap L) :
    Calls Try.prog 69 #[.slice (some ⟨b, o, none⟩) n cap, .agg #[.int .i64 p, .int .i64 q, .int .i64 t, .int .i64 k]] w fun e w' => e = .returned (.tuple #[.int .i64 (targetV L p q t k), .int .i64 (targetE L p q t k)]) ∧ Below w.heap.size w w' := by
  obtain ⟨hn1, hn2⟩ := D.bd
  have hlen := D.len
  by_cases hm : mayE n p q t k = 0
  · obtain ⟨h1, h2, h3, h4, h5, h6, h7, h8, h9⟩ := mayE_zero hm
    have e0 := loadE_zero (L := L) h2 h4 (by rw [hlen]; exact h9)
    have v0 := loadV_nonneg L p q
    by_cases hi : inlineB t = true
    · have e1 : targetE L p q t k = 60 := by simp [targetE, hlen, hm, hi]
      have e2 : targetV L p q t k = 0 := by simp [targetV, e1]
      rw [e1, e2]; clear e1 e2 hlen h1 h2 h3
      go_enter Try.func69, Try.ntmps69
      go_wp2_with ((first | (go_at_call 32; refine (may_any _ _ _ _ L _ _ _ _ _ (D.below zw)).mono ?_) | (go_at_call 46; refine (inline_any _ _).mono ?_) | (go_at_call 79; refine (load_any _ _ _ _ L _ _ _ (D.below zw)).mono ?_)); rintro e w1 ⟨rfl, hb1⟩; obtain ⟨hc1, hf1, hl1⟩ := bcell hb1; (try simp only [zdz] at hc1 hf1 hl1); have hz1 := hb1.size; (try simp only [zsz] at hz1); (try have g0 : w.heap.size < w1.heap.size := by omega); (try have g1 : w.heap.size + 1 < w1.heap.size := by omega); (try have g2 : w.heap.size + 2 < w1.heap.size := by omega); (try have gb : b < w1.heap.size := by omega); (try have g3 : w.heap.size + 3 < w1.heap.size := by omega); (try have hbb : Below w.heap.size w w1 := zw); (try obtain ⟨hco, hfo, _⟩ := bcell hbb); (try have hb1 := hb1))
      go_returns
      exact ⟨rfl, by exact zw⟩
    · have hi' : inlineB t = false := by simpa using hi
      clear hi
      by_cases hv : p < loadV L p q
      · have e1 : targetE L p q t k = 211 := by simp [targetE, hlen, hm, hi', hv]
        have e2 : targetV L p q t k = 0 := by simp [targetV, e1]
        rw [e1, e2]; clear e1 e2 hlen h1 h2 h3
        go_enter Try.func69, Try.ntmps69
        go_wp2_with ((first | (go_at_call 32; refine (may_any _ _ _ _ L _ _ _ _ _ (D.below zw)).mono ?_) | (go_at_call 46; refine (inline_any _ _).mono ?_) | (go_at_call 79; refine (load_any _ _ _ _ L _ _ _ (D.below zw)).mono ?_)); rintro e w1 ⟨rfl, hb1⟩; obtain ⟨hc1, hf1, hl1⟩ := bcell hb1; (try simp only [zdz] at hc1 hf1 hl1); have hz1 := hb1.size; (try simp only [zsz] at hz1); (try have g0 : w.heap.size < w1.heap.size := by omega); (try have g1 : w.heap.size + 1 < w1.heap.size := by omega); (try have g2 : w.heap.size + 2 < w1.heap.size := by omega); (try have gb : b < w1.heap.size := by omega); (try have g3 : w.heap.size + 3 < w1.heap.size := by omega); (try have hbb : Below w.heap.size w w1 := zw); (try obtain ⟨hco, hfo, _⟩ := bcell hbb); (try have hb1 := hb1))
        go_returns
        exact ⟨rfl, by exact zw⟩
      · have e1 : targetE L p q t k = 0 := by simp [targetE, hlen, hm, hi', hv]
        have e2 : targetV L p q t k = p - loadV L p q := by simp [targetV, e1]
        rw [e1, e2]; clear e1 e2 hlen h1 h2 h3
        go_enter Try.func69, Try.ntmps69
        go_wp2_with ((first | (go_at_call 32; refine (may_any _ _ _ _ L _ _ _ _ _ (D.below zw)).mono ?_) | (go_at_call 46; refine (inline_any _ _).mono ?_) | (go_at_call 79; refine (load_any _ _ _ _ L _ _ _ (D.below zw)).mono ?_)); rintro e w1 ⟨rfl, hb1⟩; obtain ⟨hc1, hf1, hl1⟩ := bcell hb1; (try simp only [zdz] at hc1 hf1 hl1); have hz1 := hb1.size; (try simp only [zsz] at hz1); (try have g0 : w.heap.size < w1.heap.size := by omega); (try have g1 : w.heap.size + 1 < w1.heap.size := by omega); (try have g2 : w.heap.size + 2 < w1.heap.size := by omega); (try have gb : b < w1.heap.size := by omega); (try have g3 : w.heap.size + 3 < w1.heap.size := by omega); (try have hbb : Below w.heap.size w w1 := zw); (try obtain ⟨hco, hfo, _⟩ := bcell hbb); (try have hb1 := hb1))
        go_returns
        exact ⟨rfl, by exact zw⟩
  · have e1 : targetE L p q t k = mayE n p q t k := by simp [targetE, hlen, hm]
    have e2 : targetV L p q t k = 0 := by simp [targetV, e1, hm]
    have hm' : (mayE n p q t k != 0) = true := by simpa using hm
    rw [e1, e2]; clear e1 e2 hlen hm
    go_enter Try.func69, Try.ntmps69
    go_wp2_with ((first | (go_at_call 32; refine (may_any _ _ _ _ L _ _ _ _ _ (D.below zw)).mono ?_) | (go_at_call 46; refine (inline_any _ _).mono ?_) | (go_at_call 79; refine (load_any _ _ _ _ L _ _ _ (D.below zw)).mono ?_)); rintro e w1 ⟨rfl, hb1⟩; obtain ⟨hc1, hf1, hl1⟩ := bcell hb1; (try simp only [zdz] at hc1 hf1 hl1); have hz1 := hb1.size; (try simp only [zsz] at hz1); (try have g0 : w.heap.size < w1.heap.size := by omega); (try have g1 : w.heap.size + 1 < w1.heap.size := by omega); (try have g2 : w.heap.size + 2 < w1.heap.size := by omega); (try have gb : b < w1.heap.size := by omega); (try have g3 : w.heap.size + 3 < w1.heap.size := by omega); (try have hbb : Below w.heap.size w w1 := zw); (try obtain ⟨hco, hfo, _⟩ := bcell hbb); (try have hb1 := hb1))
    go_returns
    exact ⟨rfl, by exact zw⟩
/-- ref.Root over the last two bytes: c the width of the root, d its tag. -/
def rootE (n : Int) (c d : UInt8) : Int :=
  if n < 3 ∨ wideB c.toNat = false then 210 else if legalB ((d.toNat : Int) / 4) = false then 20
  else if n - 2 - c.toNat < 0 ∨ (n - 2) % c.toNat ≠ 0 then 210 else 0
def rootP (n : Int) (c d : UInt8) : Int := if rootE n c d = 0 then n - 2 - c.toNat else 0
def rootQ (n : Int) (c d : UInt8) : Int := if rootE n c d = 0 then c.toNat else 0
def rootT (n : Int) (c d : UInt8) : Int := if rootE n c d = 0 then unpackT d else 0
def rootW (n : Int) (c d : UInt8) : Int := if rootE n c d = 0 then unpackW d else 0
theorem root_bad {n : Int} {c d : UInt8} {x : Int} (h : rootE n c d = x) (hx : x ≠ 0) : rootP n c d = 0 ∧ rootQ n c d = 0 ∧ rootT n c d = 0 ∧ rootW n c d = 0 := by
  subst h; simp [rootP, rootQ, rootT, rootW, hx]
set_option maxHeartbeats 1000000 in
theorem root_any (b o n cap : Nat) (L : List UInt8) (w : World) (D : Doc w b o n cap L) (c d : UInt8) (hc : L.getD (n - 1) 0 = c) (hd : L.getD (n - 2) 0 = d) :
    Calls Try.prog 28 #[.slice (some ⟨b, o, none⟩) n cap] w fun e w' => e = .returned (.tuple #[.agg #[.int .i64 (rootP n c d), .int .i64 (rootQ n c d), .int .i64 (rootT n c d), .int .i64 (rootW n c d)], .int .i64 (rootE n c d)]) ∧ Below w.heap.size w w' := by
  obtain ⟨hn1, hn2⟩ := D.bd
  have hle := D.le
  have hbw := D.lt
  by_cases h3 : n < 3
  · have e1 : rootE n c d = 210 := by unfold rootE; rw [if_pos (Or.inl (by omega))]
    obtain ⟨e2, e3, e4, e5⟩ := root_bad e1 (by decide)
    rw [e1, e2, e3, e4, e5]; clear e1 e2 e3 e4 e5
    go_enter Try.func28, Try.ntmps28
    go_wp2_with (go_at_call 42; refine (isWidth_any _ _).mono ?_; rintro e w1 ⟨rfl, rfl⟩)
    (refine bodyPost_ret (v := .tuple #[.agg #[.int .i64 0, .int .i64 0, .int .i64 0, .int .i64 0], .int .i64 210]) (by simp [results, Try.results28, go_sem, *]) rfl ?_)
    exact ⟨rfl, by exact zw⟩
  have hb1 := D.byte (n - 1) (by omega)
  have hb2 := D.byte (n - 2) (by omega)
  rw [hc] at hb1; rw [hd] at hb2
  clear hc hd
  have hcl := c.toNat_lt
  by_cases hw' : wideB c.toNat = false
  · have e1 : rootE n c d = 210 := by unfold rootE; rw [if_pos (Or.inr hw')]
    obtain ⟨e2, e3, e4, e5⟩ := root_bad e1 (by decide)
    rw [e1, e2, e3, e4, e5]; clear e1 e2 e3 e4 e5
    go_enter Try.func28, Try.ntmps28
    go_wp2_with (first | (go_at_call 42; refine (isWidth_any _ _).mono ?_; rintro e w1 ⟨rfl, rfl⟩) | (go_at_call 43; refine (unpack_any _ _).mono ?_; rintro e w1 ⟨rfl, hb1⟩; obtain ⟨hc1, hf1, hl1⟩ := bcell hb1; (try simp only [zdz] at hc1 hf1 hl1); have hz1 := hb1.size; (try simp only [zsz] at hz1); (try have g0 : w.heap.size < w1.heap.size := by omega); (try have g1 : w.heap.size + 1 < w1.heap.size := by omega); (try have g2 : w.heap.size + 2 < w1.heap.size := by omega); (try have gb : b < w1.heap.size := by omega); (try have g3 : w.heap.size + 3 < w1.heap.size := by omega); (try have hbb : Below w.heap.size w w1 := zw); (try obtain ⟨hco, hfo, _⟩ := bcell hbb); (try have hb1 := hb1)))
    (refine bodyPost_ret (v := .tuple #[.agg #[.int .i64 0, .int .i64 0, .int .i64 0, .int .i64 0], .int .i64 210]) (by simp [results, Try.results28, go_sem, *]) rfl ?_)
    exact ⟨rfl, by exact zw⟩
  have hw : wideB c.toNat = true := by simpa using hw'
  have hwb := wideB_bd hw
  have g1 : ¬ ((n : Int) < 3 ∨ wideB c.toNat = false) := by simp [hw]; omega
  clear hw'
  by_cases hl' : legalB ((d.toNat : Int) / 4) = false
  · have e1 : rootE n c d = 20 := by unfold rootE; rw [if_neg g1, if_pos hl']
    have u1 : unpackE d = 20 := by simp [unpackE, hl']
    clear g1
    obtain ⟨e2, e3, e4, e5⟩ := root_bad e1 (by decide)
    rw [e1, e2, e3, e4, e5]; clear e1 e2 e3 e4 e5
    go_enter Try.func28, Try.ntmps28
    go_wp2_with (first | (go_at_call 42; refine (isWidth_any _ _).mono ?_; rintro e w1 ⟨rfl, rfl⟩) | (go_at_call 43; refine (unpack_any _ _).mono ?_; rintro e w1 ⟨rfl, hb1⟩; obtain ⟨hc1, hf1, hl1⟩ := bcell hb1; (try simp only [zdz] at hc1 hf1 hl1); have hz1 := hb1.size; (try simp only [zsz] at hz1); (try have g0 : w.heap.size < w1.heap.size := by omega); (try have g1 : w.heap.size + 1 < w1.heap.size := by omega); (try have g2 : w.heap.size + 2 < w1.heap.size := by omega); (try have gb : b < w1.heap.size := by omega); (try have g3 : w.heap.size + 3 < w1.heap.size := by omega); (try have hbb : Below w.heap.size w w1 := zw); (try obtain ⟨hco, hfo, _⟩ := bcell hbb); (try have hb1 := hb1)))
    (refine bodyPost_ret (v := .tuple #[.agg #[.int .i64 0, .int .i64 0, .int .i64 0, .int .i64 0], .int .i64 20]) (by simp [results, Try.results28, go_sem, *]) rfl ?_)
    exact ⟨rfl, by exact zw⟩
  have hl : legalB ((d.toNat : Int) / 4) = true := by simpa using hl'
  have u1 : unpackE d = 0 := by simp [unpackE, hl]
  by_cases hp : (n : Int) - 2 - c.toNat < 0
  · have e1 : rootE n c d = 210 := by unfold rootE; rw [if_neg g1, if_neg hl', if_pos (Or.inl hp)]
    clear g1 hl'
    obtain ⟨e2, e3, e4, e5⟩ := root_bad e1 (by decide)
    rw [e1, e2, e3, e4, e5]; clear e1 e2 e3 e4 e5
    go_enter Try.func28, Try.ntmps28
    go_wp2_with (first | (go_at_call 42; refine (isWidth_any _ _).mono ?_; rintro e w1 ⟨rfl, rfl⟩) | (go_at_call 43; refine (unpack_any _ _).mono ?_; rintro e w1 ⟨rfl, hb1⟩; obtain ⟨hc1, hf1, hl1⟩ := bcell hb1; (try simp only [zdz] at hc1 hf1 hl1); have hz1 := hb1.size; (try simp only [zsz] at hz1); (try have g0 : w.heap.size < w1.heap.size := by omega); (try have g1 : w.heap.size + 1 < w1.heap.size := by omega); (try have g2 : w.heap.size + 2 < w1.heap.size := by omega); (try have gb : b < w1.heap.size := by omega); (try have g3 : w.heap.size + 3 < w1.heap.size := by omega); (try have hbb : Below w.heap.size w w1 := zw); (try obtain ⟨hco, hfo, _⟩ := bcell hbb); (try have hb1 := hb1)))
    (refine bodyPost_ret (v := .tuple #[.agg #[.int .i64 0, .int .i64 0, .int .i64 0, .int .i64 0], .int .i64 210]) (by simp [results, Try.results28, go_sem, *]) rfl ?_)
    exact ⟨rfl, by exact zw⟩
  by_cases hr : ((n : Int) - 2) % c.toNat = 0
  · have e1 : rootE n c d = 0 := by unfold rootE; rw [if_neg g1, if_neg hl', if_neg (by omega)]
    have e2 : rootP n c d = n - 2 - c.toNat := by simp [rootP, e1]
    have e3 : rootQ n c d = c.toNat := by simp [rootQ, e1]
    have e4 : rootT n c d = unpackT d := by simp [rootT, e1]
    have e5 : rootW n c d = unpackW d := by simp [rootW, e1]
    have hr' : (((n : Int) - 2) % c.toNat != 0) = false := by simpa using hr
    rw [e1, e2, e3, e4, e5]; clear e1 e2 e3 e4 e5 g1 hl' hr
    go_enter Try.func28, Try.ntmps28
    go_wp2_with (first | (go_at_call 42; refine (isWidth_any _ _).mono ?_; rintro e w1 ⟨rfl, rfl⟩) | (go_at_call 43; refine (unpack_any _ _).mono ?_; rintro e w1 ⟨rfl, hb1⟩; obtain ⟨hc1, hf1, hl1⟩ := bcell hb1; (try simp only [zdz] at hc1 hf1 hl1); have hz1 := hb1.size; (try simp only [zsz] at hz1); (try have g0 : w.heap.size < w1.heap.size := by omega); (try have g1 : w.heap.size + 1 < w1.heap.size := by omega); (try have g2 : w.heap.size + 2 < w1.heap.size := by omega); (try have gb : b < w1.heap.size := by omega); (try have g3 : w.heap.size + 3 < w1.heap.size := by omega); (try have hbb : Below w.heap.size w w1 := zw); (try obtain ⟨hco, hfo, _⟩ := bcell hbb); (try have hb1 := hb1)))
    (refine bodyPost_ret (v := .tuple #[.agg #[.int .i64 ((n : Int) - 2 - c.toNat), .int .i64 c.toNat, .int .i64 (unpackT d), .int .i64 (unpackW d)], .int .i64 0]) (by simp [results, Try.results28, go_sem, *]) rfl ?_)
    exact ⟨rfl, by exact zw⟩
  · have e1 : rootE n c d = 210 := by unfold rootE; rw [if_neg g1, if_neg hl', if_pos (Or.inr hr)]
    have hr' : (((n : Int) - 2) % c.toNat != 0) = true := by simpa using hr
    clear g1 hl' hr
    obtain ⟨e2, e3, e4, e5⟩ := root_bad e1 (by decide)
    rw [e1, e2, e3, e4, e5]; clear e1 e2 e3 e4 e5
    go_enter Try.func28, Try.ntmps28
    go_wp2_with (first | (go_at_call 42; refine (isWidth_any _ _).mono ?_; rintro e w1 ⟨rfl, rfl⟩) | (go_at_call 43; refine (unpack_any _ _).mono ?_; rintro e w1 ⟨rfl, hb1⟩; obtain ⟨hc1, hf1, hl1⟩ := bcell hb1; (try simp only [zdz] at hc1 hf1 hl1); have hz1 := hb1.size; (try simp only [zsz] at hz1); (try have g0 : w.heap.size < w1.heap.size := by omega); (try have g1 : w.heap.size + 1 < w1.heap.size := by omega); (try have g2 : w.heap.size + 2 < w1.heap.size := by omega); (try have gb : b < w1.heap.size := by omega); (try have g3 : w.heap.size + 3 < w1.heap.size := by omega); (try have hbb : Below w.heap.size w w1 := zw); (try obtain ⟨hco, hfo, _⟩ := bcell hbb); (try have hb1 := hb1)))
    (refine bodyPost_ret (v := .tuple #[.agg #[.int .i64 0, .int .i64 0, .int .i64 0, .int .i64 0], .int .i64 210]) (by simp [results, Try.results28, go_sem, *]) rfl ?_)
    exact ⟨rfl, by exact zw⟩
theorem root_nil (w : World) : Calls Try.prog 28 #[.slice none 0 0] w fun e w' => e = .returned (.tuple #[.agg #[.int .i64 0, .int .i64 0, .int .i64 0, .int .i64 0], .int .i64 210]) ∧ Below w.heap.size w w' := by
  go_enter Try.func28, Try.ntmps28
  go_wp2_with (go_at_call 42; refine (isWidth_any _ _).mono ?_; rintro e w1 ⟨rfl, rfl⟩)
  (refine bodyPost_ret (v := .tuple #[.agg #[.int .i64 0, .int .i64 0, .int .i64 0, .int .i64 0], .int .i64 210]) (by simp [results, Try.results28, go_sem, *]) rfl ?_)
  exact ⟨rfl, by exact zw⟩
/-- le.LoadInt -/
def sext (k : Int) (u : Int) : Int := if k = 8 then wrap64 u else if u < 2 ^ (8 * k.toNat - 1) then u else u - 2 ^ (8 * k.toNat)
end
end Go.Proofs.Ytmpflnlajakibaa
