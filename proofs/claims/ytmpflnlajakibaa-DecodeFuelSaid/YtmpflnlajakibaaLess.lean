/- key.Less and the reference's Less: both are lessB. -/
import Derived.Test.YtmpflnlajakibaaA6
namespace Go.Proofs.Ytmpflnlajakibaa
set_option linter.unusedVariables false
set_option linter.unusedSimpArgs false
open Go.RowKit
theorem bytesLess_lessB : ∀ (x y : List UInt8), Op.bytesLess x y = lessB x y
  | [], [] => rfl
  | _ :: _, [] => rfl
  | [], _ :: _ => rfl
  | a :: x, b :: y => by
    rw [Op.bytesLess, lessB, bytesLess_lessB x y]
    by_cases h : a = b
    · subst h; simp
    · have h' : (a == b) = false := by simpa using h
      rw [if_neg h, h']
      simp only [Bool.false_and, Bool.or_false]
      rfl
theorem less_any (s u : List UInt8) (w : World) : Calls Try.prog 126 #[strV s, strV u] w fun e w' => e = .returned (.bool (lessB s u)) ∧ w = w' := by
  rw [← bytesLess_lessB]
  show Calls Try.prog 126 #[.string ⟨s.toArray⟩, .string ⟨u.toArray⟩] w _
  go_enter Try.func126, Try.ntmps126
  go_wp2
  go_returns
  exact ⟨rfl, rfl⟩
theorem str_index (s : List UInt8) (k : Nat) (h : k < s.length) (W : World) : (Instr.index 9 (.string ⟨s.toArray⟩) (.int .i64 (k : Int))).run Try.prog W = .ok (.int .u8 (s[k].toNat : Int)) W := by
  rw [run_index_string (P := Try.prog) (w := W) (t := 9) (s := ⟨s.toArray⟩) (k := .i64) (i := (k : Int)) (h := Try.underlying9)]
  have hs : (ByteArray.mk s.toArray).size = s.length := by simp [ByteArray.size]
  have hk : (0 : Int) ≤ (k : Int) ∧ (k : Int) < ((ByteArray.mk s.toArray).size : Int) := by rw [hs]; omega
  rw [dif_pos hk]
  simp only [Int.toNat_natCast]
  rfl
theorem lessB_drop (s u : List UInt8) (k : Nat) (h1 : k < s.length) (h2 : k < u.length) :
    lessB (s.drop k) (u.drop k) = if s[k] = u[k] then lessB (s.drop (k + 1)) (u.drop (k + 1)) else decide (s[k].toNat < u[k].toNat) := by
  rw [List.drop_eq_getElem_cons h1, List.drop_eq_getElem_cons h2, lessB]
set_option maxHeartbeats 2000000 in
theorem rless_any (s u : List UInt8) (hs : s.length ≤ 1073741824) (hu : u.length ≤ 1073741824) (w : World) :
    Calls Try.prog 118 #[strV s, strV u] w fun e w' => e = .returned (.bool (lessB s u)) ∧ Below w.heap.size w w' := by
  show Calls Try.prog 118 #[.string ⟨s.toArray⟩, .string ⟨u.toArray⟩] w _
  go_enter Try.func118, Try.ntmps118
  go_wp2
  go_loopw [5] (fun i wr => ∃ k : Nat, k ≤ s.length ∧ k ≤ u.length ∧ i = .int .i64 k ∧ Below w.heap.size w wr ∧ lessB s u = lessB (s.drop k) (u.drop k)) (fun i _ => s.length - (intOf i).toNat)
  case atStart => exact ⟨0, by omega, by omega, rfl, by exact zw, rfl⟩
  case round =>
    rename_i wr
    obtain ⟨k, hk1, hk2, rfl, hb, he⟩ := hrel
    have He := Lib.hid he; clear he
    by_cases h1 : k < s.length
    · by_cases h2 : k < u.length
      · have h1' : (k : Int) < (s.length : Int) := by omega
        have h2' : (k : Int) < (u.length : Int) := by omega
        have Hd := Lib.hid (lessB_drop s u k h1 h2)
        have i1 := str_index s k h1
        have i2 := str_index u k h2
        by_cases hc : s[k] = u[k]
        · have hc' : (((s[k].toNat : Nat) : Int) != (u[k].toNat : Nat)) = false := by rw [hc]; simp
          have Hc := Lib.hid hc
          clear hc
          go_wp2
          go_region
          all_goals go_wp2
          all_goals go_roundw
          case rel => exact ⟨k + 1, by omega, by omega, by go_num, by exact zw, by rw [He.out, Hd.out, if_pos Hc.out]⟩
          case measure => simp only [intOf]; omega
        · have hne : s[k].toNat ≠ u[k].toNat := fun h => hc (UInt8.toNat_inj.1 h)
          have hc' : (((s[k].toNat : Nat) : Int) != (u[k].toNat : Nat)) = true := by simp; omega
          have Hc := Lib.hid hc
          have Hf := Lib.hid (show decide (s[k].toNat < u[k].toNat) = decide ((s[k].toNat : Int) < (u[k].toNat : Int)) by simp)
          clear hc hne
          go_wp2
          go_region
          all_goals go_wp2
          all_goals go_region
          all_goals go_wp2
          all_goals go_returns
          all_goals exact ⟨by rw [He.out, Hd.out, if_neg Hc.out, Hf.out]; rfl, by exact zw⟩
      · have h2' : ¬ (k : Int) < (u.length : Int) := by omega
        have h1' : (k : Int) < (s.length : Int) := by omega
        have Hk := Lib.hid (show lessB (s.drop k) (u.drop k) = false by rw [List.drop_eq_nil_of_le (show u.length ≤ k by omega)]; cases s.drop k <;> rfl)
        have hlt : ¬ (s.length : Int) < (u.length : Int) := by omega
        go_wp2
        go_returns
        exact ⟨by rw [He.out, Hk.out]; rfl, by exact zw⟩
    · have h1' : ¬ (k : Int) < (s.length : Int) := by omega
      have hks : k = s.length := by omega
      by_cases h2 : k < u.length
      · have Hk := Lib.hid (show lessB (s.drop k) (u.drop k) = true by
          rw [List.drop_eq_nil_of_le (show s.length ≤ k by omega), List.drop_eq_getElem_cons h2]; rfl)
        have hlt : (s.length : Int) < (u.length : Int) := by omega
        go_wp2
        go_returns
        exact ⟨by rw [He.out, Hk.out]; rfl, by exact zw⟩
      · have Hk := Lib.hid (show lessB (s.drop k) (u.drop k) = false by rw [List.drop_eq_nil_of_le (show u.length ≤ k by omega)]; cases s.drop k <;> rfl)
        have hlt : ¬ (s.length : Int) < (u.length : Int) := by omega
        go_wp2
        go_returns
        exact ⟨by rw [He.out, Hk.out]; rfl, by exact zw⟩
end Go.Proofs.Ytmpflnlajakibaa
