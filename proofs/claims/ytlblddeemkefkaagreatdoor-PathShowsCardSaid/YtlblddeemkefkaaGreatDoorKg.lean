/- path.digit; the closures of path.Parse: an index, a name. -/
import Derived.Test.YtlblddeemkefkaaGreatDoorKf
import Derived.Test.YtlblddeemkefkaaGreatDoorLi
import Derived.Lib.Atoi
namespace Go.Proofs.YtlblddeemkefkaaGreatDoor
set_option linter.unusedVariables false
set_option linter.unusedSimpArgs false
open Go.RowKit Go.Shelf
theorem str_idx (l : List UInt8) (k : Nat) (h : k < l.length) (W : World) : (Instr.index 9 (.string ⟨l.toArray⟩) (.int .i64 (k : Int))).run Tryz.prog W = .ok (.int .u8 ((l.getD k 0).toNat : Int)) W := by
  rw [run_index_string (P := Tryz.prog) (w := W) (t := 9) (s := ⟨l.toArray⟩) (k := .i64) (i := (k : Int)) (h := Tryz.underlying9)]
  have hs : (ByteArray.mk l.toArray).size = l.length := by simp [ByteArray.size]
  have hk : (0 : Int) ≤ (k : Int) ∧ (k : Int) < ((ByteArray.mk l.toArray).size : Int) := by rw [hs]; omega
  rw [dif_pos hk]
  simp only [Int.toNat_natCast]
  rw [List.getD_eq_getElem?_getD, List.getElem?_eq_getElem h]
  rfl
theorem decFrom_digs : ∀ (l : List UInt8) (a : Nat), (∀ c ∈ l, digB c = true) → Lib.decFrom a l = some (l.foldl (fun a c => 10 * a + (c.toNat - 48)) a)
  | [], _, _ => rfl
  | c :: r, a, h => by
    have hc := h c (List.mem_cons_self ..)
    unfold digB at hc
    rw [Bool.and_eq_true, decide_eq_true_eq, decide_eq_true_eq] at hc
    rw [Lib.decFrom, Lib.digitVal, if_pos hc]
    dsimp only
    rw [decFrom_digs r _ (fun x hx => h x (List.mem_cons_of_mem _ hx)), List.foldl_cons, Nat.mul_comm]
theorem atoi_digs {l : List UInt8} (hn : l ≠ []) (h : ∀ c ∈ l, digB c = true) : Lib.atoi l = some (valU l : Int) := by
  cases l with
  | nil => exact absurd rfl hn
  | cons b r =>
    have hc := h b (List.mem_cons_self ..)
    unfold digB at hc
    rw [Bool.and_eq_true, decide_eq_true_eq, decide_eq_true_eq] at hc
    have h1 : (b == 45) = false := by
      rw [beq_eq_false_iff_ne]
      rintro rfl
      exact absurd hc.1 (by decide)
    have h2 : (b == 43) = false := by
      rw [beq_eq_false_iff_ne]
      rintro rfl
      exact absurd hc.1 (by decide)
    unfold Lib.atoi Lib.decNat
    simp only [h1, h2, Bool.false_eq_true, if_false, List.isEmpty_cons]
    rw [decFrom_digs _ _ h]
    rfl
theorem digs_eq (l : List UInt8) (i k : Nat) (hik : i ≤ k) (hk : k ≤ l.length) (h : ∀ j, i ≤ j → j < k → digB (l.getD j 0) = true) (he : k < l.length → digB (l.getD k 0) = false) : digs (l.drop i) = k - i := by
  obtain ⟨d, rfl⟩ : ∃ d, k = i + d := ⟨k - i, by omega⟩
  clear hik
  induction d generalizing i with
  | zero =>
    unfold digs
    by_cases hi : i < l.length
    · rw [List.drop_eq_getElem_cons hi, List.takeWhile_cons]
      have := he hi
      rw [Nat.add_zero, List.getD_eq_getElem?_getD, List.getElem?_eq_getElem hi] at this
      simp only [Option.getD_some] at this
      rw [this]
      simp
    · rw [List.drop_of_length_le (by omega)]
      simp
  | succ d ih =>
    have hi : i < l.length := by omega
    have h1 := h i (Nat.le_refl _) (by omega)
    rw [List.getD_eq_getElem?_getD, List.getElem?_eq_getElem hi] at h1
    simp only [Option.getD_some] at h1
    have h2 := ih (i + 1) (by omega) (fun j a b => h j (by omega) (by omega)) (by rw [show i + 1 + d = i + (d + 1) by omega]; exact he)
    unfold digs at h2 ⊢
    rw [List.drop_eq_getElem_cons hi, List.takeWhile_cons, h1]
    simp only [if_true, List.length_cons]
    omega
set_option maxHeartbeats 4000000 in
set_option maxRecDepth 100000 in
theorem pdigit_any (c : UInt8) (w : World) : Calls Tryz.prog 49 #[.int .u8 (c.toNat : Int)] w fun e w' => e = .returned (.bool (digB c)) ∧ w' = w := by
  unfold digB
  generalize c.toNat = n
  go_enter Tryz.func49, Tryz.ntmps49
  by_cases h1 : 48 ≤ n
  · by_cases h2 : n ≤ 57
    · have a1 : (48 : Int) ≤ n := by omega
      have a2 : (n : Int) ≤ 57 := by omega
      go_wp2
      go_ret
      simp [h1, h2]
    · have a1 : (48 : Int) ≤ n := by omega
      have a2 : ¬ (n : Int) ≤ 57 := by omega
      go_wp2
      go_ret
      simp [h1, h2]
  · have a1 : ¬ (48 : Int) ≤ n := by omega
    go_wp2
    go_ret
    simp [h1]
/-- What a step's text gives: the step, its end; the place and the number of the error. -/
abbrev Said := PS × Int × Int × Int
def saidV (s : Said) : Value := .agg #[strV s.1.1, .int .i64 s.1.2.1, .bool s.1.2.2, .int .i64 s.2.1, .int .i64 s.2.2.1, .int .i64 s.2.2.2]
def placeM (l : List UInt8) (i : Nat) : Said :=
  if (l.getD i 0 = 48 ∧ 1 < digs (l.drop i)) ∨ 9 < digs (l.drop i) then (([], 0, false), 0, i, 4)
  else (([], (valU ((l.drop i).take (digs (l.drop i))) : Int), false), ((i + digs (l.drop i) : Nat) : Int), 0, 0)
def nameM (l : List UInt8) (i : Nat) : Said :=
  if (unqM (l.drop i)).2.2.2 ≠ 0 then (([], 0, false), 0, (i : Int) + (unqM (l.drop i)).2.2.1, (unqM (l.drop i)).2.2.2)
  else if keyE (unqM (l.drop i)).1 ≠ 0 then (([], 0, false), 0, i, 70)
  else (((unqM (l.drop i)).1, 0, true), (i : Int) + (unqM (l.drop i)).2.1, 0, 0)
end Go.Proofs.YtlblddeemkefkaaGreatDoor
