/- The walk of utf8.FullRuneInString. -/
import Derived.Test.YtccmhhmdenfecaaGreatDoorLc
namespace Go.Proofs.YtccmhhmdenfecaaGreatDoor
set_option linter.unusedVariables false
set_option linter.unusedSimpArgs false
open Go.RowKit Go.Shelf
theorem below_drewN2 {B : Nat} {w w' : World} (h : Below B w w') (n : Nat) : Below B w (w'.drewN n) := h.trans ⟨rfl, rfl, rfl, Nat.le_refl _, fun _ _ => rfl⟩
def fullN (n b0 b1 b2 : Nat) : Bool := decide (Lib.firstT b0 % 8 ≤ n) || (decide (1 < n) && (decide (b1 < Lib.accLo (Lib.firstT b0 / 16)) || decide (Lib.accHi (Lib.firstT b0 / 16) < b1))) || (decide (2 < n) && (decide (b2 < 128) || decide (191 < b2)))
theorem fullU_eq {l : List UInt8} (h : l ≠ []) : fullU l = fullN l.length (bat l 0) (bat l 1) (bat l 2) := by
  unfold fullU fullN
  simp only [h, decide_false, Bool.not_false, Bool.true_and]
  rfl
set_option maxHeartbeats 4000000 in
set_option maxRecDepth 1000000 in
theorem full_core (s : ByteArray) (w : World) (hT : Tabs w) (hn : 0 < s.size) (x0 x1 x2 : UInt8) (h0 : s[0] = x0) (h1 : ∀ h : 1 < s.size, s[1] = x1) (h2 : ∀ h : 2 < s.size, s[2] = x2) :
    Calls Tryz.prog 173 #[.string s] w fun e w' => e = .returned (.bool (fullN s.size x0.toNat x1.toNat x2.toNat)) ∧ Below w.heap.size w w' := by
  have l0 := x0.toNat_lt; have l1 := x1.toNat_lt; have l2 := x2.toNat_lt
  have hc0 := hT.1 x0.toNat (by omega)
  have hz0 : (0 : Int) < (s.size : Int) := by omega
  have hne : ((s.size : Int) == 0) = false := by
    have : ¬ ((s.size : Int) = 0) := by omega
    simpa using this
  rcases Lib.firstT_cases x0.toNat with hX | hX | hX | hX | hX | hX | hX | hX | hX
  · have hf : fullN s.size x0.toNat x1.toNat x2.toNat = true := by
      have hd : decide (Lib.firstT x0.toNat % 8 ≤ s.size) = true := decide_eq_true (by rw [hX]; omega)
      unfold fullN; rw [hd]; rfl
    rw [hf]
    rw [hX] at hc0
    have hge : (0 : Int) ≤ (s.size : Int) := by omega
    clear hT hX hf h1 h2
    go_enter Tryz.func173, Tryz.ntmps173
    go_wp2
    all_goals (go_ret; exact ⟨rfl, Below.refl _ _⟩)
  · have hf : fullN s.size x0.toNat x1.toNat x2.toNat = true := by
      have hd : decide (Lib.firstT x0.toNat % 8 ≤ s.size) = true := decide_eq_true (by rw [hX]; omega)
      unfold fullN; rw [hd]; rfl
    rw [hf]
    rw [hX] at hc0
    have hge : (1 : Int) ≤ (s.size : Int) := by omega
    clear hT hX hf h1 h2
    go_enter Tryz.func173, Tryz.ntmps173
    go_wp2
    all_goals (go_ret; exact ⟨rfl, Below.refl _ _⟩)
  · have ha0 := (hT.2 0 (by omega)).1
    have ha1 := (hT.2 0 (by omega)).2
    simp only [Lib.accLo, Lib.accHi, Nat.reduceMul, Nat.reduceAdd, Nat.reduceEqDiff, if_true, if_false, Nat.reduceMod, Nat.reduceDiv] at ha0 ha1
    have hfn : fullN s.size x0.toNat x1.toNat x2.toNat = (decide (2 ≤ s.size) || (decide (1 < s.size) && (decide (x1.toNat < 128) || decide (191 < x1.toNat))) || (decide (2 < s.size) && (decide (x2.toNat < 128) || decide (191 < x2.toNat)))) := by unfold fullN; rw [hX]; rfl
    rw [hX] at hc0
    rw [hfn]
    clear hT hX hfn
    by_cases hg : 2 ≤ s.size
    · have hge : (2 : Int) ≤ (s.size : Int) := by omega
      have hf : (decide (2 ≤ s.size) || (decide (1 < s.size) && (decide (x1.toNat < 128) || decide (191 < x1.toNat))) || (decide (2 < s.size) && (decide (x2.toNat < 128) || decide (191 < x2.toNat)))) = true := by simp [hg]
      rw [hf]
      clear h1 h2 hf
      go_enter Tryz.func173, Tryz.ntmps173
      go_wp2
      all_goals (go_ret; exact ⟨rfl, Below.refl _ _⟩)
    have hn1 : s.size = 1 := by omega
    · have hnz : (s.size : Int) = 1 := by omega
      have hf : (decide (2 ≤ s.size) || (decide (1 < s.size) && (decide (x1.toNat < 128) || decide (191 < x1.toNat))) || (decide (2 < s.size) && (decide (x2.toNat < 128) || decide (191 < x2.toNat)))) = false := by simp [hn1]
      rw [hf]
      clear h1 h2 hf
      go_enter Tryz.func173, Tryz.ntmps173
      go_wp2_with fail
      go_quiet (fail)
      go_wp2_with fail
      go_ret
      exact ⟨rfl, below_drewN2 ((Below.refl _ _).alloc (Nat.le_refl _) _) _⟩
  · have ha0 := (hT.2 1 (by omega)).1
    have ha1 := (hT.2 1 (by omega)).2
    simp only [Lib.accLo, Lib.accHi, Nat.reduceMul, Nat.reduceAdd, Nat.reduceEqDiff, if_true, if_false, Nat.reduceMod, Nat.reduceDiv] at ha0 ha1
    have hfn : fullN s.size x0.toNat x1.toNat x2.toNat = (decide (3 ≤ s.size) || (decide (1 < s.size) && (decide (x1.toNat < 160) || decide (191 < x1.toNat))) || (decide (2 < s.size) && (decide (x2.toNat < 128) || decide (191 < x2.toNat)))) := by unfold fullN; rw [hX]; rfl
    rw [hX] at hc0
    rw [hfn]
    clear hT hX hfn
    by_cases hg : 3 ≤ s.size
    · have hge : (3 : Int) ≤ (s.size : Int) := by omega
      have hf : (decide (3 ≤ s.size) || (decide (1 < s.size) && (decide (x1.toNat < 160) || decide (191 < x1.toNat))) || (decide (2 < s.size) && (decide (x2.toNat < 128) || decide (191 < x2.toNat)))) = true := by simp [hg]
      rw [hf]
      clear h1 h2 hf
      go_enter Tryz.func173, Tryz.ntmps173
      go_wp2
      all_goals (go_ret; exact ⟨rfl, Below.refl _ _⟩)
    by_cases hn1 : s.size = 1
    · have hnz : (s.size : Int) = 1 := by omega
      have hf : (decide (3 ≤ s.size) || (decide (1 < s.size) && (decide (x1.toNat < 160) || decide (191 < x1.toNat))) || (decide (2 < s.size) && (decide (x2.toNat < 128) || decide (191 < x2.toNat)))) = false := by simp [hn1]
      rw [hf]
      clear h1 h2 hf
      go_enter Tryz.func173, Tryz.ntmps173
      go_wp2_with fail
      go_quiet (fail)
      go_wp2_with fail
      go_ret
      exact ⟨rfl, below_drewN2 ((Below.refl _ _).alloc (Nat.le_refl _) _) _⟩
    have hn2 : s.size = 2 := by omega
    · have hnz : (s.size : Int) = 2 := by omega
      have hf : (decide (3 ≤ s.size) || (decide (1 < s.size) && (decide (x1.toNat < 160) || decide (191 < x1.toNat))) || (decide (2 < s.size) && (decide (x2.toNat < 128) || decide (191 < x2.toNat)))) = (decide (x1.toNat < 160) || decide (191 < x1.toNat)) := by simp [hn2]
      rw [hf]
      have hs1 := h1 (by omega)
      clear h1 h2 hf
      have hp : (x1.toNat : Int) < 160 ∨ (¬ (x1.toNat : Int) < 160 ∧ (191 : Int) < (x1.toNat : Int)) ∨ (¬ (x1.toNat : Int) < 160 ∧ ¬ (191 : Int) < (x1.toNat : Int)) := by omega
      rcases hp with p1 | ⟨p1, p2⟩ | ⟨p1, p2⟩
      all_goals
        go_enter Tryz.func173, Tryz.ntmps173
        go_wp2_with fail
        go_quiet (fail)
        go_wp2_with fail
        go_ret
        refine ⟨?_, below_drewN2 ((Below.refl _ _).alloc (Nat.le_refl _) _) _⟩
        first | rfl | (congr 2; simp; omega)
  · have ha0 := (hT.2 0 (by omega)).1
    have ha1 := (hT.2 0 (by omega)).2
    simp only [Lib.accLo, Lib.accHi, Nat.reduceMul, Nat.reduceAdd, Nat.reduceEqDiff, if_true, if_false, Nat.reduceMod, Nat.reduceDiv] at ha0 ha1
    have hfn : fullN s.size x0.toNat x1.toNat x2.toNat = (decide (3 ≤ s.size) || (decide (1 < s.size) && (decide (x1.toNat < 128) || decide (191 < x1.toNat))) || (decide (2 < s.size) && (decide (x2.toNat < 128) || decide (191 < x2.toNat)))) := by unfold fullN; rw [hX]; rfl
    rw [hX] at hc0
    rw [hfn]
    clear hT hX hfn
    by_cases hg : 3 ≤ s.size
    · have hge : (3 : Int) ≤ (s.size : Int) := by omega
      have hf : (decide (3 ≤ s.size) || (decide (1 < s.size) && (decide (x1.toNat < 128) || decide (191 < x1.toNat))) || (decide (2 < s.size) && (decide (x2.toNat < 128) || decide (191 < x2.toNat)))) = true := by simp [hg]
      rw [hf]
      clear h1 h2 hf
      go_enter Tryz.func173, Tryz.ntmps173
      go_wp2
      all_goals (go_ret; exact ⟨rfl, Below.refl _ _⟩)
    by_cases hn1 : s.size = 1
    · have hnz : (s.size : Int) = 1 := by omega
      have hf : (decide (3 ≤ s.size) || (decide (1 < s.size) && (decide (x1.toNat < 128) || decide (191 < x1.toNat))) || (decide (2 < s.size) && (decide (x2.toNat < 128) || decide (191 < x2.toNat)))) = false := by simp [hn1]
      rw [hf]
      clear h1 h2 hf
      go_enter Tryz.func173, Tryz.ntmps173
      go_wp2_with fail
      go_quiet (fail)
      go_wp2_with fail
      go_ret
      exact ⟨rfl, below_drewN2 ((Below.refl _ _).alloc (Nat.le_refl _) _) _⟩
    have hn2 : s.size = 2 := by omega
    · have hnz : (s.size : Int) = 2 := by omega
      have hf : (decide (3 ≤ s.size) || (decide (1 < s.size) && (decide (x1.toNat < 128) || decide (191 < x1.toNat))) || (decide (2 < s.size) && (decide (x2.toNat < 128) || decide (191 < x2.toNat)))) = (decide (x1.toNat < 128) || decide (191 < x1.toNat)) := by simp [hn2]
      rw [hf]
      have hs1 := h1 (by omega)
      clear h1 h2 hf
      have hp : (x1.toNat : Int) < 128 ∨ (¬ (x1.toNat : Int) < 128 ∧ (191 : Int) < (x1.toNat : Int)) ∨ (¬ (x1.toNat : Int) < 128 ∧ ¬ (191 : Int) < (x1.toNat : Int)) := by omega
      rcases hp with p1 | ⟨p1, p2⟩ | ⟨p1, p2⟩
      all_goals
        go_enter Tryz.func173, Tryz.ntmps173
        go_wp2_with fail
        go_quiet (fail)
        go_wp2_with fail
        go_ret
        refine ⟨?_, below_drewN2 ((Below.refl _ _).alloc (Nat.le_refl _) _) _⟩
        first | rfl | (congr 2; simp; omega)
  · have ha0 := (hT.2 2 (by omega)).1
    have ha1 := (hT.2 2 (by omega)).2
    simp only [Lib.accLo, Lib.accHi, Nat.reduceMul, Nat.reduceAdd, Nat.reduceEqDiff, if_true, if_false, Nat.reduceMod, Nat.reduceDiv] at ha0 ha1
    have hfn : fullN s.size x0.toNat x1.toNat x2.toNat = (decide (3 ≤ s.size) || (decide (1 < s.size) && (decide (x1.toNat < 128) || decide (159 < x1.toNat))) || (decide (2 < s.size) && (decide (x2.toNat < 128) || decide (191 < x2.toNat)))) := by unfold fullN; rw [hX]; rfl
    rw [hX] at hc0
    rw [hfn]
    clear hT hX hfn
    by_cases hg : 3 ≤ s.size
    · have hge : (3 : Int) ≤ (s.size : Int) := by omega
      have hf : (decide (3 ≤ s.size) || (decide (1 < s.size) && (decide (x1.toNat < 128) || decide (159 < x1.toNat))) || (decide (2 < s.size) && (decide (x2.toNat < 128) || decide (191 < x2.toNat)))) = true := by simp [hg]
      rw [hf]
      clear h1 h2 hf
      go_enter Tryz.func173, Tryz.ntmps173
      go_wp2
      all_goals (go_ret; exact ⟨rfl, Below.refl _ _⟩)
    by_cases hn1 : s.size = 1
    · have hnz : (s.size : Int) = 1 := by omega
      have hf : (decide (3 ≤ s.size) || (decide (1 < s.size) && (decide (x1.toNat < 128) || decide (159 < x1.toNat))) || (decide (2 < s.size) && (decide (x2.toNat < 128) || decide (191 < x2.toNat)))) = false := by simp [hn1]
      rw [hf]
      clear h1 h2 hf
      go_enter Tryz.func173, Tryz.ntmps173
      go_wp2_with fail
      go_quiet (fail)
      go_wp2_with fail
      go_ret
      exact ⟨rfl, below_drewN2 ((Below.refl _ _).alloc (Nat.le_refl _) _) _⟩
    have hn2 : s.size = 2 := by omega
    · have hnz : (s.size : Int) = 2 := by omega
      have hf : (decide (3 ≤ s.size) || (decide (1 < s.size) && (decide (x1.toNat < 128) || decide (159 < x1.toNat))) || (decide (2 < s.size) && (decide (x2.toNat < 128) || decide (191 < x2.toNat)))) = (decide (x1.toNat < 128) || decide (159 < x1.toNat)) := by simp [hn2]
      rw [hf]
      have hs1 := h1 (by omega)
      clear h1 h2 hf
      have hp : (x1.toNat : Int) < 128 ∨ (¬ (x1.toNat : Int) < 128 ∧ (159 : Int) < (x1.toNat : Int)) ∨ (¬ (x1.toNat : Int) < 128 ∧ ¬ (159 : Int) < (x1.toNat : Int)) := by omega
      rcases hp with p1 | ⟨p1, p2⟩ | ⟨p1, p2⟩
      all_goals
        go_enter Tryz.func173, Tryz.ntmps173
        go_wp2_with fail
        go_quiet (fail)
        go_wp2_with fail
        go_ret
        refine ⟨?_, below_drewN2 ((Below.refl _ _).alloc (Nat.le_refl _) _) _⟩
        first | rfl | (congr 2; simp; omega)
  · have ha0 := (hT.2 3 (by omega)).1
    have ha1 := (hT.2 3 (by omega)).2
    simp only [Lib.accLo, Lib.accHi, Nat.reduceMul, Nat.reduceAdd, Nat.reduceEqDiff, if_true, if_false, Nat.reduceMod, Nat.reduceDiv] at ha0 ha1
    have hfn : fullN s.size x0.toNat x1.toNat x2.toNat = (decide (4 ≤ s.size) || (decide (1 < s.size) && (decide (x1.toNat < 144) || decide (191 < x1.toNat))) || (decide (2 < s.size) && (decide (x2.toNat < 128) || decide (191 < x2.toNat)))) := by unfold fullN; rw [hX]; rfl
    rw [hX] at hc0
    rw [hfn]
    clear hT hX hfn
    by_cases hg : 4 ≤ s.size
    · have hge : (4 : Int) ≤ (s.size : Int) := by omega
      have hf : (decide (4 ≤ s.size) || (decide (1 < s.size) && (decide (x1.toNat < 144) || decide (191 < x1.toNat))) || (decide (2 < s.size) && (decide (x2.toNat < 128) || decide (191 < x2.toNat)))) = true := by simp [hg]
      rw [hf]
      clear h1 h2 hf
      go_enter Tryz.func173, Tryz.ntmps173
      go_wp2
      all_goals (go_ret; exact ⟨rfl, Below.refl _ _⟩)
    by_cases hn1 : s.size = 1
    · have hnz : (s.size : Int) = 1 := by omega
      have hf : (decide (4 ≤ s.size) || (decide (1 < s.size) && (decide (x1.toNat < 144) || decide (191 < x1.toNat))) || (decide (2 < s.size) && (decide (x2.toNat < 128) || decide (191 < x2.toNat)))) = false := by simp [hn1]
      rw [hf]
      clear h1 h2 hf
      go_enter Tryz.func173, Tryz.ntmps173
      go_wp2_with fail
      go_quiet (fail)
      go_wp2_with fail
      go_ret
      exact ⟨rfl, below_drewN2 ((Below.refl _ _).alloc (Nat.le_refl _) _) _⟩
    by_cases hn2 : s.size = 2
    · have hnz : (s.size : Int) = 2 := by omega
      have hf : (decide (4 ≤ s.size) || (decide (1 < s.size) && (decide (x1.toNat < 144) || decide (191 < x1.toNat))) || (decide (2 < s.size) && (decide (x2.toNat < 128) || decide (191 < x2.toNat)))) = (decide (x1.toNat < 144) || decide (191 < x1.toNat)) := by simp [hn2]
      rw [hf]
      have hs1 := h1 (by omega)
      clear h1 h2 hf
      have hp : (x1.toNat : Int) < 144 ∨ (¬ (x1.toNat : Int) < 144 ∧ (191 : Int) < (x1.toNat : Int)) ∨ (¬ (x1.toNat : Int) < 144 ∧ ¬ (191 : Int) < (x1.toNat : Int)) := by omega
      rcases hp with p1 | ⟨p1, p2⟩ | ⟨p1, p2⟩
      all_goals
        go_enter Tryz.func173, Tryz.ntmps173
        go_wp2_with fail
        go_quiet (fail)
        go_wp2_with fail
        go_ret
        refine ⟨?_, below_drewN2 ((Below.refl _ _).alloc (Nat.le_refl _) _) _⟩
        first | rfl | (congr 2; simp; omega)
    have hn3 : s.size = 3 := by omega
    · have hnz : (s.size : Int) = 3 := by omega
      have hf : (decide (4 ≤ s.size) || (decide (1 < s.size) && (decide (x1.toNat < 144) || decide (191 < x1.toNat))) || (decide (2 < s.size) && (decide (x2.toNat < 128) || decide (191 < x2.toNat)))) = ((decide (x1.toNat < 144) || decide (191 < x1.toNat)) || (decide (x2.toNat < 128) || decide (191 < x2.toNat))) := by simp [hn3]
      rw [hf]
      have hs1 := h1 (by omega)
      have hs2 := h2 (by omega)
      clear h1 h2 hf
      have hp : (x1.toNat : Int) < 144 ∨ (¬ (x1.toNat : Int) < 144 ∧ (191 : Int) < (x1.toNat : Int)) ∨ (¬ (x1.toNat : Int) < 144 ∧ ¬ (191 : Int) < (x1.toNat : Int) ∧ (x2.toNat : Int) < 128) ∨ (¬ (x1.toNat : Int) < 144 ∧ ¬ (191 : Int) < (x1.toNat : Int) ∧ ¬ (x2.toNat : Int) < 128 ∧ (191 : Int) < (x2.toNat : Int)) ∨ (¬ (x1.toNat : Int) < 144 ∧ ¬ (191 : Int) < (x1.toNat : Int) ∧ ¬ (x2.toNat : Int) < 128 ∧ ¬ (191 : Int) < (x2.toNat : Int)) := by omega
      rcases hp with p1 | ⟨p1, p2⟩ | ⟨p1, p2, p3⟩ | ⟨p1, p2, p3, p4⟩ | ⟨p1, p2, p3, p4⟩
      all_goals
        go_enter Tryz.func173, Tryz.ntmps173
        go_wp2_with fail
        go_quiet (fail)
        go_wp2_with fail
        go_ret
        refine ⟨?_, below_drewN2 ((Below.refl _ _).alloc (Nat.le_refl _) _) _⟩
        first | rfl | (congr 2; simp; omega)
  · have ha0 := (hT.2 0 (by omega)).1
    have ha1 := (hT.2 0 (by omega)).2
    simp only [Lib.accLo, Lib.accHi, Nat.reduceMul, Nat.reduceAdd, Nat.reduceEqDiff, if_true, if_false, Nat.reduceMod, Nat.reduceDiv] at ha0 ha1
    have hfn : fullN s.size x0.toNat x1.toNat x2.toNat = (decide (4 ≤ s.size) || (decide (1 < s.size) && (decide (x1.toNat < 128) || decide (191 < x1.toNat))) || (decide (2 < s.size) && (decide (x2.toNat < 128) || decide (191 < x2.toNat)))) := by unfold fullN; rw [hX]; rfl
    rw [hX] at hc0
    rw [hfn]
    clear hT hX hfn
    by_cases hg : 4 ≤ s.size
    · have hge : (4 : Int) ≤ (s.size : Int) := by omega
      have hf : (decide (4 ≤ s.size) || (decide (1 < s.size) && (decide (x1.toNat < 128) || decide (191 < x1.toNat))) || (decide (2 < s.size) && (decide (x2.toNat < 128) || decide (191 < x2.toNat)))) = true := by simp [hg]
      rw [hf]
      clear h1 h2 hf
      go_enter Tryz.func173, Tryz.ntmps173
      go_wp2
      all_goals (go_ret; exact ⟨rfl, Below.refl _ _⟩)
    by_cases hn1 : s.size = 1
    · have hnz : (s.size : Int) = 1 := by omega
      have hf : (decide (4 ≤ s.size) || (decide (1 < s.size) && (decide (x1.toNat < 128) || decide (191 < x1.toNat))) || (decide (2 < s.size) && (decide (x2.toNat < 128) || decide (191 < x2.toNat)))) = false := by simp [hn1]
      rw [hf]
      clear h1 h2 hf
      go_enter Tryz.func173, Tryz.ntmps173
      go_wp2_with fail
      go_quiet (fail)
      go_wp2_with fail
      go_ret
      exact ⟨rfl, below_drewN2 ((Below.refl _ _).alloc (Nat.le_refl _) _) _⟩
    by_cases hn2 : s.size = 2
    · have hnz : (s.size : Int) = 2 := by omega
      have hf : (decide (4 ≤ s.size) || (decide (1 < s.size) && (decide (x1.toNat < 128) || decide (191 < x1.toNat))) || (decide (2 < s.size) && (decide (x2.toNat < 128) || decide (191 < x2.toNat)))) = (decide (x1.toNat < 128) || decide (191 < x1.toNat)) := by simp [hn2]
      rw [hf]
      have hs1 := h1 (by omega)
      clear h1 h2 hf
      have hp : (x1.toNat : Int) < 128 ∨ (¬ (x1.toNat : Int) < 128 ∧ (191 : Int) < (x1.toNat : Int)) ∨ (¬ (x1.toNat : Int) < 128 ∧ ¬ (191 : Int) < (x1.toNat : Int)) := by omega
      rcases hp with p1 | ⟨p1, p2⟩ | ⟨p1, p2⟩
      all_goals
        go_enter Tryz.func173, Tryz.ntmps173
        go_wp2_with fail
        go_quiet (fail)
        go_wp2_with fail
        go_ret
        refine ⟨?_, below_drewN2 ((Below.refl _ _).alloc (Nat.le_refl _) _) _⟩
        first | rfl | (congr 2; simp; omega)
    have hn3 : s.size = 3 := by omega
    · have hnz : (s.size : Int) = 3 := by omega
      have hf : (decide (4 ≤ s.size) || (decide (1 < s.size) && (decide (x1.toNat < 128) || decide (191 < x1.toNat))) || (decide (2 < s.size) && (decide (x2.toNat < 128) || decide (191 < x2.toNat)))) = ((decide (x1.toNat < 128) || decide (191 < x1.toNat)) || (decide (x2.toNat < 128) || decide (191 < x2.toNat))) := by simp [hn3]
      rw [hf]
      have hs1 := h1 (by omega)
      have hs2 := h2 (by omega)
      clear h1 h2 hf
      have hp : (x1.toNat : Int) < 128 ∨ (¬ (x1.toNat : Int) < 128 ∧ (191 : Int) < (x1.toNat : Int)) ∨ (¬ (x1.toNat : Int) < 128 ∧ ¬ (191 : Int) < (x1.toNat : Int) ∧ (x2.toNat : Int) < 128) ∨ (¬ (x1.toNat : Int) < 128 ∧ ¬ (191 : Int) < (x1.toNat : Int) ∧ ¬ (x2.toNat : Int) < 128 ∧ (191 : Int) < (x2.toNat : Int)) ∨ (¬ (x1.toNat : Int) < 128 ∧ ¬ (191 : Int) < (x1.toNat : Int) ∧ ¬ (x2.toNat : Int) < 128 ∧ ¬ (191 : Int) < (x2.toNat : Int)) := by omega
      rcases hp with p1 | ⟨p1, p2⟩ | ⟨p1, p2, p3⟩ | ⟨p1, p2, p3, p4⟩ | ⟨p1, p2, p3, p4⟩
      all_goals
        go_enter Tryz.func173, Tryz.ntmps173
        go_wp2_with fail
        go_quiet (fail)
        go_wp2_with fail
        go_ret
        refine ⟨?_, below_drewN2 ((Below.refl _ _).alloc (Nat.le_refl _) _) _⟩
        first | rfl | (congr 2; simp; omega)
  · have ha0 := (hT.2 4 (by omega)).1
    have ha1 := (hT.2 4 (by omega)).2
    simp only [Lib.accLo, Lib.accHi, Nat.reduceMul, Nat.reduceAdd, Nat.reduceEqDiff, if_true, if_false, Nat.reduceMod, Nat.reduceDiv] at ha0 ha1
    have hfn : fullN s.size x0.toNat x1.toNat x2.toNat = (decide (4 ≤ s.size) || (decide (1 < s.size) && (decide (x1.toNat < 128) || decide (143 < x1.toNat))) || (decide (2 < s.size) && (decide (x2.toNat < 128) || decide (191 < x2.toNat)))) := by unfold fullN; rw [hX]; rfl
    rw [hX] at hc0
    rw [hfn]
    clear hT hX hfn
    by_cases hg : 4 ≤ s.size
    · have hge : (4 : Int) ≤ (s.size : Int) := by omega
      have hf : (decide (4 ≤ s.size) || (decide (1 < s.size) && (decide (x1.toNat < 128) || decide (143 < x1.toNat))) || (decide (2 < s.size) && (decide (x2.toNat < 128) || decide (191 < x2.toNat)))) = true := by simp [hg]
      rw [hf]
      clear h1 h2 hf
      go_enter Tryz.func173, Tryz.ntmps173
      go_wp2
      all_goals (go_ret; exact ⟨rfl, Below.refl _ _⟩)
    by_cases hn1 : s.size = 1
    · have hnz : (s.size : Int) = 1 := by omega
      have hf : (decide (4 ≤ s.size) || (decide (1 < s.size) && (decide (x1.toNat < 128) || decide (143 < x1.toNat))) || (decide (2 < s.size) && (decide (x2.toNat < 128) || decide (191 < x2.toNat)))) = false := by simp [hn1]
      rw [hf]
      clear h1 h2 hf
      go_enter Tryz.func173, Tryz.ntmps173
      go_wp2_with fail
      go_quiet (fail)
      go_wp2_with fail
      go_ret
      exact ⟨rfl, below_drewN2 ((Below.refl _ _).alloc (Nat.le_refl _) _) _⟩
    by_cases hn2 : s.size = 2
    · have hnz : (s.size : Int) = 2 := by omega
      have hf : (decide (4 ≤ s.size) || (decide (1 < s.size) && (decide (x1.toNat < 128) || decide (143 < x1.toNat))) || (decide (2 < s.size) && (decide (x2.toNat < 128) || decide (191 < x2.toNat)))) = (decide (x1.toNat < 128) || decide (143 < x1.toNat)) := by simp [hn2]
      rw [hf]
      have hs1 := h1 (by omega)
      clear h1 h2 hf
      have hp : (x1.toNat : Int) < 128 ∨ (¬ (x1.toNat : Int) < 128 ∧ (143 : Int) < (x1.toNat : Int)) ∨ (¬ (x1.toNat : Int) < 128 ∧ ¬ (143 : Int) < (x1.toNat : Int)) := by omega
      rcases hp with p1 | ⟨p1, p2⟩ | ⟨p1, p2⟩
      all_goals
        go_enter Tryz.func173, Tryz.ntmps173
        go_wp2_with fail
        go_quiet (fail)
        go_wp2_with fail
        go_ret
        refine ⟨?_, below_drewN2 ((Below.refl _ _).alloc (Nat.le_refl _) _) _⟩
        first | rfl | (congr 2; simp; omega)
    have hn3 : s.size = 3 := by omega
    · have hnz : (s.size : Int) = 3 := by omega
      have hf : (decide (4 ≤ s.size) || (decide (1 < s.size) && (decide (x1.toNat < 128) || decide (143 < x1.toNat))) || (decide (2 < s.size) && (decide (x2.toNat < 128) || decide (191 < x2.toNat)))) = ((decide (x1.toNat < 128) || decide (143 < x1.toNat)) || (decide (x2.toNat < 128) || decide (191 < x2.toNat))) := by simp [hn3]
      rw [hf]
      have hs1 := h1 (by omega)
      have hs2 := h2 (by omega)
      clear h1 h2 hf
      have hp : (x1.toNat : Int) < 128 ∨ (¬ (x1.toNat : Int) < 128 ∧ (143 : Int) < (x1.toNat : Int)) ∨ (¬ (x1.toNat : Int) < 128 ∧ ¬ (143 : Int) < (x1.toNat : Int) ∧ (x2.toNat : Int) < 128) ∨ (¬ (x1.toNat : Int) < 128 ∧ ¬ (143 : Int) < (x1.toNat : Int) ∧ ¬ (x2.toNat : Int) < 128 ∧ (191 : Int) < (x2.toNat : Int)) ∨ (¬ (x1.toNat : Int) < 128 ∧ ¬ (143 : Int) < (x1.toNat : Int) ∧ ¬ (x2.toNat : Int) < 128 ∧ ¬ (191 : Int) < (x2.toNat : Int)) := by omega
      rcases hp with p1 | ⟨p1, p2⟩ | ⟨p1, p2, p3⟩ | ⟨p1, p2, p3, p4⟩ | ⟨p1, p2, p3, p4⟩
      all_goals
        go_enter Tryz.func173, Tryz.ntmps173
        go_wp2_with fail
        go_quiet (fail)
        go_wp2_with fail
        go_ret
        refine ⟨?_, below_drewN2 ((Below.refl _ _).alloc (Nat.le_refl _) _) _⟩
        first | rfl | (congr 2; simp; omega)
theorem ba_get (l : List UInt8) (i : Nat) (h : i < (⟨l.toArray⟩ : ByteArray).size) : (⟨l.toArray⟩ : ByteArray)[i] = l.getD i 0 := by
  have hl : i < l.length := by simpa [ByteArray.size] using h
  show l.toArray[i] = _
  simp [List.getD_eq_getElem?_getD, hl]
theorem full_any {l : List UInt8} (h : l ≠ []) (w : World) (hT : Tabs w) : Calls Tryz.prog 173 #[strV l] w fun e w' => e = .returned (.bool (fullU l)) ∧ Below w.heap.size w w' := by
  have hs : (⟨l.toArray⟩ : ByteArray).size = l.length := by simp [ByteArray.size]
  have hl : l.length ≠ 0 := fun e => h (List.eq_nil_of_length_eq_zero e)
  have := full_core ⟨l.toArray⟩ w hT (by omega) (l.getD 0 0) (l.getD 1 0) (l.getD 2 0) (ba_get l 0 (by omega)) (fun h => ba_get l 1 h) (fun h => ba_get l 2 h)
  rw [hs] at this
  rw [fullU_eq h]
  exact this
end Go.Proofs.YtccmhhmdenfecaaGreatDoor
