/- The reference's check: steps, known, ahead. The reference's check: known. The reference's check: target. -/
import Derived.Test.YtmpflnlajakibaaRSt
import Derived.Deep.RegionHeld3
import Derived.Test.YtmpflnlajakibaaA0
namespace Go.Proofs.Ytmpflnlajakibaa
set_option linter.unusedVariables false
set_option linter.unusedSimpArgs false
set_option linter.unusedSectionVars false
section
open Go.RowKit
section
variable {K : Nat → Prop} {w w' : World} {lk b o n cap : Nat} {D : List UInt8} {dp bud : Int} {S : VS}
theorem rsteps_ok_raw (lk : Nat) (bv lv cv : Value) (deep bud steps at_ m a : Int) (w : World) (hr : w.heap[lk]? = some (.cells (rkCells bv deep bud steps lv cv at_ 0) 71 (0, 0)))
    (h1 : steps + m ≤ bud) (h2 : 0 ≤ steps) (h3 : bud ≤ 1073741824) (h4 : 0 ≤ m) :
    Calls Try.prog 51 #[.pointer (some ⟨lk, 0, none⟩), .int .i64 m, .int .i64 a] w fun en w' =>
      en = .returned (.tuple #[]) ∧ w'.heap[lk]? = some (.cells (rkCells bv deep bud (steps + m) lv cv at_ 0) 71 (0, 0)) ∧ Touch [lk] w w' := by
  have Hr := Lib.hid hr
  have c2 : w.cell? ⟨lk, 2, none⟩ = some (.int .i64 bud) := cell_of_row _ _ _ _ _ _ hr
  have c3 : w.cell? ⟨lk, 3, none⟩ = some (.int .i64 steps) := cell_of_row _ _ _ _ _ _ hr
  have c7 : w.cell? ⟨lk, 7, none⟩ = some (.int .i64 0) := cell_of_row _ _ _ _ _ _ hr
  have f3 := frozen_of_row _ _ 3 _ _ hr
  clear hr
  have hlt : ¬ bud - steps < m := by omega
  have w1 : IntKind.i64.wrap (bud - steps) = bud - steps := IntWalk.i64_in _ (by omega)
  have w2 : IntKind.i64.wrap (steps + m) = steps + m := IntWalk.i64_in _ (by omega)
  go_enter Try.func51, Try.ntmps51
  go_wp2
  go_region
  all_goals go_wp2
  all_goals go_returns
  all_goals exact ⟨rfl, heap_setCell_same _ _ _ _ _ _ Hr.out, (Touch.drew _ _).trans (Touch.setCell _ _ _ _)⟩
theorem rsteps_no_raw (lk : Nat) (bv lv cv : Value) (deep bud steps at_ m a : Int) (w : World) (hr : w.heap[lk]? = some (.cells (rkCells bv deep bud steps lv cv at_ 0) 71 (0, 0)))
    (h1 : ¬ steps + m ≤ bud) (h2 : 0 ≤ steps) (h3 : bud ≤ 1073741824) (h5 : steps ≤ bud) :
    Calls Try.prog 51 #[.pointer (some ⟨lk, 0, none⟩), .int .i64 m, .int .i64 a] w fun en w' =>
      en = .returned (.tuple #[]) ∧ w'.heap[lk]? = some (.cells (rkCells bv deep bud steps lv cv a 290) 71 (0, 0)) ∧ Touch [lk] w w' := by
  have Hr := Lib.hid hr
  have c2 : w.cell? ⟨lk, 2, none⟩ = some (.int .i64 bud) := cell_of_row _ _ _ _ _ _ hr
  have c3 : w.cell? ⟨lk, 3, none⟩ = some (.int .i64 steps) := cell_of_row _ _ _ _ _ _ hr
  have c7 : w.cell? ⟨lk, 7, none⟩ = some (.int .i64 0) := cell_of_row _ _ _ _ _ _ hr
  clear hr
  have hlt : bud - steps < m := by omega
  have w1 : IntKind.i64.wrap (bud - steps) = bud - steps := IntWalk.i64_in _ (by omega)
  have HT : ∀ W : World, W.heap = w.heap → W.heap[lk]? = some (.cells (rkCells bv deep bud steps lv cv at_ 0) 71 (0, 0)) := fun W h => h ▸ Hr.out
  go_enter Try.func51, Try.ntmps51
  go_wp2
  go_region
  all_goals go_wp2_with (go_at_call 52; refine (rtell_any lk bv lv cv deep bud steps at_ 0 a 290 _ (by first | exact Hr.out | exact HT _ rfl)).mono ?_; rintro en w1 ⟨rfl, hr1, ht1⟩)
  all_goals go_returns
  all_goals exact ⟨rfl, hr1, (Touch.drew _ _).trans ht1⟩
theorem rsteps_still_raw (lk : Nat) (bv lv cv : Value) (deep bud steps at_ e m a : Int) (w : World) (hr : w.heap[lk]? = some (.cells (rkCells bv deep bud steps lv cv at_ e) 71 (0, 0))) (he : e ≠ 0) :
    Calls Try.prog 51 #[.pointer (some ⟨lk, 0, none⟩), .int .i64 m, .int .i64 a] w fun en w' => en = .returned (.tuple #[]) ∧ w = w' := by
  have he' : (e != 0) = true := by simpa using he
  have c7 : w.cell? ⟨lk, 7, none⟩ = some (.int .i64 e) := cell_of_row _ _ _ _ _ _ hr
  clear hr he
  go_enter Try.func51, Try.ntmps51
  go_wp2
  go_returns
  exact ⟨rfl, rfl⟩
theorem rsteps_ok (h : ROk K w lk b o n cap D dp bud S) (m a : Int) (h0 : 0 ≤ m) (hm : S.s + m ≤ bud) :
    Calls Try.prog 51 #[.pointer (some ⟨lk, 0, none⟩), .int .i64 m, .int .i64 a] w fun en w' => en = .returned (.tuple #[]) ∧ ROk K w' lk b o n cap D dp bud { S with s := S.s + m } ∧ RKept K w w' := by
  obtain ⟨at_, lv, cv, h1⟩ := h.st
  refine (rsteps_ok_raw lk _ lv cv dp bud S.s at_ m a w h1.row hm h.s0 h.bd h0).mono ?_
  rintro en w1 ⟨rfl, hr, ht⟩
  refine ⟨rfl, ⟨⟨at_, lv, cv, h1.told ht hr⟩, ?_, hm, h.bd, h.kn, h.nd, ?_⟩, h1.tkept ht⟩
  · have := h.s0; show 0 ≤ S.s + m; omega
  · have := h.cs; show _ ≤ S.s + m; show (S.C.length : Int) ≤ _; omega
theorem rsteps_no (h : ROk K w lk b o n cap D dp bud S) (m a : Int) (hm : ¬ S.s + m ≤ bud) :
    Calls Try.prog 51 #[.pointer (some ⟨lk, 0, none⟩), .int .i64 m, .int .i64 a] w fun en w' => en = .returned (.tuple #[]) ∧ RNo K w' lk b o n cap D dp S.s a 290 ∧ RKept K w w' := by
  obtain ⟨at_, lv, cv, h1⟩ := h.st
  refine (rsteps_no_raw lk _ lv cv dp bud S.s at_ m a w h1.row hm h.s0 h.bd h.s1).mono ?_
  rintro en w1 ⟨rfl, hr, ht⟩
  exact ⟨rfl, ⟨by omega, h.s0, bud, lv, cv, _, _, h.s1, h.bd, h1.told ht hr⟩, h1.tkept ht⟩
theorem rsteps_still {s a' e : Int} (h : RNo K w lk b o n cap D dp s a' e) (m a : Int) :
    Calls Try.prog 51 #[.pointer (some ⟨lk, 0, none⟩), .int .i64 m, .int .i64 a] w fun en w' => en = .returned (.tuple #[]) ∧ RNo K w' lk b o n cap D dp s a' e ∧ RKept K w w' := by
  obtain ⟨he, h0, l, lv, cv, Ls, Cs, h2, h3, h1⟩ := h
  refine (rsteps_still_raw lk _ lv cv dp l s a' e m a w h1.row he).mono ?_
  rintro en w1 ⟨rfl, rfl⟩
  exact ⟨rfl, ⟨he, h0, l, lv, cv, Ls, Cs, h2, h3, h1⟩, RKept.refl _ _⟩
end
/-- ahead. -/
def refB (t : Int) : Bool := t == 4 || t == 5 || t == 25 || t == 6 || t == 7 || vectorB t
def raheadV (t k : Int) : Int := if t = 5 ∨ t = 25 then k else if t = 4 ∨ t = 6 ∨ t = 7 then 0 else aheadOf t * k
theorem rahead29 (p q t k : Int) (w : World) (h : refB t = true) (hk : 1 ≤ k) (hk8 : k ≤ 8) :
    Calls Try.prog 88 #[.agg #[.int .i64 p, .int .i64 q, .int .i64 t, .int .i64 k]] w fun e w' => e = .returned (.int .i64 (raheadV t k)) ∧ Below w.heap.size w w' := by
  by_cases h5 : t = 5 ∨ t = 25
  · rw [show raheadV t k = k by simp [raheadV, h5]]
    clear h
    rcases h5 with rfl | rfl
    all_goals go_enter Try.func88, Try.ntmps88
    all_goals go_wp2
    all_goals go_returns
    all_goals exact ⟨rfl, by (repeat' first | (with_reducible first | exact zb0 _ _ | assumption | refine zb1 ?_ ?_ _ | refine zb2 ?_ | refine zb3 ?_ _ | refine zb4 ?_ ?_ _ | refine zb5 (by assumption) ?_ ?_ | exact zb6 _) | omega | (simp only [zsz]; omega) | (simp; omega))⟩
  · by_cases h4 : t = 4 ∨ t = 6 ∨ t = 7
    · rw [show raheadV t k = 0 by simp [raheadV, h5, h4]]
      clear h h5
      rcases h4 with rfl | rfl | rfl
      all_goals go_enter Try.func88, Try.ntmps88
      all_goals go_wp2
      all_goals go_returns
      all_goals exact ⟨rfl, by (repeat' first | (with_reducible first | exact zb0 _ _ | assumption | refine zb1 ?_ ?_ _ | refine zb2 ?_ | refine zb3 ?_ _ | refine zb4 ?_ ?_ _ | refine zb5 (by assumption) ?_ ?_ | exact zb6 _) | omega | (simp only [zsz]; omega) | (simp; omega))⟩
    · rw [show raheadV t k = aheadOf t * k by simp [raheadV, h5, h4]]
      have hv : vectorB t = true := by
        simp only [refB, Bool.or_eq_true, beq_iff_eq] at h
        rcases h with h | h
        · omega
        · exact h
      have hb := manyOf_bd t
      have ha : 0 ≤ aheadOf t ∧ aheadOf t ≤ 3 := by unfold aheadOf; split <;> (try split) <;> (try split) <;> (try split) <;> omega
      have x0 : 0 ≤ aheadOf t * k := Int.mul_nonneg ha.1 (by omega)
      have x1 : aheadOf t * k ≤ 3 * 8 := Int.mul_le_mul ha.2 hk8 (by omega) (by omega)
      have hw : IntKind.i64.wrap (aheadOf t * k) = aheadOf t * k := IntWalk.i64_in _ (by omega)
      have e5 : (t == 5) = false := by simp; omega
      have e25 : (t == 25) = false := by simp; omega
      have e4 : (t == 4) = false := by simp; omega
      have e6 : (t == 6) = false := by simp; omega
      have e7 : (t == 7) = false := by simp; omega
      clear h h5 h4 hb ha x0 x1
      go_enter Try.func88, Try.ntmps88
      go_wp2
      go_region_with ((go_at_call 115; refine (rahead_any _ hv _).mono ?_; rintro e w1 ⟨rfl, rfl⟩))
      all_goals go_wp2
      all_goals go_returns
      all_goals exact ⟨rfl, by (repeat' first | (with_reducible first | exact zb0 _ _ | assumption | refine zb1 ?_ ?_ _ | refine zb2 ?_ | refine zb3 ?_ _ | refine zb4 ?_ ?_ _ | refine zb5 (by assumption) ?_ ?_ | exact zb6 _) | omega | (simp only [zsz]; omega) | (simp; omega))⟩
theorem rahead_begins {t : Int} (h : refB t = true) (k a : Int) : beginsV t k a = a - raheadV t k := by
  unfold beginsV raheadV
  by_cases h5 : t = 5 ∨ t = 25
  · rcases h5 with rfl | rfl <;> simp
  · by_cases h4 : t = 4 ∨ t = 6 ∨ t = 7
    · rcases h4 with rfl | rfl | rfl <;> simp [vecB, isOf, kindOf, kindsTab]
    · have hv : vectorB t = true := by
        simp only [refB, Bool.or_eq_true, beq_iff_eq] at h
        rcases h with h | h
        · omega
        · exact h
      rw [if_neg h5, if_neg h4]
      unfold vectorB tagB at hv
      unfold aheadOf
      have hb := manyOf_bd t
      have e5 : (t == 5) = false := by simp; omega
      have e25 : (t == 25) = false := by simp; omega
      by_cases t9 : t = 9
      · subst t9; simp
      · by_cases t10 : t = 10
        · subst t10; simp
        · have e9 : (t == 9) = false := by simpa using t9
          have e10 : (t == 10) = false := by simpa using t10
          simp only [e9, e10, Bool.or_false, Bool.false_or] at hv
          simp only [e9, e10, e5, e25, hv, Bool.false_or, Bool.true_and, Bool.false_eq_true, if_false, if_true]
          by_cases hm : manyOf t = 0
          · simp [hm]
          · have : 0 < manyOf t := by omega
            simp [hm, this]
theorem refB_of {t : Int} (h : legalB t = true) (hi : inlineB t = false) : refB t = true := by
  obtain ⟨h0, h1⟩ := kindOf_in h
  have h37 : t = 0 ∨ t = 1 ∨ t = 2 ∨ t = 3 ∨ t = 4 ∨ t = 5 ∨ t = 6 ∨ t = 7 ∨ t = 8 ∨ t = 9 ∨ t = 10 ∨ t = 11 ∨ t = 12 ∨ t = 13 ∨ t = 14 ∨ t = 15 ∨ t = 16 ∨ t = 17 ∨ t = 18 ∨ t = 19 ∨ t = 20 ∨ t = 21 ∨ t = 22 ∨ t = 23 ∨ t = 24 ∨ t = 25 ∨ t = 26 ∨ t = 27 ∨ t = 28 ∨ t = 29 ∨ t = 30 ∨ t = 31 ∨ t = 32 ∨ t = 33 ∨ t = 34 ∨ t = 35 ∨ t = 36 := by omega
  rcases h37 with rfl | rfl | rfl | rfl | rfl | rfl | rfl | rfl | rfl | rfl | rfl | rfl | rfl | rfl | rfl | rfl | rfl | rfl | rfl | rfl | rfl | rfl | rfl | rfl | rfl | rfl | rfl | rfl | rfl | rfl | rfl | rfl | rfl | rfl | rfl | rfl | rfl
  all_goals first | rfl | (revert h hi; decide)
end
section
open Go.RowKit
theorem knownRow_at (R : List (Lead × Int)) (j : Nat) (t a k h : Int) (hj : R[j]? = some ((t, a, k), h)) :
    (knownRow R)[j * 4]? = some (.int .i64 t) ∧ (knownRow R)[j * 4 + 1]? = some (.int .i64 a) ∧ (knownRow R)[j * 4 + 2]? = some (.int .i64 k) ∧ (knownRow R)[j * 4 + 3]? = some (.int .i64 h) := by
  induction R generalizing j with
  | nil => simp at hj
  | cons y R ih =>
    obtain ⟨⟨t', a', k'⟩, h'⟩ := y
    cases j with
    | zero =>
      simp only [List.getElem?_cons_zero, Option.some.injEq, Prod.mk.injEq] at hj
      obtain ⟨⟨rfl, rfl, rfl⟩, rfl⟩ := hj
      exact ⟨rfl, rfl, rfl, rfl⟩
    | succ j =>
      rw [List.getElem?_cons_succ] at hj
      obtain ⟨i1, i2, i3, i4⟩ := ih j hj
      have e : (j + 1) * 4 = j * 4 + 4 := by omega
      rw [e]
      exact ⟨i1, i2, i3, i4⟩
theorem firstH_nil (x : Lead) : firstH [] x = 0 := rfl
theorem firstH_drop {R : List (Lead × Int)} {j : Nat} {y : Lead} {h : Int} (hj : R[j]? = some (y, h)) (x : Lead) : firstH (R.drop j) x = if y = x then h else firstH (R.drop (j + 1)) x := by
  obtain ⟨hl, he⟩ := List.getElem?_eq_some_iff.1 hj
  rw [List.drop_eq_getElem_cons hl, he]
  unfold firstH
  rw [vknown_cons]
  split <;> rfl
section
variable {K : Nat → Prop} {w w' : World} {lk b o n cap : Nat} {D : List UInt8} {dp bud : Int} {S : VS} {steps at_ e : Int} {lv cv : Value} {Ls : List (Lead × Int)} {Cs : List Int}
set_option maxHeartbeats 2000000 in
theorem rknown_any (h : RSt K w lk b o n cap D dp bud steps at_ e lv cv Ls Cs) (hs : (Ls.length : Int) ≤ 4294967296) (t a k : Int) :
    Calls Try.prog 55 #[.pointer (some ⟨lk, 0, none⟩), .int .i64 t, .int .i64 a, .int .i64 k] w fun en w' => en = .returned (.int .i64 (firstH Ls (t, a, k))) ∧ w = w' := by
  have c4 : w.cell? ⟨lk, 4, none⟩ = some lv := cell_of_row _ _ _ _ _ _ h.row
  have hol := Lib.hid h.ol
  obtain ⟨-, hv⟩ := h.ol
  clear h
  rcases hv with ⟨rfl, h0⟩ | ⟨g, cp, cur, rfl, -, hg, hn, hm, hsz, hxs⟩
  · have : Ls = [] := by simpa using h0
    subst this
    rw [firstH_nil]
    clear hs h0 hol
    go_enter Try.func55, Try.ntmps55
    go_wp2
    go_loop [9] (fun i => i = .int .i64 0) (fun _ => 0)
    case atStart => rfl
    case round =>
      subst hrel
      go_wp2
      go_returns
      exact ⟨rfl, rfl⟩
  · have hN := Lib.hid hn
    have hM := Lib.hid hm
    have hG : ∀ j, j < Ls.length * 4 → w.cell? ⟨g, j, none⟩ = (knownRow Ls)[j]? := fun j hj => hol.out.cellAt j hj
    have HG := Lib.hid hG
    clear hg hsz hxs hG hn hm hol
    go_enter Try.func55, Try.ntmps55
    go_wp2
    go_loop [9] (fun i => ∃ j : Nat, j ≤ Ls.length ∧ i = .int .i64 j ∧ firstH Ls (t, a, k) = firstH (Ls.drop j) (t, a, k)) (fun i => Ls.length - (intOf i).toNat)
    case atStart => exact ⟨0, by omega, rfl, rfl⟩
    case round =>
      obtain ⟨j, hj, rfl, hfj⟩ := hrel
      have Hf := Lib.hid hfj
      clear hfj
      by_cases hlt : j < Ls.length
      · have hlt' : (j : Int) < (Ls.length : Int) := by omega
        obtain ⟨⟨⟨t', a', k'⟩, h'⟩, hy⟩ : ∃ y, Ls[j]? = some y := ⟨_, List.getElem?_eq_getElem hlt⟩
        obtain ⟨y0, y1, y2, y3⟩ := knownRow_at Ls j t' a' k' h' hy
        rw [← HG.out _ (by omega)] at y0 y1 y2 y3
        have HF : firstH (Ls.drop j) (t, a, k) = if (t', a', k') = (t, a, k) then h' else firstH (Ls.drop (j + 1)) (t, a, k) := firstH_drop hy _
        have HF' := Lib.hid HF
        clear hy hlt HF
        have hz0 : (0 : Nat) + j * 4 = j * 4 := by omega
        by_cases e1 : t' = t
        · subst e1
          by_cases e2 : a' = a
          · subst e2
            by_cases e3 : k' = k
            · subst e3
              go_wp2
              go_returns
              have hv : firstH Ls (t', a', k') = h' := by rw [Hf.out, HF'.out]; simp
              rw [hv]
              exact ⟨rfl, rfl⟩
            · have HE3 := Lib.hid e3
              have e3' : (k' == k) = false := by simpa using e3
              go_wp2
              go_round
              case rel => exact ⟨j + 1, by omega, by go_num, by rw [Hf.out, HF'.out]; simp [HE3.out]⟩
              case measure => simp only [intOf]; omega
          · have HE2 := Lib.hid e2
            have e2' : (a' == a) = false := by simpa using e2
            go_wp2
            go_round
            case rel => exact ⟨j + 1, by omega, by go_num, by rw [Hf.out, HF'.out]; simp [HE2.out]⟩
            case measure => simp only [intOf]; omega
        · have HE1 := Lib.hid e1
          have e1' : (t' == t) = false := by simpa using e1
          go_wp2
          go_round
          case rel => exact ⟨j + 1, by omega, by go_num, by rw [Hf.out, HF'.out]; simp [HE1.out]⟩
          case measure => simp only [intOf]; omega
      · have hlt' : ¬ (j : Int) < (Ls.length : Int) := by omega
        go_wp2
        go_returns
        have hv : firstH Ls (t, a, k) = 0 := by rw [Hf.out, List.drop_of_length_le (by omega), firstH_nil]
        rw [hv]
        exact ⟨rfl, rfl⟩
end
end
section
open Go.RowKit
section
variable {K : Nat → Prop} {w w' : World} {lk b o n cap : Nat} {D : List UInt8} {dp bud : Int} {S : VS} {s at_ e : Int}
theorem ROk.c0 (h : ROk K w lk b o n cap D dp bud S) : w.cell? ⟨lk, 0, none⟩ = some (.slice (some ⟨b, o, none⟩) n cap) := by obtain ⟨_, _, _, h⟩ := h.st; exact cell_of_row _ _ _ _ _ _ h.row
theorem ROk.c1 (h : ROk K w lk b o n cap D dp bud S) : w.cell? ⟨lk, 1, none⟩ = some (.int .i64 dp) := by obtain ⟨_, _, _, h⟩ := h.st; exact cell_of_row _ _ _ _ _ _ h.row
theorem ROk.c7 (h : ROk K w lk b o n cap D dp bud S) : w.cell? ⟨lk, 7, none⟩ = some (.int .i64 0) := by obtain ⟨_, _, _, h⟩ := h.st; exact cell_of_row _ _ _ _ _ _ h.row
theorem RNo.c0 (h : RNo K w lk b o n cap D dp s at_ e) : w.cell? ⟨lk, 0, none⟩ = some (.slice (some ⟨b, o, none⟩) n cap) := by obtain ⟨_, _, _, _, _, _, _, _, _, h⟩ := h; exact cell_of_row _ _ _ _ _ _ h.row
theorem RNo.c1 (h : RNo K w lk b o n cap D dp s at_ e) : w.cell? ⟨lk, 1, none⟩ = some (.int .i64 dp) := by obtain ⟨_, _, _, _, _, _, _, _, _, h⟩ := h; exact cell_of_row _ _ _ _ _ _ h.row
theorem RNo.c7 (h : RNo K w lk b o n cap D dp s at_ e) : w.cell? ⟨lk, 7, none⟩ = some (.int .i64 e) := by obtain ⟨_, _, _, _, _, _, _, _, _, h⟩ := h; exact cell_of_row _ _ _ _ _ _ h.row
set_option maxHeartbeats 4000000 in
theorem rtgt_ok (w : World) (c0 : w.cell? ⟨lk, 0, none⟩ = some (.slice (some ⟨b, o, none⟩) n cap)) (hD : Doc w b o n cap D) (hlk : lk < w.heap.size) (p q t k lim : Int) (h0 : 0 ≤ p) (h1 : p + q ≤ n) (hq : wideB q = true) (hr : refB t = true) (hk : 1 ≤ k) (hk8 : k ≤ 8) (ht : tgtB D p q t k lim = true) :
    Calls Try.prog 54 #[.pointer (some ⟨lk, 0, none⟩), .agg #[.int .i64 p, .int .i64 q, .int .i64 t, .int .i64 k], .int .i64 lim] w fun en w' => en = .returned (.int .i64 (p - loadV D p q)) ∧ Below w.heap.size w w' := by
  obtain ⟨hn1, hn2⟩ := hD.bd
  have hqb := wideB_bd hq
  have v0 := loadV_nonneg D p q
  obtain ⟨g1, g2⟩ := tgtB_le ht
  have hbw := hD.lt
  rw [rahead_begins hr] at g2
  have HA := fun W => Lib.hid (rahead29 p q t k W hr hk hk8)
  have HL := fun W (hW : Doc W b o n cap D) => Lib.hid (rload_any b o n cap D p q W hW)
  have ha0 : 0 ≤ raheadV t k ∧ raheadV t k ≤ 1000 := by
    unfold raheadV
    split
    · omega
    · split
      · omega
      · have hb := manyOf_bd t
        have ha : 0 ≤ aheadOf t ∧ aheadOf t ≤ 3 := by unfold aheadOf; split <;> (try split) <;> (try split) <;> (try split) <;> omega
        have x0 : 0 ≤ aheadOf t * k := Int.mul_nonneg ha.1 (by omega)
        have x1 : aheadOf t * k ≤ 3 * 8 := Int.mul_le_mul ha.2 hk8 (by omega) (by omega)
        omega
  generalize raheadV t k = A at *
  generalize loadV D p q = v at *
  have c1 : IntKind.i64.wrap p = p := IntWalk.i64_in _ (by omega)
  have c2 : IntKind.u64.wrap p = p := IntWalk.u64_in _ (by omega)
  have c3 : IntKind.i64.wrap v = v := IntWalk.i64_in _ (by omega)
  have c4 : IntKind.i64.wrap (p - v) = p - v := IntWalk.i64_in _ (by omega)
  have c5 : IntKind.i64.wrap (p - v - A) = p - v - A := IntWalk.i64_in _ (by omega)
  have n1 : ¬ p < v := by omega
  have n2 : ¬ lim ≤ p - v - A := by omega
  have n3 : decide (p < v) = false := by simpa using n1
  have n4 : decide (lim ≤ p - v - A) = false := by simpa using n2
  clear ht hr hq
  go_enter Try.func54, Try.ntmps54
  go_upto_region 1 with fail
  refine wp_named (fun wn => Below w.heap.size w wn ∧ w.heap.size < wn.heap.size ∧ wn.cell? ⟨w.heap.size, 0, none⟩ = some (.int .i64 p) ∧ wn.cell? ⟨w.heap.size, 1, none⟩ = some (.int .i64 q) ∧ wn.cell? ⟨w.heap.size, 2, none⟩ = some (.int .i64 t) ∧ wn.cell? ⟨w.heap.size, 3, none⟩ = some (.int .i64 k) ∧ wn.cell? ⟨lk, 0, none⟩ = some (.slice (some ⟨b, o, none⟩) n cap)) ⟨by (repeat' first | (with_reducible first | exact zb0 _ _ | assumption | refine zb1 ?_ ?_ _ | refine zb2 ?_ | refine zb3 ?_ _ | refine zb4 ?_ ?_ _ | refine zb5 (by assumption) ?_ ?_ | exact zb6 _) | omega | (simp only [zsz]; omega) | (simp; omega)), by simp, by go_simp, by go_simp, by go_simp, by go_simp, by go_simp⟩ ?_
  rintro wn ⟨hbn, hX, z0, z1, z2, z3, z4⟩
  have hDn := hD.below hbn
  go_region_held3 (fun w' => w'.cell? ⟨w.heap.size, 0, none⟩ = some (.int .i64 p) ∧ w'.cell? ⟨w.heap.size, 1, none⟩ = some (.int .i64 q) ∧ w'.cell? ⟨w.heap.size, 2, none⟩ = some (.int .i64 t) ∧ w'.cell? ⟨w.heap.size, 3, none⟩ = some (.int .i64 k) ∧ w'.cell? ⟨lk, 0, none⟩ = some (.slice (some ⟨b, o, none⟩) n cap)) (first | (with_reducible exact ⟨z0, z1, z2, z3, z4⟩) | (refine ⟨?_, ?_, ?_, ?_, ?_⟩ <;> go_keep)) (((go_at_call 87; refine ((HL _ (hDn.below (by (repeat' first | (with_reducible first | exact zb0 _ _ | assumption | refine zb1 ?_ ?_ _ | refine zb2 ?_ | refine zb3 ?_ _ | refine zb4 ?_ ?_ _ | refine zb5 (by assumption) ?_ ?_ | exact zb6 _) | omega | (simp only [zsz]; omega) | (simp; omega))))).out).mono ?_; rintro e w1 ⟨rfl, rfl⟩)))
  go_upto_region 2 with fail
  refine wp_named (fun wx => Below w.heap.size w wx ∧ w.heap.size < wx.heap.size ∧ wx.cell? ⟨w.heap.size, 0, none⟩ = some (.int .i64 p) ∧ wx.cell? ⟨w.heap.size, 1, none⟩ = some (.int .i64 q) ∧ wx.cell? ⟨w.heap.size, 2, none⟩ = some (.int .i64 t) ∧ wx.cell? ⟨w.heap.size, 3, none⟩ = some (.int .i64 k) ∧ wx.cell? ⟨lk, 0, none⟩ = some (.slice (some ⟨b, o, none⟩) n cap)) ⟨by (repeat' first | (with_reducible first | exact zb0 _ _ | assumption | refine zb1 ?_ ?_ _ | refine zb2 ?_ | refine zb3 ?_ _ | refine zb4 ?_ ?_ _ | refine zb5 (by assumption) ?_ ?_ | exact zb6 _) | omega | (simp only [zsz]; omega) | (simp; omega)), by (first | omega | (simp; omega) | simp), by go_simp, by go_simp, by go_simp, by go_simp, by go_simp⟩ ?_
  clear hbn hX z0 z1 z2 z3 z4 hDn
  rintro wx ⟨hbx, hX, z0, z1, z2, z3, z4⟩
  have glx : lk < wx.heap.size := by omega
  go_region_held3 (fun w' => w'.cell? ⟨w.heap.size, 0, none⟩ = some (.int .i64 p) ∧ w'.cell? ⟨w.heap.size, 1, none⟩ = some (.int .i64 q) ∧ w'.cell? ⟨w.heap.size, 2, none⟩ = some (.int .i64 t) ∧ w'.cell? ⟨w.heap.size, 3, none⟩ = some (.int .i64 k) ∧ w'.cell? ⟨lk, 0, none⟩ = some (.slice (some ⟨b, o, none⟩) n cap)) (first | (with_reducible exact ⟨z0, z1, z2, z3, z4⟩) | (refine ⟨?_, ?_, ?_, ?_, ?_⟩ <;> go_simp)) (((go_at_call 88; refine ((HA _).out).mono ?_; rintro e w1 ⟨rfl, hb1⟩; obtain ⟨hc1, hf1, hl1⟩ := bcell hb1; (try simp only [zdz] at hc1 hf1 hl1); have hz1 := hb1.size; (try simp only [zsz] at hz1); (try have g0 : w.heap.size < w1.heap.size := by omega); (try have g1 : w.heap.size + 1 < w1.heap.size := by omega); (try have gl : lk < w1.heap.size := by omega)); (have gX : w.heap.size < w1.heap.size := by omega); (have gl9 : lk < w1.heap.size := by omega)))
  go_wp2
  go_returns
  exact ⟨rfl, by (repeat' first | (with_reducible first | exact zb0 _ _ | assumption | refine zb1 ?_ ?_ _ | refine zb2 ?_ | refine zb3 ?_ _ | refine zb4 ?_ ?_ _ | refine zb5 (by assumption) ?_ ?_ | exact zb6 _) | omega | (simp only [zsz]; omega) | (simp; omega))⟩
set_option maxHeartbeats 4000000 in
theorem rtgt_bad (w : World) (P : World → World → Prop) (c0 : w.cell? ⟨lk, 0, none⟩ = some (.slice (some ⟨b, o, none⟩) n cap)) (hD : Doc w b o n cap D) (hlk : lk < w.heap.size) (p q t k lim : Int) (h0 : 0 ≤ p) (h1 : p + q ≤ n) (hq : wideB q = true) (hr : refB t = true) (hk : 1 ≤ k) (hk8 : k ≤ 8) (ht : ¬ tgtB D p q t k lim = true)
    (HT : ∀ W, Below w.heap.size w W → Calls Try.prog 52 #[.pointer (some ⟨lk, 0, none⟩), .int .i64 p, .int .i64 211] W fun en w' => en = .returned (.tuple #[]) ∧ P W w') :
    Calls Try.prog 54 #[.pointer (some ⟨lk, 0, none⟩), .agg #[.int .i64 p, .int .i64 q, .int .i64 t, .int .i64 k], .int .i64 lim] w fun en w' => en = .returned (.int .i64 0) ∧ ∃ W, Below w.heap.size w W ∧ P W w' := by
  obtain ⟨hn1, hn2⟩ := hD.bd
  have hqb := wideB_bd hq
  have v0 := loadV_nonneg D p q
  have hbw := hD.lt
  have ht' : ¬ (loadV D p q ≤ p ∧ beginsV t k (p - loadV D p q) < lim) := by simpa [tgtB] using ht
  rw [rahead_begins hr] at ht'
  have HA := fun W => Lib.hid (rahead29 p q t k W hr hk hk8)
  have HL := fun W (hW : Doc W b o n cap D) => Lib.hid (rload_any b o n cap D p q W hW)
  have ha0 : 0 ≤ raheadV t k ∧ raheadV t k ≤ 1000 := by
    unfold raheadV
    split
    · omega
    · split
      · omega
      · have hb := manyOf_bd t
        have ha : 0 ≤ aheadOf t ∧ aheadOf t ≤ 3 := by unfold aheadOf; split <;> (try split) <;> (try split) <;> (try split) <;> omega
        have x0 : 0 ≤ aheadOf t * k := Int.mul_nonneg ha.1 (by omega)
        have x1 : aheadOf t * k ≤ 3 * 8 := Int.mul_le_mul ha.2 hk8 (by omega) (by omega)
        omega
  have HTT := Lib.hid HT
  have c2 : IntKind.u64.wrap p = p := IntWalk.u64_in _ (by omega)
  generalize raheadV t k = A at *
  generalize loadV D p q = v at *
  clear ht hr hq HT
  by_cases hv : p < v
  · have n3 : decide (p < v) = true := by simpa using hv
    clear ht' HA
    go_enter Try.func54, Try.ntmps54
    go_upto_region 1 with fail
    refine wp_named (fun wn => Below w.heap.size w wn ∧ w.heap.size < wn.heap.size ∧ wn.cell? ⟨w.heap.size, 0, none⟩ = some (.int .i64 p) ∧ wn.cell? ⟨w.heap.size, 1, none⟩ = some (.int .i64 q) ∧ wn.cell? ⟨w.heap.size, 2, none⟩ = some (.int .i64 t) ∧ wn.cell? ⟨w.heap.size, 3, none⟩ = some (.int .i64 k) ∧ wn.cell? ⟨lk, 0, none⟩ = some (.slice (some ⟨b, o, none⟩) n cap)) ⟨by (repeat' first | (with_reducible first | exact zb0 _ _ | assumption | refine zb1 ?_ ?_ _ | refine zb2 ?_ | refine zb3 ?_ _ | refine zb4 ?_ ?_ _ | refine zb5 (by assumption) ?_ ?_ | exact zb6 _) | omega | (simp only [zsz]; omega) | (simp; omega)), by simp, by go_simp, by go_simp, by go_simp, by go_simp, by go_simp⟩ ?_
    rintro wn ⟨hbn, hX, z0, z1, z2, z3, z4⟩
    have hDn := hD.below hbn
    go_region_held3 (fun w' => w'.cell? ⟨w.heap.size, 0, none⟩ = some (.int .i64 p) ∧ w'.cell? ⟨w.heap.size, 1, none⟩ = some (.int .i64 q) ∧ w'.cell? ⟨w.heap.size, 2, none⟩ = some (.int .i64 t) ∧ w'.cell? ⟨w.heap.size, 3, none⟩ = some (.int .i64 k) ∧ w'.cell? ⟨lk, 0, none⟩ = some (.slice (some ⟨b, o, none⟩) n cap)) (first | (with_reducible exact ⟨z0, z1, z2, z3, z4⟩) | (refine ⟨?_, ?_, ?_, ?_, ?_⟩ <;> go_keep)) (((go_at_call 87; refine ((HL _ (hDn.below (by (repeat' first | (with_reducible first | exact zb0 _ _ | assumption | refine zb1 ?_ ?_ _ | refine zb2 ?_ | refine zb3 ?_ _ | refine zb4 ?_ ?_ _ | refine zb5 (by assumption) ?_ ?_ | exact zb6 _) | omega | (simp only [zsz]; omega) | (simp; omega))))).out).mono ?_; rintro e w1 ⟨rfl, rfl⟩)))
    go_upto_region 2 with fail
    refine wp_named (fun wx => Below w.heap.size w wx ∧ w.heap.size < wx.heap.size ∧ wx.cell? ⟨w.heap.size, 0, none⟩ = some (.int .i64 p) ∧ wx.cell? ⟨w.heap.size, 1, none⟩ = some (.int .i64 q) ∧ wx.cell? ⟨w.heap.size, 2, none⟩ = some (.int .i64 t) ∧ wx.cell? ⟨w.heap.size, 3, none⟩ = some (.int .i64 k) ∧ wx.cell? ⟨lk, 0, none⟩ = some (.slice (some ⟨b, o, none⟩) n cap)) ⟨by (repeat' first | (with_reducible first | exact zb0 _ _ | assumption | refine zb1 ?_ ?_ _ | refine zb2 ?_ | refine zb3 ?_ _ | refine zb4 ?_ ?_ _ | refine zb5 (by assumption) ?_ ?_ | exact zb6 _) | omega | (simp only [zsz]; omega) | (simp; omega)), by (first | omega | (simp; omega) | simp), by go_simp, by go_simp, by go_simp, by go_simp, by go_simp⟩ ?_
    clear hbn hX z0 z1 z2 z3 z4 hDn
    rintro wx ⟨hbx, hX, z0, z1, z2, z3, z4⟩
    have glx : lk < wx.heap.size := by omega
    go_region
    all_goals go_wp2_with (go_at_call 52; refine (HTT.out _ (by (repeat' first | (with_reducible first | exact zb0 _ _ | assumption | refine zb1 ?_ ?_ _ | refine zb2 ?_ | refine zb3 ?_ _ | refine zb4 ?_ ?_ _ | refine zb5 (by assumption) ?_ ?_ | exact zb6 _) | omega | (simp only [zsz]; omega) | (simp; omega)))).mono ?_; rintro en w2 ⟨rfl, hp2⟩)
    all_goals go_returns
    all_goals exact ⟨rfl, _, by (repeat' first | (with_reducible first | exact zb0 _ _ | assumption | refine zb1 ?_ ?_ _ | refine zb2 ?_ | refine zb3 ?_ _ | refine zb4 ?_ ?_ _ | refine zb5 (by assumption) ?_ ?_ | exact zb6 _) | omega | (simp only [zsz]; omega) | (simp; omega)), hp2⟩
  · have c3 : IntKind.i64.wrap v = v := IntWalk.i64_in _ (by omega)
    have c4 : IntKind.i64.wrap (p - v) = p - v := IntWalk.i64_in _ (by omega)
    have c5 : IntKind.i64.wrap (p - v - A) = p - v - A := IntWalk.i64_in _ (by omega)
    have n2 : lim ≤ p - v - A := by omega
    have n3 : decide (p < v) = false := by simpa using hv
    have n4 : decide (lim ≤ p - v - A) = true := by simpa using n2
    clear ht'
    go_enter Try.func54, Try.ntmps54
    go_upto_region 1 with fail
    refine wp_named (fun wn => Below w.heap.size w wn ∧ w.heap.size < wn.heap.size ∧ wn.cell? ⟨w.heap.size, 0, none⟩ = some (.int .i64 p) ∧ wn.cell? ⟨w.heap.size, 1, none⟩ = some (.int .i64 q) ∧ wn.cell? ⟨w.heap.size, 2, none⟩ = some (.int .i64 t) ∧ wn.cell? ⟨w.heap.size, 3, none⟩ = some (.int .i64 k) ∧ wn.cell? ⟨lk, 0, none⟩ = some (.slice (some ⟨b, o, none⟩) n cap)) ⟨by (repeat' first | (with_reducible first | exact zb0 _ _ | assumption | refine zb1 ?_ ?_ _ | refine zb2 ?_ | refine zb3 ?_ _ | refine zb4 ?_ ?_ _ | refine zb5 (by assumption) ?_ ?_ | exact zb6 _) | omega | (simp only [zsz]; omega) | (simp; omega)), by simp, by go_simp, by go_simp, by go_simp, by go_simp, by go_simp⟩ ?_
    rintro wn ⟨hbn, hX, z0, z1, z2, z3, z4⟩
    have hDn := hD.below hbn
    go_region_held3 (fun w' => w'.cell? ⟨w.heap.size, 0, none⟩ = some (.int .i64 p) ∧ w'.cell? ⟨w.heap.size, 1, none⟩ = some (.int .i64 q) ∧ w'.cell? ⟨w.heap.size, 2, none⟩ = some (.int .i64 t) ∧ w'.cell? ⟨w.heap.size, 3, none⟩ = some (.int .i64 k) ∧ w'.cell? ⟨lk, 0, none⟩ = some (.slice (some ⟨b, o, none⟩) n cap)) (first | (with_reducible exact ⟨z0, z1, z2, z3, z4⟩) | (refine ⟨?_, ?_, ?_, ?_, ?_⟩ <;> go_keep)) (((go_at_call 87; refine ((HL _ (hDn.below (by (repeat' first | (with_reducible first | exact zb0 _ _ | assumption | refine zb1 ?_ ?_ _ | refine zb2 ?_ | refine zb3 ?_ _ | refine zb4 ?_ ?_ _ | refine zb5 (by assumption) ?_ ?_ | exact zb6 _) | omega | (simp only [zsz]; omega) | (simp; omega))))).out).mono ?_; rintro e w1 ⟨rfl, rfl⟩)))
    go_upto_region 2 with fail
    refine wp_named (fun wx => Below w.heap.size w wx ∧ w.heap.size < wx.heap.size ∧ wx.cell? ⟨w.heap.size, 0, none⟩ = some (.int .i64 p) ∧ wx.cell? ⟨w.heap.size, 1, none⟩ = some (.int .i64 q) ∧ wx.cell? ⟨w.heap.size, 2, none⟩ = some (.int .i64 t) ∧ wx.cell? ⟨w.heap.size, 3, none⟩ = some (.int .i64 k) ∧ wx.cell? ⟨lk, 0, none⟩ = some (.slice (some ⟨b, o, none⟩) n cap)) ⟨by (repeat' first | (with_reducible first | exact zb0 _ _ | assumption | refine zb1 ?_ ?_ _ | refine zb2 ?_ | refine zb3 ?_ _ | refine zb4 ?_ ?_ _ | refine zb5 (by assumption) ?_ ?_ | exact zb6 _) | omega | (simp only [zsz]; omega) | (simp; omega)), by (first | omega | (simp; omega) | simp), by go_simp, by go_simp, by go_simp, by go_simp, by go_simp⟩ ?_
    clear hbn hX z0 z1 z2 z3 z4 hDn
    rintro wx ⟨hbx, hX, z0, z1, z2, z3, z4⟩
    have glx : lk < wx.heap.size := by omega
    go_region_held3 (fun w' => w'.cell? ⟨w.heap.size, 0, none⟩ = some (.int .i64 p) ∧ w'.cell? ⟨w.heap.size, 1, none⟩ = some (.int .i64 q) ∧ w'.cell? ⟨w.heap.size, 2, none⟩ = some (.int .i64 t) ∧ w'.cell? ⟨w.heap.size, 3, none⟩ = some (.int .i64 k) ∧ w'.cell? ⟨lk, 0, none⟩ = some (.slice (some ⟨b, o, none⟩) n cap)) (first | (with_reducible exact ⟨z0, z1, z2, z3, z4⟩) | (refine ⟨?_, ?_, ?_, ?_, ?_⟩ <;> go_simp)) (((go_at_call 88; refine ((HA _).out).mono ?_; rintro e w1 ⟨rfl, hb1⟩; obtain ⟨hc1, hf1, hl1⟩ := bcell hb1; (try simp only [zdz] at hc1 hf1 hl1); have hz1 := hb1.size; (try simp only [zsz] at hz1); (try have g0 : w.heap.size < w1.heap.size := by omega); (try have g1 : w.heap.size + 1 < w1.heap.size := by omega); (try have gl : lk < w1.heap.size := by omega)); (have gX : w.heap.size < w1.heap.size := by omega); (have gl9 : lk < w1.heap.size := by omega)))
    go_wp2_with (go_at_call 52; refine (HTT.out _ (by (repeat' first | (with_reducible first | exact zb0 _ _ | assumption | refine zb1 ?_ ?_ _ | refine zb2 ?_ | refine zb3 ?_ _ | refine zb4 ?_ ?_ _ | refine zb5 (by assumption) ?_ ?_ | exact zb6 _) | omega | (simp only [zsz]; omega) | (simp; omega)))).mono ?_; rintro en w2 ⟨rfl, hp2⟩)
    go_returns
    exact ⟨rfl, _, by (repeat' first | (with_reducible first | exact zb0 _ _ | assumption | refine zb1 ?_ ?_ _ | refine zb2 ?_ | refine zb3 ?_ _ | refine zb4 ?_ ?_ _ | refine zb5 (by assumption) ?_ ?_ | exact zb6 _) | omega | (simp only [zsz]; omega) | (simp; omega)), hp2⟩
theorem rtgtOk (h : ROk K w lk b o n cap D dp bud S) (p q t k lim : Int) (hm : mayE n p q t k = 0) (hi : refB t = true) (ht : tgtB D p q t k lim = true) :
    Calls Try.prog 54 #[.pointer (some ⟨lk, 0, none⟩), .agg #[.int .i64 p, .int .i64 q, .int .i64 t, .int .i64 k], .int .i64 lim] w fun en w' => en = .returned (.int .i64 (p - loadV D p q)) ∧ ROk K w' lk b o n cap D dp bud S ∧ RKept K w w' := by
  obtain ⟨m1, m2, m3, m4, m5, m6, m7, m8, m9⟩ := mayE_zero hm
  have hK := h.hK
  refine (rtgt_ok w h.c0 h.doc h.lkt p q t k lim m4 m9 m2 hi m7 m8 ht).mono ?_
  rintro en w1 ⟨rfl, hb⟩
  exact ⟨rfl, h.keep hb, RKept.of_below hK hb⟩
theorem rtgtNo (h : ROk K w lk b o n cap D dp bud S) (p q t k lim : Int) (hm : mayE n p q t k = 0) (hi : refB t = true) (ht : ¬ tgtB D p q t k lim = true) :
    Calls Try.prog 54 #[.pointer (some ⟨lk, 0, none⟩), .agg #[.int .i64 p, .int .i64 q, .int .i64 t, .int .i64 k], .int .i64 lim] w fun en w' => en = .returned (.int .i64 0) ∧ RNo K w' lk b o n cap D dp S.s p 211 ∧ RKept K w w' := by
  obtain ⟨m1, m2, m3, m4, m5, m6, m7, m8, m9⟩ := mayE_zero hm
  have hK := h.hK
  refine (rtgt_bad w (fun W w' => RNo K w' lk b o n cap D dp S.s p 211 ∧ RKept K W w') h.c0 h.doc h.lkt p q t k lim m4 m9 m2 hi m7 m8 ht (fun W hW => rtell_no (h.keep hW) p 211 (by omega))).mono ?_
  rintro en w1 ⟨rfl, W, hb, h1, h2⟩
  exact ⟨rfl, h1, (RKept.of_below hK hb).trans h2⟩
theorem rtgtStill {s a' e : Int} (h : RNo K w lk b o n cap D dp s a' e) (p q t k lim : Int) (hm : mayE n p q t k = 0) (hi : refB t = true) :
    Calls Try.prog 54 #[.pointer (some ⟨lk, 0, none⟩), .agg #[.int .i64 p, .int .i64 q, .int .i64 t, .int .i64 k], .int .i64 lim] w fun en w' => (∃ x, en = .returned (.int .i64 x)) ∧ RNo K w' lk b o n cap D dp s a' e ∧ RKept K w w' := by
  obtain ⟨m1, m2, m3, m4, m5, m6, m7, m8, m9⟩ := mayE_zero hm
  have hK := h.hK
  by_cases ht : tgtB D p q t k lim = true
  · refine (rtgt_ok w h.c0 h.doc h.lkt p q t k lim m4 m9 m2 hi m7 m8 ht).mono ?_
    rintro en w1 ⟨rfl, hb⟩
    exact ⟨⟨_, rfl⟩, h.keep hb, RKept.of_below hK hb⟩
  · refine (rtgt_bad w (fun W w' => RNo K w' lk b o n cap D dp s a' e ∧ RKept K W w') h.c0 h.doc h.lkt p q t k lim m4 m9 m2 hi m7 m8 ht (fun W hW => rtell_still (h.keep hW) p 211)).mono ?_
    rintro en w1 ⟨rfl, W, hb, h1, h2⟩
    exact ⟨⟨_, rfl⟩, h1, (RKept.of_below hK hb).trans h2⟩
end
end
end Go.Proofs.Ytmpflnlajakibaa
